/- What calls make of a view: plain laws. What calls make of a view: sizes, what is gone, whole, told. -/
import Derived.Test.YtnenlkojecicfaaDoorT2
set_option linter.unusedVariables false
set_option linter.unusedSimpArgs false
namespace Go.Proofs.YtnenlkojecicfaaDoor.V
open Go.RowKit Go.Proofs.YtnenlkojecicfaaDoorW.PrintWords Go.Proofs.YtnenlkojecicfaaDoor.P

/-- The UIDs of places. -/
def uids (S : List S74) : List Int := S.map (·.f0)
/-- UIDs that rise from 1 on, none above the greatest that ever was. -/
structure Good (S : List S74) (top : Int) : Prop where
  rise : (uids S).Pairwise (· < ·)
  pos : ∀ u ∈ uids S, 1 ≤ u
  le : ∀ u ∈ uids S, u ≤ top
  top0 : 0 ≤ top
theorem Good.nil : Good [] 0 := ⟨List.Pairwise.nil, by simp [uids], by simp [uids], Int.le_refl _⟩
theorem Good.sub {S S' : List S74} {top : Int} (h : Good S top) (hs : (uids S').Sublist (uids S)) : Good S' top :=
  ⟨h.rise.sublist hs, fun u hu => h.pos u (hs.subset hu), fun u hu => h.le u (hs.subset hu), h.top0⟩
theorem Good.same {S S' : List S74} {top : Int} (h : Good S top) (hs : uids S' = uids S) : Good S' top := h.sub (by rw [hs]; exact List.Sublist.refl _)
theorem Good.pairwise {S : List S74} {top : Int} (h : Good S top) : S.Pairwise (fun p q => p.f0 < q.f0) := by
  have := h.rise
  unfold uids at this
  exact List.pairwise_map.1 this
/-- Growing: the old ones, then some that are above. -/
theorem grow_good (l : List S43) : ∀ (s : List S74 × Int), Good s.1 s.2 → Good (l.foldl growS s).1 (l.foldl growS s).2 ∧ s.2 ≤ (l.foldl growS s).2 ∧ ∃ N : List S74, (l.foldl growS s).1 = s.1 ++ N ∧ (∀ p ∈ N, s.2 < p.f0) ∧ (N = [] → (l.foldl growS s).2 = s.2) ∧ (∀ h : N ≠ [], (N.getLast h).f0 = (l.foldl growS s).2) := by
  induction l with
  | nil => exact fun s h => ⟨h, Int.le_refl _, [], by simp, by simp, fun _ => rfl, fun h => absurd rfl h⟩
  | cons m r ih =>
    intro s h
    rw [List.foldl_cons]
    by_cases hm : s.2 < m.f0
    · have e : growS s m = (s.1 ++ [⟨m.f0, flagsF m.f1⟩], m.f0) := by unfold growS; rw [if_pos hm]
      have h1 : Good (growS s m).1 (growS s m).2 := by
        rw [e]
        have hu : uids (s.1 ++ [⟨m.f0, flagsF m.f1⟩]) = uids s.1 ++ [m.f0] := by simp [uids]
        refine ⟨?_, ?_, ?_, ?_⟩
        · rw [hu, List.pairwise_append]
          refine ⟨h.rise, by simp, fun a ha b hb => ?_⟩
          rw [List.mem_singleton.1 hb]
          have := h.le a ha
          omega
        · rw [hu]
          intro u hu'
          rcases List.mem_append.1 hu' with h' | h'
          · exact h.pos u h'
          · rw [List.mem_singleton.1 h']; have := h.top0; omega
        · rw [hu]
          intro u hu'
          rcases List.mem_append.1 hu' with h' | h'
          · have := h.le u h'; simp only; omega
          · rw [List.mem_singleton.1 h']; exact Int.le_refl _
        · have := h.top0; simp only; omega
      obtain ⟨g1, g2, N, g3, g4, g5, g6⟩ := ih _ h1
      refine ⟨g1, ?_, ⟨m.f0, flagsF m.f1⟩ :: N, ?_, ?_, ?_, ?_⟩
      · rw [e] at g2 ⊢
        simp only at g2
        omega
      · rw [g3, e]
        simp
      · intro p hp
        rcases List.mem_cons.1 hp with rfl | hp
        · exact hm
        · have := g4 p hp
          rw [e] at this
          simp only at this
          omega
      · intro h'
        cases h'
      · intro h'
        by_cases hN : N = []
        · subst hN
          rw [g5 rfl, e]
          rfl
        · rw [List.getLast_cons hN]
          exact g6 hN
    · have e : growS s m = s := by unfold growS; rw [if_neg hm]
      rw [e]
      exact ih s h
theorem uids_map {f : S74 → S74} (hf : ∀ p, (f p).f0 = p.f0) (S : List S74) : uids (S.map f) = uids S := by
  unfold uids
  rw [List.map_map]
  exact List.map_congr_left (fun p _ => hf p)
theorem flagP_f0 (l : List S43) (p : S74) : (flagP l p).f0 = p.f0 := by unfold flagP; split <;> rfl
theorem noteP_f0 (n : Int) (fs : List ByteArray) (p : S74) : (noteP n fs p).f0 = p.f0 := by unfold noteP; split <;> rfl
theorem uids_last {S : List S74} (hS : S ≠ []) (h : uids S ≠ []) : (uids S).getLast h = (S.getLast hS).f0 := List.getLast_map (f := fun x : S74 => x.f0) h
theorem uids_filter_sub (f : S74 → Bool) (S : List S74) : (uids (S.filter f)).Sublist (uids S) := (List.filter_sublist).map _
/-- What a call makes of the UIDs: some of the old ones, then some that are above all that ever was. -/
structure Moved (S : List S74) (top : Int) (S' : List S74) (top' : Int) : Prop where
  good : Good S' top'
  up : top ≤ top'
  parts : ∃ K N : List Int, uids S' = K ++ N ∧ K.Sublist (uids S) ∧ (∀ u ∈ N, top < u) ∧ (N = [] → top' = top) ∧ (∀ h : N ≠ [], N.getLast h = top')
theorem sync_moved {S : List S74} {top : Int} (h : Good S top) (q : Bool) (l : List S43) : Moved S top (syncS q S top l) (syncG q S top l).2 := by
  have h1 : Good (syncS1 q l S) top := by
    unfold syncS1
    split
    · exact h
    · exact h.sub (uids_filter_sub _ _)
  have hsub : (uids (syncS1 q l S)).Sublist (uids S) := by
    unfold syncS1
    split
    · exact List.Sublist.refl _
    · exact uids_filter_sub _ _
  obtain ⟨g1, g2, N, g3, g4, g5, g6⟩ := grow_good l (syncS1 q l S, top) h1
  have e : uids (syncS q S top l) = uids (syncG q S top l).1 := uids_map (flagP_f0 l) _
  refine ⟨Good.same g1 e, g2, uids (syncS1 q l S), uids N, ?_, hsub, ?_, ?_, ?_⟩
  · rw [e]
    show uids (l.foldl growS (syncS1 q l S, top)).1 = _
    rw [g3]
    simp [uids]
  · intro u hu
    obtain ⟨p, hp, rfl⟩ := List.mem_map.1 hu
    exact g4 p hp
  · intro hN
    exact g5 (List.map_eq_nil_iff.1 hN)
  · intro hN
    have hN' : N ≠ [] := fun e => hN (by rw [e]; rfl)
    have := g6 hN'
    rw [uids_last hN']
    exact this
theorem do_moved {S : List S74} {top : Int} (h : Good S top) (x : S33) : Moved S top (doS x S top) (doT x S top) := by
  unfold doS doT
  by_cases h0 : x.f0 = 0
  · rw [if_pos h0, if_pos h0]
    exact sync_moved h false _
  rw [if_neg h0, if_neg h0]
  by_cases h1 : x.f0 = 1
  · rw [if_pos h1, if_pos h1]
    exact sync_moved h true _
  rw [if_neg h1, if_neg h1]
  have same : ∀ S', uids S' = uids S → Moved S top S' top := fun S' e => ⟨h.same e, Int.le_refl _, uids S, [], by rw [e]; simp, List.Sublist.refl _, by simp, fun _ => rfl, fun h => absurd rfl h⟩
  split
  · exact same _ (uids_map (noteP_f0 _ _) _)
  · exact same _ rfl
/-- The greatest UID that ever was, by what is seen: the last place. -/
theorem moved_top {S S' : List S74} {top top' : Int} (h : Moved S top S' top') : max top (uidOf S' S'.length) = top' := by
  obtain ⟨K, N, hu, hK, hN, h0, h1⟩ := h.parts
  have hl : S'.length = (uids S').length := by simp [uids]
  unfold uidOf
  by_cases hN0 : N = []
  · rw [h0 hN0]
    split
    · rename_i hc
      have hlt : S'.length - 1 < S'.length := by omega
      have e : ((S'.length : Int) - 1).toNat = S'.length - 1 := by omega
      rw [e]
      have hm : (S'.getD (S'.length - 1) z74).f0 ∈ uids S' := by
        simp only [List.getD, List.getElem?_eq_getElem hlt, Option.getD_some]
        exact List.mem_map.2 ⟨_, List.getElem_mem hlt, rfl⟩
      have := h.good.le _ hm
      rw [h0 hN0] at this
      exact Int.max_eq_left this
    · have := h.good.top0
      rw [h0 hN0] at this
      exact Int.max_eq_left this
  · have hne : uids S' ≠ [] := by rw [hu]; simp [hN0]
    have hS : S' ≠ [] := fun e => hne (by rw [e]; rfl)
    have hpos : 0 < S'.length := List.length_pos_iff.2 hS
    rw [if_pos ⟨by omega, Int.le_refl _⟩]
    have e : ((S'.length : Int) - 1).toNat = S'.length - 1 := by omega
    rw [e]
    have hlast : (S'.getD (S'.length - 1) z74).f0 = top' := by
      have h3 := h1 hN0
      have h4 : (uids S').getLast hne = N.getLast hN0 := by
        simp only [hu]
        exact List.getLast_append_of_ne_nil _ hN0
      rw [← h3, ← h4, uids_last hS, List.getLast_eq_getElem]
      simp [List.getD, List.getElem?_eq_getElem (show S'.length - 1 < S'.length by omega)]
    rw [hlast]
    exact Int.max_eq_right h.up
end Go.Proofs.YtnenlkojecicfaaDoor.V


namespace Go.Proofs.YtnenlkojecicfaaDoor.V
open Go.RowKit Go.Proofs.YtnenlkojecicfaaDoorW.PrintWords Go.Proofs.YtnenlkojecicfaaDoor.P

def wfI (u : Int) : Prop := (Lit.int .i64 u).wf = true
theorem grow_mem (l : List S43) : ∀ (s : List S74 × Int), ∀ u ∈ uids (l.foldl growS s).1, u ∈ uids s.1 ∨ ∃ m ∈ l, u = m.f0 := by
  intro s u hu
  obtain ⟨p, hp, rfl⟩ := List.mem_map.1 hu
  rcases mem_growF l s hp with h | ⟨m, hm, e⟩
  · exact .inl (List.mem_map.2 ⟨p, h, rfl⟩)
  · exact .inr ⟨m, hm, e⟩
theorem uids_syncS (q : Bool) (S : List S74) (top : Int) (l : List S43) : uids (syncS q S top l) = uids (syncG q S top l).1 := uids_map (flagP_f0 l) _
theorem uids_syncS1 (q : Bool) (l : List S43) (S : List S74) : (uids (syncS1 q l S)).Sublist (uids S) := by
  unfold syncS1
  split
  · exact List.Sublist.refl _
  · exact uids_filter_sub _ _
theorem sync_mem (q : Bool) (S : List S74) (top : Int) (ms : List S43) : ∀ u ∈ uids (syncS q S top (risingF [] ms)), u ∈ uids S ∨ ∃ m ∈ ms, u = m.f0 := by
  intro u hu
  rw [uids_syncS] at hu
  rcases grow_mem _ _ u hu with h | ⟨m, hm, e⟩
  · exact .inl ((uids_syncS1 q _ S).subset h)
  · rcases mem_risingF [] m hm with h | h
    · cases h
    · exact .inr ⟨m, h, e⟩
theorem do_mem (x : S33) (S : List S74) (top : Int) : ∀ u ∈ uids (doS x S top), u ∈ uids S ∨ ∃ m ∈ x.f1, u = m.f0 := by
  unfold doS
  split
  · exact sync_mem _ _ _ _
  split
  · exact sync_mem _ _ _ _
  split
  · intro u hu
    rw [noteS, uids_map (noteP_f0 _ _)] at hu
    exact .inl hu
  · exact fun u hu => .inl hu
theorem sync_len (q : Bool) (S : List S74) (top : Int) (ms : List S43) : (syncS q S top (risingF [] ms)).length ≤ S.length + ms.length := by
  unfold syncS
  rw [List.length_map]
  have h1 := growF_len (syncS1 q (risingF [] ms) S) top (risingF [] ms)
  have h2 : (syncS1 q (risingF [] ms) S).length ≤ S.length := by
    unfold syncS1
    split
    · exact Nat.le_refl _
    · exact stayF_len _ _
  have h3 := rising_len ms
  unfold syncG
  omega
theorem do_len (x : S33) (S : List S74) (top : Int) : (doS x S top).length ≤ S.length + x.f1.length := by
  unfold doS
  split
  · exact sync_len _ _ _ _
  split
  · exact sync_len _ _ _ _
  split
  · unfold noteS; rw [List.length_map]; omega
  · omega
/-- A view's places: what is carried from call to call. -/
structure Vw (S : List S74) (top : Int) (n : Nat) : Prop where
  good : Good S top
  wf : ∀ p ∈ S, (Lit.int .i64 p.f0).wf = true
  len : S.length ≤ n
theorem wf_uids {S : List S74} : (∀ p ∈ S, (Lit.int .i64 p.f0).wf = true) ↔ ∀ u ∈ uids S, (Lit.int .i64 u).wf = true := by
  constructor
  · intro h u hu
    obtain ⟨p, hp, rfl⟩ := List.mem_map.1 hu
    exact h p hp
  · intro h p hp
    exact h _ (List.mem_map.2 ⟨p, hp, rfl⟩)
theorem Vw.go {S : List S74} {top : Int} {n : Nat} (h : Vw S top n) (x : S33) (hx : ∀ m ∈ x.f1, (Lit.int .i64 m.f0).wf = true) (hl : x.f1.length ≤ 60) : Vw (doS x S top) (doT x S top) (n + 60) := by
  refine ⟨(do_moved h.good x).good, wf_uids.2 (fun u hu => ?_), ?_⟩
  · rcases do_mem x S top u hu with h1 | ⟨m, hm, rfl⟩
    · exact wf_uids.1 h.wf u h1
    · exact hx m hm
  · have := do_len x S top
    have := h.len
    omega
theorem new_moved (ms : List S43) : Moved [] 0 (growF [] 0 (risingF [] ms)).1 (growF [] 0 (risingF [] ms)).2 := by
  obtain ⟨g1, g2, N, g3, g4, g5, g6⟩ := grow_good (risingF [] ms) ([], 0) Good.nil
  refine ⟨g1, g2, [], uids N, ?_, List.Sublist.refl _, ?_, ?_, ?_⟩
  · show uids ((risingF [] ms).foldl growS ([], 0)).1 = _
    rw [g3]
    simp [uids]
  · intro u hu
    obtain ⟨p, hp, rfl⟩ := List.mem_map.1 hu
    exact g4 p hp
  · intro hN
    exact g5 (List.map_eq_nil_iff.1 hN)
  · intro hN
    have hN' : N ≠ [] := fun e => hN (by rw [e]; rfl)
    have := g6 hN'
    rw [uids_last hN']
    exact this
theorem new_vw (ms : List S43) (hx : ∀ m ∈ ms, (Lit.int .i64 m.f0).wf = true) (hl : ms.length ≤ 60) : Vw (growF [] 0 (risingF [] ms)).1 (growF [] 0 (risingF [] ms)).2 60 := by
  refine ⟨(new_moved ms).good, wf_uids.2 (fun u hu => ?_), ?_⟩
  · rcases grow_mem _ _ u hu with h | ⟨m, hm, rfl⟩
    · cases h
    · rcases mem_risingF [] m hm with h | h
      · cases h
      · exact hx m h
  · have := growF_len [] 0 (risingF [] ms)
    have := rising_len ms
    simp at *
    omega
theorem uidOf_nonneg {S : List S74} {top : Int} (h : Good S top) (n : Int) : 0 ≤ uidOf S n := by
  unfold uidOf
  split
  · rename_i hc
    have hlt : (n - 1).toNat < S.length := by omega
    have := h.pos (S.getD (n - 1).toNat z74).f0 (by
      rw [List.getD, List.getElem?_eq_getElem hlt]
      exact List.mem_map.2 ⟨_, List.getElem_mem hlt, rfl⟩)
    omega
  · exact Int.le_refl _
theorem new_top (ms : List S43) : uidOf (growF [] 0 (risingF [] ms)).1 (growF [] 0 (risingF [] ms)).1.length = (growF [] 0 (risingF [] ms)).2 := by
  have h1 := moved_top (new_moved ms)
  have h2 := uidOf_nonneg (new_moved ms).good ((growF [] 0 (risingF [] ms)).1.length : Int)
  rwa [Int.max_eq_right h2] at h1

/-! ### ViewRises -/
/-- What is gone. -/
structure Gone (G : List Int) (S : List S74) (top : Int) : Prop where
  le : ∀ u ∈ G, u ≤ top
  off : ∀ u ∈ G, u ∉ uids S
  wf : ∀ u ∈ G, (Lit.int .i64 u).wf = true
theorem Gone.not_now {G : List Int} {S S' : List S74} {top top' : Int} (h : Gone G S top) (hm : Moved S top S' top') {u : Int} (hu : u ∈ uids S') : u ∉ G := by
  intro hg
  obtain ⟨K, N, e, hK, hN, _⟩ := hm.parts
  rw [e] at hu
  rcases List.mem_append.1 hu with hu | hu
  · exact h.off u hg (hK.subset hu)
  · have := hN u hu
    have := h.le u hg
    omega
theorem Moved.fresh {S S' : List S74} {top top' : Int} (hm : Moved S top S' top') {u : Int} (hu : u ∈ uids S') (hn : u ∉ uids S) : top < u := by
  obtain ⟨K, N, e, hK, hN, _⟩ := hm.parts
  rw [e] at hu
  rcases List.mem_append.1 hu with hu | hu
  · exact absurd (hK.subset hu) hn
  · exact hN u hu
/-- What is gone behind the first ones of those that were. -/
def goneTo (G was now : List Int) (k : Nat) : List Int := G ++ (was.take k).filter (fun u => !now.contains u)
theorem goneTo_zero (G was now : List Int) : goneTo G was now 0 = G := by simp [goneTo]
theorem goneTo_yes {G was now : List Int} {k : Nat} {u : Int} (hu : was[k]? = some u) (h : now.contains u = false) : goneTo G was now (k + 1) = goneTo G was now k ++ [u] := by
  unfold goneTo
  rw [take_snoc hu, List.filter_append, ← List.append_assoc]
  congr 1
  rw [List.filter_cons, h]
  rfl
theorem goneTo_no {G was now : List Int} {k : Nat} {u : Int} (hu : was[k]? = some u) (h : now.contains u = true) : goneTo G was now (k + 1) = goneTo G was now k := by
  unfold goneTo
  rw [take_snoc hu, List.filter_append]
  simp only [List.filter_cons, h, Bool.not_true, Bool.false_eq_true, if_false, List.filter_nil, List.append_nil]
theorem goneTo_fresh {G : List Int} {S : List S74} {top : Int} (hS : Good S top) (h : Gone G S top) (now : List Int) {k : Nat} {u : Int} (hu : (uids S)[k]? = some u) : u ∉ goneTo G (uids S) now k := by
  intro hg
  rcases List.mem_append.1 hg with hg | hg
  · exact h.off u hg (List.mem_of_getElem? hu)
  · have hm := (List.mem_filter.1 hg).1
    obtain ⟨j, hj⟩ := List.getElem?_of_mem hm
    have hjk : j < k := by
      have := (List.getElem?_eq_some_iff.1 hj).1
      rw [List.length_take] at this
      omega
    rw [List.getElem?_take_of_lt hjk] at hj
    obtain ⟨hk, e1⟩ := List.getElem?_eq_some_iff.1 hu
    obtain ⟨hj', e2⟩ := List.getElem?_eq_some_iff.1 hj
    have := List.pairwise_iff_getElem.1 hS.rise j k hj' hk hjk
    omega
theorem Gone.next {G : List Int} {S S' : List S74} {top top' : Int} (h : Gone G S top) (hS : Good S top) (hwf : ∀ p ∈ S, (Lit.int .i64 p.f0).wf = true) (hm : Moved S top S' top') : Gone (goneTo G (uids S) (uids S') (uids S).length) S' top' := by
  unfold goneTo
  rw [List.take_length]
  refine ⟨fun u hu => ?_, fun u hu hn => ?_, fun u hu => ?_⟩
  · rcases List.mem_append.1 hu with hu | hu
    · have := h.le u hu; have := hm.up; omega
    · have := hS.le u (List.mem_filter.1 hu).1; have := hm.up; omega
  · rcases List.mem_append.1 hu with hu | hu
    · exact h.not_now hm hn hu
    · have := (List.mem_filter.1 hu).2
      simp at this
      exact this hn
  · rcases List.mem_append.1 hu with hu | hu
    · exact h.wf u hu
    · exact wf_uids.1 hwf u (List.mem_filter.1 hu).1
theorem Gone.nil (S : List S74) (top : Int) : Gone [] S top := ⟨(fun _ h => nomatch h), (fun _ h => nomatch h), (fun _ h => nomatch h)⟩

/-! ### ViewWhole -/
theorem rise_ext : ∀ {a b : List Int}, a.Pairwise (· < ·) → b.Pairwise (· < ·) → (∀ u, u ∈ a ↔ u ∈ b) → a = b := by
  intro a
  induction a with
  | nil =>
    intro b _ _ h
    cases b with
    | nil => rfl
    | cons y s => exact absurd ((h y).2 (by simp)) (by simp)
  | cons x r ih =>
    intro b ha hb h
    cases b with
    | nil => exact absurd ((h x).1 (by simp)) (by simp)
    | cons y s =>
      have ha' := List.pairwise_cons.1 ha
      have hb' := List.pairwise_cons.1 hb
      have exy : x = y := by
        rcases List.mem_cons.1 ((h x).1 (by simp)) with e | hx
        · exact e
        · rcases List.mem_cons.1 ((h y).2 (by simp)) with e | hy
          · exact e.symm
          · have := ha'.1 y hy
            have := hb'.1 x hx
            omega
      subst exy
      rw [ih ha'.2 hb'.2 (fun u => ?_)]
      constructor
      · intro hu
        rcases List.mem_cons.1 ((h u).1 (List.mem_cons_of_mem _ hu)) with e | hs
        · have := ha'.1 u hu; omega
        · exact hs
      · intro hu
        rcases List.mem_cons.1 ((h u).2 (List.mem_cons_of_mem _ hu)) with e | hs
        · have := hb'.1 u hu; omega
        · exact hs
/-- What a client that was told all knows. -/
def wantF (S : List S74) (top : Int) (l : List S43) : List Int := (l.filter (fun m => (uids S).contains m.f0 || decide (top < m.f0))).map (·.f0)
theorem thereF_iff (l : List S43) (u : Int) : thereF l u = true ↔ ∃ m ∈ l, m.f0 = u := by
  unfold thereF
  rw [List.any_eq_true]
  simp
/-- All that is above comes in. -/
theorem grow_above (l : List S43) : ∀ (s : List S74 × Int), Rise l → (∀ m ∈ l, s.2 < m.f0 → m.f0 ∈ uids (l.foldl growS s).1) ∧ (∀ u ∈ uids (l.foldl growS s).1, u ∈ uids s.1 ∨ ∃ m ∈ l, u = m.f0 ∧ s.2 < m.f0) ∧ (∀ u ∈ uids s.1, u ∈ uids (l.foldl growS s).1) ∧ (∀ m ∈ l, m.f0 ≤ (l.foldl growS s).2) ∧ s.2 ≤ (l.foldl growS s).2 := by
  induction l with
  | nil => exact fun s _ => ⟨(fun _ h => nomatch h), fun u hu => .inl hu, fun u hu => hu, (fun _ h => nomatch h), Int.le_refl _⟩
  | cons m r ih =>
    intro s hR
    have hR' : Rise r := ⟨(List.pairwise_cons.1 hR.1).2, fun x hx => hR.2 x (List.mem_cons_of_mem _ hx)⟩
    have hlt := (List.pairwise_cons.1 hR.1).1
    rw [List.foldl_cons]
    obtain ⟨h1, h2, h3, h4, h5⟩ := ih (growS s m) hR'
    by_cases hm : s.2 < m.f0
    · have e : growS s m = (s.1 ++ [⟨m.f0, flagsF m.f1⟩], m.f0) := by unfold growS; rw [if_pos hm]
      rw [e] at h1 h2 h3 h4 h5 ⊢
      have hu : uids (s.1 ++ [⟨m.f0, flagsF m.f1⟩]) = uids s.1 ++ [m.f0] := by simp [uids]
      simp only [hu] at h1 h2 h3 h4 h5 ⊢
      refine ⟨fun x hx hs => ?_, fun u hu => ?_, fun u hu => h3 u (List.mem_append_left _ hu), fun x hx => ?_, by omega⟩
      · rcases List.mem_cons.1 hx with rfl | hx
        · exact h3 _ (by simp)
        · exact h1 x hx (hlt x hx)
      · rcases h2 u hu with h | ⟨x, hx, e1, e2⟩
        · rcases List.mem_append.1 h with h | h
          · exact .inl h
          · exact .inr ⟨m, by simp, List.mem_singleton.1 h, hm⟩
        · exact .inr ⟨x, List.mem_cons_of_mem _ hx, e1, by omega⟩
      · rcases List.mem_cons.1 hx with rfl | hx
        · exact h5
        · exact h4 x hx
    · have e : growS s m = s := by unfold growS; rw [if_neg hm]
      rw [e] at h1 h2 h3 h4 h5 ⊢
      refine ⟨fun x hx hs => ?_, fun u hu => ?_, h3, fun x hx => ?_, h5⟩
      · rcases List.mem_cons.1 hx with rfl | hx
        · exact absurd hs hm
        · exact h1 x hx hs
      · rcases h2 u hu with h | ⟨x, hx, e1, e2⟩
        · exact .inl h
        · exact .inr ⟨x, List.mem_cons_of_mem _ hx, e1, e2⟩
      · rcases List.mem_cons.1 hx with rfl | hx
        · omega
        · exact h4 x hx
theorem rise_map {l : List S43} (h : Rise l) : (l.map (·.f0)).Pairwise (· < ·) := List.pairwise_map.2 h.1
theorem whole_uids {S : List S74} {top : Int} (h : Good S top) {l : List S43} (hl : Rise l) : uids (syncS false S top l) = wantF S top l := by
  have hm := sync_moved h false l
  refine rise_ext hm.good.rise ?_ (fun u => ?_)
  · unfold wantF
    exact (rise_map hl).sublist ((List.filter_sublist).map _)
  · rw [uids_syncS]
    obtain ⟨h1, h2, h3, _, _⟩ := grow_above l (syncS1 false l S, top) hl
    have hs1 : ∀ u, u ∈ uids (syncS1 false l S) ↔ u ∈ uids S ∧ thereF l u = true := by
      intro u
      unfold syncS1 stayF uids
      simp only [Bool.false_eq_true, if_false, List.mem_map, List.mem_filter]
      constructor
      · rintro ⟨p, ⟨hp, ht⟩, rfl⟩
        exact ⟨⟨p, hp, rfl⟩, ht⟩
      · rintro ⟨⟨p, hp, rfl⟩, ht⟩
        exact ⟨p, ⟨hp, ht⟩, rfl⟩
    constructor
    · intro hu
      unfold wantF
      rcases h2 u hu with h' | ⟨m, hm, rfl, ht⟩
      · obtain ⟨a, b⟩ := (hs1 u).1 h'
        obtain ⟨m, hm, rfl⟩ := (thereF_iff l u).1 b
        exact List.mem_map.2 ⟨m, List.mem_filter.2 ⟨hm, by simp [a]⟩, rfl⟩
      · exact List.mem_map.2 ⟨m, List.mem_filter.2 ⟨hm, by simp at ht; simp [ht]⟩, rfl⟩
    · intro hu
      obtain ⟨m, hm, rfl⟩ := List.mem_map.1 hu
      obtain ⟨hm, hc⟩ := List.mem_filter.1 hm
      by_cases ht : top < m.f0
      · exact h1 m hm ht
      · have hc' : m.f0 ∈ uids S := by simpa [ht] using hc
        exact h3 _ ((hs1 _).2 ⟨hc', (thereF_iff l _).2 ⟨m, hm, rfl⟩⟩)
theorem look_eq {l : List S43} (hl : Rise l) {m : S43} (hm : m ∈ l) : look l m.f0 = flagsF m.f1 := by
  have hf : l.find? (fun x => decide (x.f0 = m.f0)) = some m := by
    induction l with
    | nil => cases hm
    | cons x r ih =>
      rw [List.find?_cons]
      rcases List.mem_cons.1 hm with rfl | hm
      · simp
      · have := (List.pairwise_cons.1 hl.1).1 m hm
        have hne : decide (x.f0 = m.f0) = false := by simp; omega
        rw [hne]
        exact ih ⟨(List.pairwise_cons.1 hl.1).2, fun y hy => hl.2 y (List.mem_cons_of_mem _ hy)⟩ hm
  unfold look
  rw [hf]
/-- What is there already, and told. -/
def Told (l : List S43) (S : List S74) (top : Int) : Prop := (∀ p ∈ S, thereF l p.f0 = true ∧ p.f1 = look l p.f0) ∧ ∀ m ∈ l, m.f0 ≤ top
theorem grow_flags (l : List S43) : ∀ (s : List S74 × Int) (L : List S43), Rise L → (∀ m ∈ l, m ∈ L) → (∀ p ∈ s.1, thereF L p.f0 = true) → ∀ p ∈ (l.foldl growS s).1, thereF L p.f0 = true := by
  induction l with
  | nil => exact fun s L _ _ h => h
  | cons m r ih =>
    intro s L hL hm h
    rw [List.foldl_cons]
    refine ih _ L hL (fun x hx => hm x (List.mem_cons_of_mem _ hx)) ?_
    unfold growS
    split
    · intro p hp
      rcases List.mem_append.1 hp with hp | hp
      · exact h p hp
      · rw [List.mem_singleton.1 hp]
        exact (thereF_iff L _).2 ⟨m, hm m (by simp), rfl⟩
    · exact h
theorem sync_told {S : List S74} {top : Int} {l : List S43} (hl : Rise l) : Told l (syncS false S top l) (syncG false S top l).2 := by
  refine ⟨fun p hp => ?_, (grow_above l (syncS1 false l S, top) hl).2.2.2.1⟩
  unfold syncS at hp
  obtain ⟨q, hq, rfl⟩ := List.mem_map.1 hp
  rw [flagP_f0]
  have ht : thereF l q.f0 = true := grow_flags l (syncS1 false l S, top) l hl (fun m hm => hm) (fun p hp => by
    unfold syncS1 stayF at hp
    simp only [Bool.false_eq_true, if_false] at hp
    exact (List.mem_filter.1 hp).2) q hq
  refine ⟨ht, ?_⟩
  unfold flagP
  split
  · rfl
  · rename_i hn
    by_cases e : q.f1 = look l q.f0
    · exact e
    · exact absurd ⟨ht, e⟩ hn
theorem grow_none (l : List S43) : ∀ (s : List S74 × Int), (∀ m ∈ l, m.f0 ≤ s.2) → l.foldl growS s = s := by
  induction l with
  | nil => exact fun s _ => rfl
  | cons m r ih =>
    intro s h
    rw [List.foldl_cons]
    have : growS s m = s := by unfold growS; rw [if_neg (by have := h m (by simp); omega)]
    rw [this]
    exact ih s (fun x hx => h x (List.mem_cons_of_mem _ hx))
theorem gone_none {l : List S43} : ∀ (S : List S74) (o : Nat), (∀ p ∈ S, thereF l p.f0 = true) → goneF l o S = [] := by
  intro S
  induction S with
  | nil => exact fun _ _ => rfl
  | cons p r ih =>
    intro o h
    unfold goneF
    rw [ih _ (fun x hx => h x (List.mem_cons_of_mem _ hx)), if_pos (h p (by simp))]
    rfl
theorem flagsO_none {l : List S43} : ∀ (S : List S74) (o : Nat), (∀ p ∈ S, p.f1 = look l p.f0) → flagsO l o S = [] := by
  intro S
  induction S with
  | nil => exact fun _ _ => rfl
  | cons p r ih =>
    intro o h
    unfold flagsO flagO
    rw [ih _ (fun x hx => h x (List.mem_cons_of_mem _ hx)), if_neg (by rintro ⟨_, hc⟩; exact hc (h p (by simp)))]
    rfl
/-- Told again, a client is told nothing, and nothing turns. -/
theorem told_again {S : List S74} {top : Int} {l : List S43} (h : Told l S top) (q : Bool) : syncO q S top l = [] ∧ syncS q S top l = S ∧ (syncG q S top l).2 = top := by
  have hs1 : syncS1 q l S = S := by
    unfold syncS1 stayF
    split
    · rfl
    · exact List.filter_eq_self.2 (fun p hp => (h.1 p hp).1)
  have hg : syncG q S top l = (S, top) := by
    unfold syncG growF
    rw [hs1]
    exact grow_none l (S, top) h.2
  refine ⟨?_, ?_, by rw [hg]⟩
  · unfold syncO syncO1 syncO2
    rw [hg, hs1, gone_none S 0 (fun p hp => (h.1 p hp).1), flagsO_none S 0 (fun p hp => (h.1 p hp).2)]
    simp
  · unfold syncS
    rw [hg]
    have : ∀ p ∈ S, flagP l p = p := fun p hp => by
      unfold flagP
      rw [if_neg (by rintro ⟨_, hc⟩; exact hc (h.1 p hp).2)]
    conv => rhs; rw [← List.map_id S]
    exact List.map_congr_left this

end Go.Proofs.YtnenlkojecicfaaDoor.V
