/- (*View).Note with a view. haversacklaw18.do: the walk. What calls make of a view: plain laws. What calls make of a view: sizes, what is gone, whole, told. What stands in memory between the calls of a law: the view, sets of UIDs, UIDs. -/
import Derived.Test.YtnenlkojecicfaaDoorS1c
import Derived.Test.YtnenlkojecicfaaDoorG3
import Derived.Deep.RegionHeld3
import Derived.Test.YtnenlkojecicfaaDoorS1
import Derived.Test.YtnenlkojecicfaaDoorC1
set_option linter.unusedVariables false
set_option linter.unusedSimpArgs false
namespace Go.Proofs.YtnenlkojecicfaaDoor.V
open Go.RowKit Go.Proofs.YtnenlkojecicfaaDoorW.PrintWords Go.Proofs.YtnenlkojecicfaaDoor.P

theorem count_at {S : List S74} (hs : S.Pairwise (fun p q => p.f0 < q.f0)) {k : Nat} {p : S74} (hp : S[k]? = some p) : (List.range S.length).countP (fun i => !decide (p.f0 ≤ (S.getD i z74).f0)) = k := by
  obtain ⟨hk, rfl⟩ := List.getElem?_eq_some_iff.1 hp
  have hr : List.range S.length = List.range k ++ (List.range (S.length - k)).map (k + ·) := by
    rw [← List.range_add, show k + (S.length - k) = S.length by omega]
  rw [hr, List.countP_append]
  have h1 : (List.range k).countP (fun i => !decide (S[k].f0 ≤ (S.getD i z74).f0)) = k := by
    have := (List.countP_eq_length (p := fun i => !decide (S[k].f0 ≤ (S.getD i z74).f0)) (l := List.range k)).2 (fun i hi => by
      have hik := List.mem_range.1 hi
      have := List.pairwise_iff_getElem.1 hs i k (by omega) hk hik
      simp [List.getD, List.getElem?_eq_getElem (show i < S.length by omega)]
      omega)
    rw [this, List.length_range]
  have h2 : ((List.range (S.length - k)).map (k + ·)).countP (fun i => !decide (S[k].f0 ≤ (S.getD i z74).f0)) = 0 := by
    refine List.countP_eq_zero.2 (fun i hi => ?_)
    obtain ⟨j, hj, rfl⟩ := List.mem_map.1 hi
    have hjl := List.mem_range.1 hj
    have hle : S[k].f0 ≤ (S[k + j]'(by omega)).f0 := by
      rcases Nat.eq_zero_or_pos j with rfl | h
      · exact Int.le_refl _
      · exact Int.le_of_lt (List.pairwise_iff_getElem.1 hs k (k + j) hk (by omega) (by omega))
    simp [List.getD, List.getElem?_eq_getElem (show k + j < S.length by omega)]
    omega
  rw [h1, h2]
  rfl
theorem placeB_at {S : List S74} (hs : S.Pairwise (fun p q => p.f0 < q.f0)) {k : Nat} {p : S74} (hp : S[k]? = some p) : placeB S p.f0 = (k : Int) + 1 := by
  have hk := (List.getElem?_eq_some_iff.1 hp).1
  unfold placeB
  rw [count_at hs hp, if_pos ⟨hk, by simp [List.getD, hp]⟩]
theorem placeB_none {S : List S74} {n : Int} (h : ∀ p ∈ S, p.f0 ≠ n) : placeB S n = 0 := by
  unfold placeB
  rw [if_neg]
  rintro ⟨h1, h2⟩
  refine h _ (List.getElem_mem h1) ?_
  rw [List.getD, List.getElem?_eq_getElem h1] at h2
  exact h2
def noteP (n : Int) (fs : List ByteArray) (p : S74) : S74 := if p.f0 = n then ⟨p.f0, flagsF fs⟩ else p
def noteS (S : List S74) (n : Int) (fs : List ByteArray) : List S74 := S.map (noteP n fs)
theorem noteS_none {S : List S74} {n : Int} (h : ∀ p ∈ S, p.f0 ≠ n) (fs : List ByteArray) : noteS S n fs = S := by
  unfold noteS
  conv => rhs; rw [← List.map_id S]
  refine List.map_congr_left (fun p hp => ?_)
  unfold noteP
  rw [if_neg (h p hp)]
  rfl
theorem noteS_at {S : List S74} (hs : S.Pairwise (fun p q => p.f0 < q.f0)) {k : Nat} {p : S74} (hp : S[k]? = some p) (fs : List ByteArray) : noteS S p.f0 fs = S.set k ⟨p.f0, flagsF fs⟩ := by
  obtain ⟨hk, rfl⟩ := List.getElem?_eq_some_iff.1 hp
  unfold noteS
  apply List.ext_getElem?
  intro j
  rw [List.getElem?_map, List.getElem?_set]
  by_cases h : k = j
  · subst h
    rw [if_pos rfl, if_pos hk, List.getElem?_eq_getElem hk]
    simp [noteP]
  · rw [if_neg h]
    by_cases hj : j < S.length
    · rw [List.getElem?_eq_getElem hj]
      have hne : S[j].f0 ≠ S[k].f0 := by
        rcases Nat.lt_or_gt_of_ne h with h | h
        · have := List.pairwise_iff_getElem.1 hs k j hk hj h; omega
        · have := List.pairwise_iff_getElem.1 hs j k hj hk h; omega
      simp [noteP, hne]
    · rw [List.getElem?_eq_none (by omega)]
      rfl
set_option maxRecDepth 100000 in
set_option maxHeartbeats 4000000 in
theorem note_calls (B g : Nat) (lv : Value) (S : List S74) (top : Int) (n : Int) (A : Option Addr) (c : Nat) (fs : List ByteArray) (w : World) (hv : ViewAt 70 74 B w g lv S top) (hl : S.length ≤ 1000000) (hs : S.Pairwise (fun p q => p.f0 < q.f0))
    (hr : Rd [9] B Kd.string w A fs.length fs) (hsm : ∀ f ∈ fs, f.size ≤ 140737488351232) :
    Calls Tryd.prog 29 #[.pointer (some ⟨g, 0, none⟩), .int .i64 n, .slice A fs.length c] w fun e w' => e = .returned (.tuple #[]) ∧ ViewAt 70 74 B w' g lv (noteS S n fs) top ∧ Tr (VX g lv) w w' := by
  have HV := Aside0.mk hv
  have HR := Aside0.mk hr
  have HS := Aside0.mk hs
  clear hv hr hs
  go_enter Tryd.func29, Tryd.ntmps29
  go_wp2_with fail
  refine (place_calls HV.out hl HS.out n).mono ?_
  rintro e w1 ⟨rfl, hb1⟩
  have HV1 := Aside0.mk (HV.out.below hb1)
  have HR1 := Aside0.mk (HR.out.below hb1)
  have HT1 := Aside0.mk (Tr.of_below hb1 (VX g lv))
  clear hb1 HR
  by_cases hx : ∃ p ∈ S, p.f0 = n
  · obtain ⟨p, hp, rfl⟩ := hx
    obtain ⟨k, hk⟩ := List.getElem?_of_mem hp
    rw [placeB_at HS.out hk]
    have hkl : k < S.length := (List.getElem?_eq_some_iff.1 hk).1
    obtain ⟨bl, cap, vpf, hlv2, hpc, hpv, _, hcap, _⟩ := place_at HV1.out.row hk
    have HK := Lib.hid hk
    clear hk hp hpc
    subst hlv2
    have hc0 := HV1.out.c0
    have hfz := HV1.out.frow (k * 2 + 1)
    have HVd := Aside0.mk (HV1.out.below (below_drew (Below.refl _ _)))
    have HRd := Aside0.mk (HR1.out.below (below_drew (Below.refl _ _)))
    have hkw : IntKind.i64.wrap (k : Int) = (k : Int) := by rw [IntKind.wrap_i64]; omega
    have HGB : Aside0 (g ≠ bl) := ⟨fun e => HV1.out.ne_own (by decide) (by rw [e]; rfl)⟩
    have hk2 : (0 : Int) ≤ (k : Int) := by omega
    have hk3 : (k : Int) < (S.length : Int) := by omega
    go_upto_region 2 with fail
    go_region_held3 (fun w' => w'.cell? ⟨g, 0, none⟩ = some (.slice (some ⟨bl, 0, none⟩) S.length cap)) (first | exact hc0 | exact p2 | exact p5 _)
      (first | (go_at_call 39; refine (flags_calls _ _ fs _ HRd.out.now hsm).mono ?_; rintro e w2 ⟨vf, rfl, hs1, hb2⟩; obtain ⟨Avf, cvf, hvv, _⟩ := OwnRow.slice_ hs1; subst hvv; have p2 : w2.cell? ⟨g, 0, none⟩ = some (.slice (some ⟨bl, 0, none⟩) S.length cap) := pw_cell_below hb2 hc0; have p3 : w2.cell? ⟨bl, k * 2 + 1, none⟩ = some vpf := pw_cell_below hb2 hpv; have p4 : w2.frozen? ⟨bl, k * 2 + 1, none⟩ = false := (HVd.out.below hb2).frow _; have p5 : ∀ u, (w2.setCell ⟨bl, k * 2 + 1, none⟩ u).cell? ⟨g, 0, none⟩ = some (.slice (some ⟨bl, 0, none⟩) S.length cap) := fun u => Tr.cell (Tr.setCell (Tr.refl (fun i => i = bl) w2) (.inl rfl) u) p2 (fun e => HGB.out e)))
    all_goals
      go_wp2
      go_end0
      obtain ⟨hv8, ht8⟩ := (HVd.out.below hb2).setFlags rfl HK.out (hs1.fl B) (by decide) (by decide)
      refine ⟨rfl, ?_, ?_⟩
      · rw [noteS_at HS.out HK.out]
        exact hv8
      · exact ((HT1.out.drew).then_below hb2).trans ht8 (fun i _ h => h)
  · have h : ∀ p ∈ S, p.f0 ≠ n := fun p hp e => hx ⟨p, hp, e⟩
    rw [placeB_none h]
    have H := Aside0.mk h
    clear hx h
    go_wp2
    go_end0
    exact ⟨rfl, by rw [noteS_none H.out]; exact HV1.out, HT1.out⟩
end Go.Proofs.YtnenlkojecicfaaDoor.V


namespace Go.Proofs.YtnenlkojecicfaaDoor.V
open Go.RowKit Go.Proofs.YtnenlkojecicfaaDoorW.PrintWords Go.Proofs.YtnenlkojecicfaaDoor.P

/-- What a call makes of a view, and what it tells. -/
def doS (x : S33) (S : List S74) (top : Int) : List S74 := if x.f0 = 0 then syncS false S top (risingF [] x.f1) else if x.f0 = 1 then syncS true S top (risingF [] x.f1) else if x.f0 = 2 then noteS S x.f2 x.f3 else S
def doT (x : S33) (S : List S74) (top : Int) : Int := if x.f0 = 0 then (syncG false S top (risingF [] x.f1)).2 else if x.f0 = 1 then (syncG true S top (risingF [] x.f1)).2 else top
def doO (x : S33) (S : List S74) (top : Int) : List S65 := if x.f0 = 0 then syncO false S top (risingF [] x.f1) else if x.f0 = 1 then syncO true S top (risingF [] x.f1) else []
theorem orow_low {α : Type} {R : α → List Value → Prop} {e size base b : Nat} {w : World} {v : Value} {ps : List α} (h : OwnRow R e size w base v ps) (hb : b ≤ base) : OwnRow R e size w b v ps := by
  obtain ⟨inner, ⟨h1, h2⟩, hr⟩ := h
  refine ⟨inner, ⟨h1, ?_⟩, hr⟩
  rcases h2 with h2 | ⟨g, cap, cur, hv, hg, h3⟩
  · exact .inl h2
  · exact .inr ⟨g, cap, cur, hv, Nat.le_trans hb hg, h3⟩
set_option maxRecDepth 100000 in
set_option maxHeartbeats 4000000 in
theorem do_calls (B g : Nat) (lv : Value) (S : List S74) (top : Int) (x : S33) (A1 A3 : Option Addr) (c1 c3 : Nat) (w : World) (hB : B ≤ w.heap.size) (hv : ViewAt 70 74 B w g lv S top)
    (hr : Mails B w A1 x.f1.length x.f1) (hf : Rd [9] B Kd.string w A3 x.f3.length x.f3) (hsm : ∀ m ∈ x.f1, ∀ f ∈ m.f1, f.size ≤ 140737488351232) (hsf : ∀ f ∈ x.f3, f.size ≤ 140737488351232)
    (hwf : ∀ m ∈ x.f1, (Lit.int .i64 m.f0).wf = true) (hwS : ∀ p ∈ S, (Lit.int .i64 p.f0).wf = true) (hlen : S.length + x.f1.length ≤ 100000) (hs : S.Pairwise (fun p q => p.f0 < q.f0)) :
    Calls Tryd.prog 15 #[.pointer (some ⟨g, 0, none⟩), .agg #[.int .i64 x.f0, .slice A1 x.f1.length c1, .int .i64 x.f2, .slice A3 x.f3.length c3]] w fun e w' => ∃ lv' vo : Value, e = .returned vo ∧
      ViewAt 70 74 B w' g lv' (doS x S top) (doT x S top) ∧ TRow B w' w.heap.size vo (doO x S top) ∧ Tr (VX g lv) w w' ∧ (lv'.ownBlock = lv.ownBlock ∨ ∃ b, lv'.ownBlock = some b ∧ w.heap.size ≤ b) := by
  have HB := Aside0.mk hB
  have HV := Aside0.mk hv
  have HR := Aside0.mk hr
  have HF := Aside0.mk hf
  have HSM := Aside0.mk hsm
  have HSF := Aside0.mk hsf
  have HWF := Aside0.mk hwf
  have HWS := Aside0.mk hwS
  have HS := Aside0.mk hs
  clear hB hv hr hf hsm hsf hwf hwS hs
  go_enter Tryd.func15, Tryd.ntmps15
  by_cases k0 : x.f0 = 0
  · rw [k0]
    have K0 := Lib.hid k0
    clear k0
    go_wp2_with fail
    refine (sync_calls B g lv S top false A1 c1 x.f1 _ (by have := HB.out; simp; omega) (HV.out.below (below_alloc (Below.refl _ _) _)) (HR.out.below (below_alloc (Below.refl _ _) _)) HSM.out HWF.out HWS.out hlen).mono ?_
    rintro e w1 ⟨lv', vo, rfl, hv1, ho1, ht1, hat⟩
    go_wp2
    go_ret
    refine ⟨lv', vo, rfl, ?_, ?_, (Tr.of_below (below_alloc (Below.refl _ _) _) (VX g lv)).trans ht1 (fun i _ h => h), ?_⟩
    · unfold doS doT
      rw [if_pos K0.out, if_pos K0.out]
      exact hv1
    · unfold doO
      rw [if_pos K0.out]
      exact orow_low ho1 (by simp)
    · rcases hat with h | ⟨b, h1, h2⟩
      · exact .inl h
      · exact .inr ⟨b, h1, by simp at h2; omega⟩
  have K0 := Lib.hid k0
  by_cases k1 : x.f0 = 1
  · rw [k1]
    have K1 := Lib.hid k1
    clear k1 k0
    go_wp2_with fail
    refine (sync_calls B g lv S top true A1 c1 x.f1 _ (by have := HB.out; simp; omega) (HV.out.below (below_alloc (Below.refl _ _) _)) (HR.out.below (below_alloc (Below.refl _ _) _)) HSM.out HWF.out HWS.out hlen).mono ?_
    rintro e w1 ⟨lv', vo, rfl, hv1, ho1, ht1, hat⟩
    go_wp2
    go_ret
    refine ⟨lv', vo, rfl, ?_, ?_, (Tr.of_below (below_alloc (Below.refl _ _) _) (VX g lv)).trans ht1 (fun i _ h => h), ?_⟩
    · unfold doS doT
      rw [if_neg K0.out, if_pos K1.out, if_neg K0.out, if_pos K1.out]
      exact hv1
    · unfold doO
      rw [if_neg K0.out, if_pos K1.out]
      exact orow_low ho1 (by simp)
    · rcases hat with h | ⟨b, h1, h2⟩
      · exact .inl h
      · exact .inr ⟨b, h1, by simp at h2; omega⟩
  have K1 := Lib.hid k1
  by_cases k2 : x.f0 = 2
  · rw [k2]
    have K2 := Lib.hid k2
    clear k2 k1 k0
    go_wp2_with fail
    refine (note_calls B g lv S top x.f2 A3 c3 x.f3 _ (HV.out.below (below_alloc (Below.refl _ _) _)) (by omega) HS.out (HF.out.below (below_alloc (Below.refl _ _) _)) HSF.out).mono ?_
    rintro e w1 ⟨rfl, hv1, ht1⟩
    go_wp2
    go_ret
    refine ⟨lv, _, rfl, ?_, ?_, (Tr.of_below (below_alloc (Below.refl _ _) _) (VX g lv)).trans ht1 (fun i _ h => h), .inl rfl⟩
    · unfold doS doT
      rw [if_neg K0.out, if_neg K1.out, if_pos K2.out, if_neg K0.out, if_neg K1.out]
      exact hv1
    · unfold doO
      rw [if_neg K0.out, if_neg K1.out]
      exact OwnRow.none_ _ _ _ _ _
  · have K2 := Lib.hid k2
    have k0b : (x.f0 == 0) = false := by simpa using k0
    have k1b : (x.f0 == 1) = false := by simpa using k1
    have k2b : (x.f0 == 2) = false := by simpa using k2
    clear k0 k1 k2
    go_wp2
    go_ret
    refine ⟨lv, _, rfl, ?_, ?_, Tr.of_below (below_alloc (Below.refl _ _) _) (VX g lv), .inl rfl⟩
    · unfold doS doT
      rw [if_neg K0.out, if_neg K1.out, if_neg K2.out, if_neg K0.out, if_neg K1.out]
      exact HV.out.below (below_alloc (Below.refl _ _) _)
    · unfold doO
      rw [if_neg K0.out, if_neg K1.out]
      exact OwnRow.none_ _ _ _ _ _
end Go.Proofs.YtnenlkojecicfaaDoor.V


namespace Go.Proofs.YtnenlkojecicfaaDoor.V
open Go.RowKit Go.Proofs.YtnenlkojecicfaaDoorW.PrintWords Go.Proofs.YtnenlkojecicfaaDoor.P

/-- The UIDs of places. -/
def uids (S : List S74) : List Int := S.map (·.f0)
/-- UIDs that rise from 1 on, none above the greatest that ever was. -/
structure Good (S : List S74) (top : Int) : Prop where
  rise : (uids S).Pairwise (· < ·)
  pos : ∀ u ∈ uids S, 1 ≤ u
  le : ∀ u ∈ uids S, u ≤ top
  top0 : 0 ≤ top
theorem Good.nil : Good [] 0 := ⟨List.Pairwise.nil, by simp [uids], by simp [uids], Int.le_refl _⟩
theorem Good.sub {S S' : List S74} {top : Int} (h : Good S top) (hs : (uids S').Sublist (uids S)) : Good S' top :=
  ⟨h.rise.sublist hs, fun u hu => h.pos u (hs.subset hu), fun u hu => h.le u (hs.subset hu), h.top0⟩
theorem Good.same {S S' : List S74} {top : Int} (h : Good S top) (hs : uids S' = uids S) : Good S' top := h.sub (by rw [hs]; exact List.Sublist.refl _)
theorem Good.pairwise {S : List S74} {top : Int} (h : Good S top) : S.Pairwise (fun p q => p.f0 < q.f0) := by
  have := h.rise
  unfold uids at this
  exact List.pairwise_map.1 this
/-- Growing: the old ones, then some that are above. -/
theorem grow_good (l : List S43) : ∀ (s : List S74 × Int), Good s.1 s.2 → Good (l.foldl growS s).1 (l.foldl growS s).2 ∧ s.2 ≤ (l.foldl growS s).2 ∧ ∃ N : List S74, (l.foldl growS s).1 = s.1 ++ N ∧ (∀ p ∈ N, s.2 < p.f0) ∧ (N = [] → (l.foldl growS s).2 = s.2) ∧ (∀ h : N ≠ [], (N.getLast h).f0 = (l.foldl growS s).2) := by
  induction l with
  | nil => exact fun s h => ⟨h, Int.le_refl _, [], by simp, by simp, fun _ => rfl, fun h => absurd rfl h⟩
  | cons m r ih =>
    intro s h
    rw [List.foldl_cons]
    by_cases hm : s.2 < m.f0
    · have e : growS s m = (s.1 ++ [⟨m.f0, flagsF m.f1⟩], m.f0) := by unfold growS; rw [if_pos hm]
      have h1 : Good (growS s m).1 (growS s m).2 := by
        rw [e]
        have hu : uids (s.1 ++ [⟨m.f0, flagsF m.f1⟩]) = uids s.1 ++ [m.f0] := by simp [uids]
        refine ⟨?_, ?_, ?_, ?_⟩
        · rw [hu, List.pairwise_append]
          refine ⟨h.rise, by simp, fun a ha b hb => ?_⟩
          rw [List.mem_singleton.1 hb]
          have := h.le a ha
          omega
        · rw [hu]
          intro u hu'
          rcases List.mem_append.1 hu' with h' | h'
          · exact h.pos u h'
          · rw [List.mem_singleton.1 h']; have := h.top0; omega
        · rw [hu]
          intro u hu'
          rcases List.mem_append.1 hu' with h' | h'
          · have := h.le u h'; simp only; omega
          · rw [List.mem_singleton.1 h']; exact Int.le_refl _
        · have := h.top0; simp only; omega
      obtain ⟨g1, g2, N, g3, g4, g5, g6⟩ := ih _ h1
      refine ⟨g1, ?_, ⟨m.f0, flagsF m.f1⟩ :: N, ?_, ?_, ?_, ?_⟩
      · rw [e] at g2 ⊢
        simp only at g2
        omega
      · rw [g3, e]
        simp
      · intro p hp
        rcases List.mem_cons.1 hp with rfl | hp
        · exact hm
        · have := g4 p hp
          rw [e] at this
          simp only at this
          omega
      · intro h'
        cases h'
      · intro h'
        by_cases hN : N = []
        · subst hN
          rw [g5 rfl, e]
          rfl
        · rw [List.getLast_cons hN]
          exact g6 hN
    · have e : growS s m = s := by unfold growS; rw [if_neg hm]
      rw [e]
      exact ih s h
theorem uids_map {f : S74 → S74} (hf : ∀ p, (f p).f0 = p.f0) (S : List S74) : uids (S.map f) = uids S := by
  unfold uids
  rw [List.map_map]
  exact List.map_congr_left (fun p _ => hf p)
theorem flagP_f0 (l : List S43) (p : S74) : (flagP l p).f0 = p.f0 := by unfold flagP; split <;> rfl
theorem noteP_f0 (n : Int) (fs : List ByteArray) (p : S74) : (noteP n fs p).f0 = p.f0 := by unfold noteP; split <;> rfl
theorem uids_last {S : List S74} (hS : S ≠ []) (h : uids S ≠ []) : (uids S).getLast h = (S.getLast hS).f0 := List.getLast_map (f := fun x : S74 => x.f0) h
theorem uids_filter_sub (f : S74 → Bool) (S : List S74) : (uids (S.filter f)).Sublist (uids S) := (List.filter_sublist).map _
/-- What a call makes of the UIDs: some of the old ones, then some that are above all that ever was. -/
structure Moved (S : List S74) (top : Int) (S' : List S74) (top' : Int) : Prop where
  good : Good S' top'
  up : top ≤ top'
  parts : ∃ K N : List Int, uids S' = K ++ N ∧ K.Sublist (uids S) ∧ (∀ u ∈ N, top < u) ∧ (N = [] → top' = top) ∧ (∀ h : N ≠ [], N.getLast h = top')
theorem sync_moved {S : List S74} {top : Int} (h : Good S top) (q : Bool) (l : List S43) : Moved S top (syncS q S top l) (syncG q S top l).2 := by
  have h1 : Good (syncS1 q l S) top := by
    unfold syncS1
    split
    · exact h
    · exact h.sub (uids_filter_sub _ _)
  have hsub : (uids (syncS1 q l S)).Sublist (uids S) := by
    unfold syncS1
    split
    · exact List.Sublist.refl _
    · exact uids_filter_sub _ _
  obtain ⟨g1, g2, N, g3, g4, g5, g6⟩ := grow_good l (syncS1 q l S, top) h1
  have e : uids (syncS q S top l) = uids (syncG q S top l).1 := uids_map (flagP_f0 l) _
  refine ⟨Good.same g1 e, g2, uids (syncS1 q l S), uids N, ?_, hsub, ?_, ?_, ?_⟩
  · rw [e]
    show uids (l.foldl growS (syncS1 q l S, top)).1 = _
    rw [g3]
    simp [uids]
  · intro u hu
    obtain ⟨p, hp, rfl⟩ := List.mem_map.1 hu
    exact g4 p hp
  · intro hN
    exact g5 (List.map_eq_nil_iff.1 hN)
  · intro hN
    have hN' : N ≠ [] := fun e => hN (by rw [e]; rfl)
    have := g6 hN'
    rw [uids_last hN']
    exact this
theorem do_moved {S : List S74} {top : Int} (h : Good S top) (x : S33) : Moved S top (doS x S top) (doT x S top) := by
  unfold doS doT
  by_cases h0 : x.f0 = 0
  · rw [if_pos h0, if_pos h0]
    exact sync_moved h false _
  rw [if_neg h0, if_neg h0]
  by_cases h1 : x.f0 = 1
  · rw [if_pos h1, if_pos h1]
    exact sync_moved h true _
  rw [if_neg h1, if_neg h1]
  have same : ∀ S', uids S' = uids S → Moved S top S' top := fun S' e => ⟨h.same e, Int.le_refl _, uids S, [], by rw [e]; simp, List.Sublist.refl _, by simp, fun _ => rfl, fun h => absurd rfl h⟩
  split
  · exact same _ (uids_map (noteP_f0 _ _) _)
  · exact same _ rfl
/-- The greatest UID that ever was, by what is seen: the last place. -/
theorem moved_top {S S' : List S74} {top top' : Int} (h : Moved S top S' top') : max top (uidOf S' S'.length) = top' := by
  obtain ⟨K, N, hu, hK, hN, h0, h1⟩ := h.parts
  have hl : S'.length = (uids S').length := by simp [uids]
  unfold uidOf
  by_cases hN0 : N = []
  · rw [h0 hN0]
    split
    · rename_i hc
      have hlt : S'.length - 1 < S'.length := by omega
      have e : ((S'.length : Int) - 1).toNat = S'.length - 1 := by omega
      rw [e]
      have hm : (S'.getD (S'.length - 1) z74).f0 ∈ uids S' := by
        simp only [List.getD, List.getElem?_eq_getElem hlt, Option.getD_some]
        exact List.mem_map.2 ⟨_, List.getElem_mem hlt, rfl⟩
      have := h.good.le _ hm
      rw [h0 hN0] at this
      exact Int.max_eq_left this
    · have := h.good.top0
      rw [h0 hN0] at this
      exact Int.max_eq_left this
  · have hne : uids S' ≠ [] := by rw [hu]; simp [hN0]
    have hS : S' ≠ [] := fun e => hne (by rw [e]; rfl)
    have hpos : 0 < S'.length := List.length_pos_iff.2 hS
    rw [if_pos ⟨by omega, Int.le_refl _⟩]
    have e : ((S'.length : Int) - 1).toNat = S'.length - 1 := by omega
    rw [e]
    have hlast : (S'.getD (S'.length - 1) z74).f0 = top' := by
      have h3 := h1 hN0
      have h4 : (uids S').getLast hne = N.getLast hN0 := by
        simp only [hu]
        exact List.getLast_append_of_ne_nil _ hN0
      rw [← h3, ← h4, uids_last hS, List.getLast_eq_getElem]
      simp [List.getD, List.getElem?_eq_getElem (show S'.length - 1 < S'.length by omega)]
    rw [hlast]
    exact Int.max_eq_right h.up
end Go.Proofs.YtnenlkojecicfaaDoor.V


namespace Go.Proofs.YtnenlkojecicfaaDoor.V
open Go.RowKit Go.Proofs.YtnenlkojecicfaaDoorW.PrintWords Go.Proofs.YtnenlkojecicfaaDoor.P

def wfI (u : Int) : Prop := (Lit.int .i64 u).wf = true
theorem grow_mem (l : List S43) : ∀ (s : List S74 × Int), ∀ u ∈ uids (l.foldl growS s).1, u ∈ uids s.1 ∨ ∃ m ∈ l, u = m.f0 := by
  intro s u hu
  obtain ⟨p, hp, rfl⟩ := List.mem_map.1 hu
  rcases mem_growF l s hp with h | ⟨m, hm, e⟩
  · exact .inl (List.mem_map.2 ⟨p, h, rfl⟩)
  · exact .inr ⟨m, hm, e⟩
theorem uids_syncS (q : Bool) (S : List S74) (top : Int) (l : List S43) : uids (syncS q S top l) = uids (syncG q S top l).1 := uids_map (flagP_f0 l) _
theorem uids_syncS1 (q : Bool) (l : List S43) (S : List S74) : (uids (syncS1 q l S)).Sublist (uids S) := by
  unfold syncS1
  split
  · exact List.Sublist.refl _
  · exact uids_filter_sub _ _
theorem sync_mem (q : Bool) (S : List S74) (top : Int) (ms : List S43) : ∀ u ∈ uids (syncS q S top (risingF [] ms)), u ∈ uids S ∨ ∃ m ∈ ms, u = m.f0 := by
  intro u hu
  rw [uids_syncS] at hu
  rcases grow_mem _ _ u hu with h | ⟨m, hm, e⟩
  · exact .inl ((uids_syncS1 q _ S).subset h)
  · rcases mem_risingF [] m hm with h | h
    · cases h
    · exact .inr ⟨m, h, e⟩
theorem do_mem (x : S33) (S : List S74) (top : Int) : ∀ u ∈ uids (doS x S top), u ∈ uids S ∨ ∃ m ∈ x.f1, u = m.f0 := by
  unfold doS
  split
  · exact sync_mem _ _ _ _
  split
  · exact sync_mem _ _ _ _
  split
  · intro u hu
    rw [noteS, uids_map (noteP_f0 _ _)] at hu
    exact .inl hu
  · exact fun u hu => .inl hu
theorem sync_len (q : Bool) (S : List S74) (top : Int) (ms : List S43) : (syncS q S top (risingF [] ms)).length ≤ S.length + ms.length := by
  unfold syncS
  rw [List.length_map]
  have h1 := growF_len (syncS1 q (risingF [] ms) S) top (risingF [] ms)
  have h2 : (syncS1 q (risingF [] ms) S).length ≤ S.length := by
    unfold syncS1
    split
    · exact Nat.le_refl _
    · exact stayF_len _ _
  have h3 := rising_len ms
  unfold syncG
  omega
theorem do_len (x : S33) (S : List S74) (top : Int) : (doS x S top).length ≤ S.length + x.f1.length := by
  unfold doS
  split
  · exact sync_len _ _ _ _
  split
  · exact sync_len _ _ _ _
  split
  · unfold noteS; rw [List.length_map]; omega
  · omega
/-- A view's places: what is carried from call to call. -/
structure Vw (S : List S74) (top : Int) (n : Nat) : Prop where
  good : Good S top
  wf : ∀ p ∈ S, (Lit.int .i64 p.f0).wf = true
  len : S.length ≤ n
theorem wf_uids {S : List S74} : (∀ p ∈ S, (Lit.int .i64 p.f0).wf = true) ↔ ∀ u ∈ uids S, (Lit.int .i64 u).wf = true := by
  constructor
  · intro h u hu
    obtain ⟨p, hp, rfl⟩ := List.mem_map.1 hu
    exact h p hp
  · intro h p hp
    exact h _ (List.mem_map.2 ⟨p, hp, rfl⟩)
theorem Vw.go {S : List S74} {top : Int} {n : Nat} (h : Vw S top n) (x : S33) (hx : ∀ m ∈ x.f1, (Lit.int .i64 m.f0).wf = true) (hl : x.f1.length ≤ 60) : Vw (doS x S top) (doT x S top) (n + 60) := by
  refine ⟨(do_moved h.good x).good, wf_uids.2 (fun u hu => ?_), ?_⟩
  · rcases do_mem x S top u hu with h1 | ⟨m, hm, rfl⟩
    · exact wf_uids.1 h.wf u h1
    · exact hx m hm
  · have := do_len x S top
    have := h.len
    omega
theorem new_moved (ms : List S43) : Moved [] 0 (growF [] 0 (risingF [] ms)).1 (growF [] 0 (risingF [] ms)).2 := by
  obtain ⟨g1, g2, N, g3, g4, g5, g6⟩ := grow_good (risingF [] ms) ([], 0) Good.nil
  refine ⟨g1, g2, [], uids N, ?_, List.Sublist.refl _, ?_, ?_, ?_⟩
  · show uids ((risingF [] ms).foldl growS ([], 0)).1 = _
    rw [g3]
    simp [uids]
  · intro u hu
    obtain ⟨p, hp, rfl⟩ := List.mem_map.1 hu
    exact g4 p hp
  · intro hN
    exact g5 (List.map_eq_nil_iff.1 hN)
  · intro hN
    have hN' : N ≠ [] := fun e => hN (by rw [e]; rfl)
    have := g6 hN'
    rw [uids_last hN']
    exact this
theorem new_vw (ms : List S43) (hx : ∀ m ∈ ms, (Lit.int .i64 m.f0).wf = true) (hl : ms.length ≤ 60) : Vw (growF [] 0 (risingF [] ms)).1 (growF [] 0 (risingF [] ms)).2 60 := by
  refine ⟨(new_moved ms).good, wf_uids.2 (fun u hu => ?_), ?_⟩
  · rcases grow_mem _ _ u hu with h | ⟨m, hm, rfl⟩
    · cases h
    · rcases mem_risingF [] m hm with h | h
      · cases h
      · exact hx m h
  · have := growF_len [] 0 (risingF [] ms)
    have := rising_len ms
    simp at *
    omega
theorem uidOf_nonneg {S : List S74} {top : Int} (h : Good S top) (n : Int) : 0 ≤ uidOf S n := by
  unfold uidOf
  split
  · rename_i hc
    have hlt : (n - 1).toNat < S.length := by omega
    have := h.pos (S.getD (n - 1).toNat z74).f0 (by
      rw [List.getD, List.getElem?_eq_getElem hlt]
      exact List.mem_map.2 ⟨_, List.getElem_mem hlt, rfl⟩)
    omega
  · exact Int.le_refl _
theorem new_top (ms : List S43) : uidOf (growF [] 0 (risingF [] ms)).1 (growF [] 0 (risingF [] ms)).1.length = (growF [] 0 (risingF [] ms)).2 := by
  have h1 := moved_top (new_moved ms)
  have h2 := uidOf_nonneg (new_moved ms).good ((growF [] 0 (risingF [] ms)).1.length : Int)
  rwa [Int.max_eq_right h2] at h1

/-! ### ViewRises -/
/-- What is gone. -/
structure Gone (G : List Int) (S : List S74) (top : Int) : Prop where
  le : ∀ u ∈ G, u ≤ top
  off : ∀ u ∈ G, u ∉ uids S
  wf : ∀ u ∈ G, (Lit.int .i64 u).wf = true
theorem Gone.not_now {G : List Int} {S S' : List S74} {top top' : Int} (h : Gone G S top) (hm : Moved S top S' top') {u : Int} (hu : u ∈ uids S') : u ∉ G := by
  intro hg
  obtain ⟨K, N, e, hK, hN, _⟩ := hm.parts
  rw [e] at hu
  rcases List.mem_append.1 hu with hu | hu
  · exact h.off u hg (hK.subset hu)
  · have := hN u hu
    have := h.le u hg
    omega
theorem Moved.fresh {S S' : List S74} {top top' : Int} (hm : Moved S top S' top') {u : Int} (hu : u ∈ uids S') (hn : u ∉ uids S) : top < u := by
  obtain ⟨K, N, e, hK, hN, _⟩ := hm.parts
  rw [e] at hu
  rcases List.mem_append.1 hu with hu | hu
  · exact absurd (hK.subset hu) hn
  · exact hN u hu
/-- What is gone behind the first ones of those that were. -/
def goneTo (G was now : List Int) (k : Nat) : List Int := G ++ (was.take k).filter (fun u => !now.contains u)
theorem goneTo_zero (G was now : List Int) : goneTo G was now 0 = G := by simp [goneTo]
theorem goneTo_yes {G was now : List Int} {k : Nat} {u : Int} (hu : was[k]? = some u) (h : now.contains u = false) : goneTo G was now (k + 1) = goneTo G was now k ++ [u] := by
  unfold goneTo
  rw [take_snoc hu, List.filter_append, ← List.append_assoc]
  congr 1
  rw [List.filter_cons, h]
  rfl
theorem goneTo_no {G was now : List Int} {k : Nat} {u : Int} (hu : was[k]? = some u) (h : now.contains u = true) : goneTo G was now (k + 1) = goneTo G was now k := by
  unfold goneTo
  rw [take_snoc hu, List.filter_append]
  simp only [List.filter_cons, h, Bool.not_true, Bool.false_eq_true, if_false, List.filter_nil, List.append_nil]
theorem goneTo_fresh {G : List Int} {S : List S74} {top : Int} (hS : Good S top) (h : Gone G S top) (now : List Int) {k : Nat} {u : Int} (hu : (uids S)[k]? = some u) : u ∉ goneTo G (uids S) now k := by
  intro hg
  rcases List.mem_append.1 hg with hg | hg
  · exact h.off u hg (List.mem_of_getElem? hu)
  · have hm := (List.mem_filter.1 hg).1
    obtain ⟨j, hj⟩ := List.getElem?_of_mem hm
    have hjk : j < k := by
      have := (List.getElem?_eq_some_iff.1 hj).1
      rw [List.length_take] at this
      omega
    rw [List.getElem?_take_of_lt hjk] at hj
    obtain ⟨hk, e1⟩ := List.getElem?_eq_some_iff.1 hu
    obtain ⟨hj', e2⟩ := List.getElem?_eq_some_iff.1 hj
    have := List.pairwise_iff_getElem.1 hS.rise j k hj' hk hjk
    omega
theorem Gone.next {G : List Int} {S S' : List S74} {top top' : Int} (h : Gone G S top) (hS : Good S top) (hwf : ∀ p ∈ S, (Lit.int .i64 p.f0).wf = true) (hm : Moved S top S' top') : Gone (goneTo G (uids S) (uids S') (uids S).length) S' top' := by
  unfold goneTo
  rw [List.take_length]
  refine ⟨fun u hu => ?_, fun u hu hn => ?_, fun u hu => ?_⟩
  · rcases List.mem_append.1 hu with hu | hu
    · have := h.le u hu; have := hm.up; omega
    · have := hS.le u (List.mem_filter.1 hu).1; have := hm.up; omega
  · rcases List.mem_append.1 hu with hu | hu
    · exact h.not_now hm hn hu
    · have := (List.mem_filter.1 hu).2
      simp at this
      exact this hn
  · rcases List.mem_append.1 hu with hu | hu
    · exact h.wf u hu
    · exact wf_uids.1 hwf u (List.mem_filter.1 hu).1
theorem Gone.nil (S : List S74) (top : Int) : Gone [] S top := ⟨(fun _ h => nomatch h), (fun _ h => nomatch h), (fun _ h => nomatch h)⟩

/-! ### ViewWhole -/
theorem rise_ext : ∀ {a b : List Int}, a.Pairwise (· < ·) → b.Pairwise (· < ·) → (∀ u, u ∈ a ↔ u ∈ b) → a = b := by
  intro a
  induction a with
  | nil =>
    intro b _ _ h
    cases b with
    | nil => rfl
    | cons y s => exact absurd ((h y).2 (by simp)) (by simp)
  | cons x r ih =>
    intro b ha hb h
    cases b with
    | nil => exact absurd ((h x).1 (by simp)) (by simp)
    | cons y s =>
      have ha' := List.pairwise_cons.1 ha
      have hb' := List.pairwise_cons.1 hb
      have exy : x = y := by
        rcases List.mem_cons.1 ((h x).1 (by simp)) with e | hx
        · exact e
        · rcases List.mem_cons.1 ((h y).2 (by simp)) with e | hy
          · exact e.symm
          · have := ha'.1 y hy
            have := hb'.1 x hx
            omega
      subst exy
      rw [ih ha'.2 hb'.2 (fun u => ?_)]
      constructor
      · intro hu
        rcases List.mem_cons.1 ((h u).1 (List.mem_cons_of_mem _ hu)) with e | hs
        · have := ha'.1 u hu; omega
        · exact hs
      · intro hu
        rcases List.mem_cons.1 ((h u).2 (List.mem_cons_of_mem _ hu)) with e | hs
        · have := hb'.1 u hu; omega
        · exact hs
/-- What a client that was told all knows. -/
def wantF (S : List S74) (top : Int) (l : List S43) : List Int := (l.filter (fun m => (uids S).contains m.f0 || decide (top < m.f0))).map (·.f0)
theorem thereF_iff (l : List S43) (u : Int) : thereF l u = true ↔ ∃ m ∈ l, m.f0 = u := by
  unfold thereF
  rw [List.any_eq_true]
  simp
/-- All that is above comes in. -/
theorem grow_above (l : List S43) : ∀ (s : List S74 × Int), Rise l → (∀ m ∈ l, s.2 < m.f0 → m.f0 ∈ uids (l.foldl growS s).1) ∧ (∀ u ∈ uids (l.foldl growS s).1, u ∈ uids s.1 ∨ ∃ m ∈ l, u = m.f0 ∧ s.2 < m.f0) ∧ (∀ u ∈ uids s.1, u ∈ uids (l.foldl growS s).1) ∧ (∀ m ∈ l, m.f0 ≤ (l.foldl growS s).2) ∧ s.2 ≤ (l.foldl growS s).2 := by
  induction l with
  | nil => exact fun s _ => ⟨(fun _ h => nomatch h), fun u hu => .inl hu, fun u hu => hu, (fun _ h => nomatch h), Int.le_refl _⟩
  | cons m r ih =>
    intro s hR
    have hR' : Rise r := ⟨(List.pairwise_cons.1 hR.1).2, fun x hx => hR.2 x (List.mem_cons_of_mem _ hx)⟩
    have hlt := (List.pairwise_cons.1 hR.1).1
    rw [List.foldl_cons]
    obtain ⟨h1, h2, h3, h4, h5⟩ := ih (growS s m) hR'
    by_cases hm : s.2 < m.f0
    · have e : growS s m = (s.1 ++ [⟨m.f0, flagsF m.f1⟩], m.f0) := by unfold growS; rw [if_pos hm]
      rw [e] at h1 h2 h3 h4 h5 ⊢
      have hu : uids (s.1 ++ [⟨m.f0, flagsF m.f1⟩]) = uids s.1 ++ [m.f0] := by simp [uids]
      simp only [hu] at h1 h2 h3 h4 h5 ⊢
      refine ⟨fun x hx hs => ?_, fun u hu => ?_, fun u hu => h3 u (List.mem_append_left _ hu), fun x hx => ?_, by omega⟩
      · rcases List.mem_cons.1 hx with rfl | hx
        · exact h3 _ (by simp)
        · exact h1 x hx (hlt x hx)
      · rcases h2 u hu with h | ⟨x, hx, e1, e2⟩
        · rcases List.mem_append.1 h with h | h
          · exact .inl h
          · exact .inr ⟨m, by simp, List.mem_singleton.1 h, hm⟩
        · exact .inr ⟨x, List.mem_cons_of_mem _ hx, e1, by omega⟩
      · rcases List.mem_cons.1 hx with rfl | hx
        · exact h5
        · exact h4 x hx
    · have e : growS s m = s := by unfold growS; rw [if_neg hm]
      rw [e] at h1 h2 h3 h4 h5 ⊢
      refine ⟨fun x hx hs => ?_, fun u hu => ?_, h3, fun x hx => ?_, h5⟩
      · rcases List.mem_cons.1 hx with rfl | hx
        · exact absurd hs hm
        · exact h1 x hx hs
      · rcases h2 u hu with h | ⟨x, hx, e1, e2⟩
        · exact .inl h
        · exact .inr ⟨x, List.mem_cons_of_mem _ hx, e1, e2⟩
      · rcases List.mem_cons.1 hx with rfl | hx
        · omega
        · exact h4 x hx
theorem rise_map {l : List S43} (h : Rise l) : (l.map (·.f0)).Pairwise (· < ·) := List.pairwise_map.2 h.1
theorem whole_uids {S : List S74} {top : Int} (h : Good S top) {l : List S43} (hl : Rise l) : uids (syncS false S top l) = wantF S top l := by
  have hm := sync_moved h false l
  refine rise_ext hm.good.rise ?_ (fun u => ?_)
  · unfold wantF
    exact (rise_map hl).sublist ((List.filter_sublist).map _)
  · rw [uids_syncS]
    obtain ⟨h1, h2, h3, _, _⟩ := grow_above l (syncS1 false l S, top) hl
    have hs1 : ∀ u, u ∈ uids (syncS1 false l S) ↔ u ∈ uids S ∧ thereF l u = true := by
      intro u
      unfold syncS1 stayF uids
      simp only [Bool.false_eq_true, if_false, List.mem_map, List.mem_filter]
      constructor
      · rintro ⟨p, ⟨hp, ht⟩, rfl⟩
        exact ⟨⟨p, hp, rfl⟩, ht⟩
      · rintro ⟨⟨p, hp, rfl⟩, ht⟩
        exact ⟨p, ⟨hp, ht⟩, rfl⟩
    constructor
    · intro hu
      unfold wantF
      rcases h2 u hu with h' | ⟨m, hm, rfl, ht⟩
      · obtain ⟨a, b⟩ := (hs1 u).1 h'
        obtain ⟨m, hm, rfl⟩ := (thereF_iff l u).1 b
        exact List.mem_map.2 ⟨m, List.mem_filter.2 ⟨hm, by simp [a]⟩, rfl⟩
      · exact List.mem_map.2 ⟨m, List.mem_filter.2 ⟨hm, by simp at ht; simp [ht]⟩, rfl⟩
    · intro hu
      obtain ⟨m, hm, rfl⟩ := List.mem_map.1 hu
      obtain ⟨hm, hc⟩ := List.mem_filter.1 hm
      by_cases ht : top < m.f0
      · exact h1 m hm ht
      · have hc' : m.f0 ∈ uids S := by simpa [ht] using hc
        exact h3 _ ((hs1 _).2 ⟨hc', (thereF_iff l _).2 ⟨m, hm, rfl⟩⟩)
theorem look_eq {l : List S43} (hl : Rise l) {m : S43} (hm : m ∈ l) : look l m.f0 = flagsF m.f1 := by
  have hf : l.find? (fun x => decide (x.f0 = m.f0)) = some m := by
    induction l with
    | nil => cases hm
    | cons x r ih =>
      rw [List.find?_cons]
      rcases List.mem_cons.1 hm with rfl | hm
      · simp
      · have := (List.pairwise_cons.1 hl.1).1 m hm
        have hne : decide (x.f0 = m.f0) = false := by simp; omega
        rw [hne]
        exact ih ⟨(List.pairwise_cons.1 hl.1).2, fun y hy => hl.2 y (List.mem_cons_of_mem _ hy)⟩ hm
  unfold look
  rw [hf]
/-- What is there already, and told. -/
def Told (l : List S43) (S : List S74) (top : Int) : Prop := (∀ p ∈ S, thereF l p.f0 = true ∧ p.f1 = look l p.f0) ∧ ∀ m ∈ l, m.f0 ≤ top
theorem grow_flags (l : List S43) : ∀ (s : List S74 × Int) (L : List S43), Rise L → (∀ m ∈ l, m ∈ L) → (∀ p ∈ s.1, thereF L p.f0 = true) → ∀ p ∈ (l.foldl growS s).1, thereF L p.f0 = true := by
  induction l with
  | nil => exact fun s L _ _ h => h
  | cons m r ih =>
    intro s L hL hm h
    rw [List.foldl_cons]
    refine ih _ L hL (fun x hx => hm x (List.mem_cons_of_mem _ hx)) ?_
    unfold growS
    split
    · intro p hp
      rcases List.mem_append.1 hp with hp | hp
      · exact h p hp
      · rw [List.mem_singleton.1 hp]
        exact (thereF_iff L _).2 ⟨m, hm m (by simp), rfl⟩
    · exact h
theorem sync_told {S : List S74} {top : Int} {l : List S43} (hl : Rise l) : Told l (syncS false S top l) (syncG false S top l).2 := by
  refine ⟨fun p hp => ?_, (grow_above l (syncS1 false l S, top) hl).2.2.2.1⟩
  unfold syncS at hp
  obtain ⟨q, hq, rfl⟩ := List.mem_map.1 hp
  rw [flagP_f0]
  have ht : thereF l q.f0 = true := grow_flags l (syncS1 false l S, top) l hl (fun m hm => hm) (fun p hp => by
    unfold syncS1 stayF at hp
    simp only [Bool.false_eq_true, if_false] at hp
    exact (List.mem_filter.1 hp).2) q hq
  refine ⟨ht, ?_⟩
  unfold flagP
  split
  · rfl
  · rename_i hn
    by_cases e : q.f1 = look l q.f0
    · exact e
    · exact absurd ⟨ht, e⟩ hn
theorem grow_none (l : List S43) : ∀ (s : List S74 × Int), (∀ m ∈ l, m.f0 ≤ s.2) → l.foldl growS s = s := by
  induction l with
  | nil => exact fun s _ => rfl
  | cons m r ih =>
    intro s h
    rw [List.foldl_cons]
    have : growS s m = s := by unfold growS; rw [if_neg (by have := h m (by simp); omega)]
    rw [this]
    exact ih s (fun x hx => h x (List.mem_cons_of_mem _ hx))
theorem gone_none {l : List S43} : ∀ (S : List S74) (o : Nat), (∀ p ∈ S, thereF l p.f0 = true) → goneF l o S = [] := by
  intro S
  induction S with
  | nil => exact fun _ _ => rfl
  | cons p r ih =>
    intro o h
    unfold goneF
    rw [ih _ (fun x hx => h x (List.mem_cons_of_mem _ hx)), if_pos (h p (by simp))]
    rfl
theorem flagsO_none {l : List S43} : ∀ (S : List S74) (o : Nat), (∀ p ∈ S, p.f1 = look l p.f0) → flagsO l o S = [] := by
  intro S
  induction S with
  | nil => exact fun _ _ => rfl
  | cons p r ih =>
    intro o h
    unfold flagsO flagO
    rw [ih _ (fun x hx => h x (List.mem_cons_of_mem _ hx)), if_neg (by rintro ⟨_, hc⟩; exact hc (h p (by simp)))]
    rfl
/-- Told again, a client is told nothing, and nothing turns. -/
theorem told_again {S : List S74} {top : Int} {l : List S43} (h : Told l S top) (q : Bool) : syncO q S top l = [] ∧ syncS q S top l = S ∧ (syncG q S top l).2 = top := by
  have hs1 : syncS1 q l S = S := by
    unfold syncS1 stayF
    split
    · rfl
    · exact List.filter_eq_self.2 (fun p hp => (h.1 p hp).1)
  have hg : syncG q S top l = (S, top) := by
    unfold syncG growF
    rw [hs1]
    exact grow_none l (S, top) h.2
  refine ⟨?_, ?_, by rw [hg]⟩
  · unfold syncO syncO1 syncO2
    rw [hg, hs1, gone_none S 0 (fun p hp => (h.1 p hp).1), flagsO_none S 0 (fun p hp => (h.1 p hp).2)]
    simp
  · unfold syncS
    rw [hg]
    have : ∀ p ∈ S, flagP l p = p := fun p hp => by
      unfold flagP
      rw [if_neg (by rintro ⟨_, hc⟩; exact hc (h.1 p hp).2)]
    conv => rhs; rw [← List.map_id S]
    exact List.map_congr_left this

end Go.Proofs.YtnenlkojecicfaaDoor.V


namespace Go.Proofs.YtnenlkojecicfaaDoor.V
open Go.RowKit Go.Proofs.YtnenlkojecicfaaDoorW.PrintWords Go.Proofs.YtnenlkojecicfaaDoor.P

/-- A set of UIDs. -/
def BMap (w : World) (b : Nat) (us : List Int) : Prop := MapAt w b (us.map (fun u => (u, Value.bool true)))
section
variable {w w1 : World} {b : Nat} {us : List Int} {u : Int}
theorem BMap.lookup (h : BMap w b us) (hu : (Lit.int .i64 u).wf = true) : (Instr.lookup 29 (.map (some b)) (.int .i64 u) false).run Tryd.prog w = .ok (.bool (us.contains u)) w := by
  cases ht : us.contains u with
  | true => exact MapAt.lookup h Tryd.underlying29 hu (List.mem_map.2 ⟨u, by simpa using ht, rfl⟩)
  | false =>
    refine MapAt.lookup_none h Tryd.underlying29 (zero4 w) hu (fun p hp e => ?_)
    obtain ⟨x, hx, rfl⟩ := List.mem_map.1 hp
    subst e
    simp at ht
    exact ht hx
theorem BMap.update (h : BMap w b us) (hu : (Lit.int .i64 u).wf = true) (hn : u ∉ us) :
    ∃ w1, (Instr.mapUpdate 29 (.map (some b)) (.int .i64 u) (.bool true)).run Tryd.prog w = .ok () w1 ∧ BMap w1 b (us ++ [u]) ∧ Tr (fun k => k = b) w w1 := by
  obtain ⟨w1, h1, h2, h3⟩ := MapAt.update h Tryd.underlying29 hu (fun p hp e => by
    obtain ⟨x, hx, rfl⟩ := List.mem_map.1 hp
    subst e
    exact hn hx) (.bool true)
  exact ⟨w1, h1, by unfold BMap; rw [List.map_append]; exact h2, h3⟩
theorem BMap.made (w : World) : BMap (w.alloc (.map #[] 0)) w.heap.size [] := MapAt.made w
theorem BMap.below (h : BMap w b us) (hb : Below w.heap.size w w1) : BMap w1 b us := MapAt.below h hb
theorem BMap.step {X : Nat → Prop} (h : BMap w b us) (ht : Tr X w w1) (hX : ¬ X b) : BMap w1 b us := MapAt.step h ht hX
theorem BMap.lt (h : BMap w b us) : b < w.heap.size := MapAt.lt h
theorem BMap.sk (h : BMap w b us) {T : List Nat} {B : Nat} (hB : B ≤ b) (ht : Tr (fun k => k = b) w w1) : SK T B w w1 := SK.of_tr ht (fun k e => by subst e; exact MapAt.not_sol h hB)
end
theorem take_fresh {us : List Int} (h : us.Pairwise (· < ·)) {k : Nat} {u : Int} (hu : us[k]? = some u) : u ∉ us.take k := by
  intro hg
  obtain ⟨j, hj⟩ := List.getElem?_of_mem hg
  have hjk : j < k := by
    have := (List.getElem?_eq_some_iff.1 hj).1
    rw [List.length_take] at this
    omega
  rw [List.getElem?_take_of_lt hjk] at hj
  obtain ⟨hk, e1⟩ := List.getElem?_eq_some_iff.1 hu
  obtain ⟨hj', e2⟩ := List.getElem?_eq_some_iff.1 hj
  have := List.pairwise_iff_getElem.1 h j k hj' hk hjk
  omega
/-- UIDs that are read, in blocks that nobody writes. -/
def IL (B : Nat) (w : World) (v : Value) (ns : List Int) : Prop := ∃ A c, v = .slice A ns.length c ∧ ns.length ≤ c ∧ Rd [3] B (Kd.int .i64) w A ns.length ns
theorem IL.step {B : Nat} {w w1 : World} {v : Value} {ns : List Int} (h : IL B w v ns) (hk : SK [3] B w w1) : IL B w1 v ns := by
  obtain ⟨A, c, e, hl, hr⟩ := h
  exact ⟨A, c, e, hl, hr.step hk⟩
theorem IL.below {B : Nat} {w w1 : World} {v : Value} {ns : List Int} (h : IL B w v ns) (hb : Below w.heap.size w w1) : IL B w1 v ns := h.step (SK.of_below hb)
theorem IL.ic {B : Nat} {w : World} {v : Value} {ns : List Int} (h : IL B w v ns) : IC w v ns := by
  obtain ⟨A, c, e, hl, hr⟩ := h
  exact ⟨A, c, e, hl, hr.now⟩
theorem IRow.il {w : World} {base : Nat} {v : Value} {ns : List Int} (h : IRow w base v ns) (B : Nat) : IL B w v ns := by
  have hR : (Kd.int .i64).R 3 w base (fun _ => True) v ns := ⟨fun _ _ => trivial, h⟩
  obtain ⟨A, c, rfl, hl, _⟩ := Kd.R_reads hR
  exact ⟨A, c, rfl, hl, Rd.of_R hR (by intro q hq; simpa [Kd.int, Kd.scalar] using hq)⟩
theorem IC.il {w : World} {v : Value} {ns : List Int} (h : IC w v ns) : IL w.heap.size w v ns := by
  obtain ⟨A, c, e, hl, hr⟩ := h
  exact ⟨A, c, e, hl, Rd.of_C (Kd.heap_int .i64) hr⟩
theorem il_spot {w : World} {A : Option Addr} {ns : List Int} (h : Kd.C (Kd.int .i64) w A ns.length ns) (hne : 0 < ns.length) :
    ∃ b o, A = some ⟨b, o, none⟩ ∧ ∀ j, j < ns.length → w.cell? ⟨b, o + j, none⟩ = some (.int .i64 (ns.getD j 0)) := by
  obtain ⟨_, _, h1⟩ := h
  obtain ⟨ad, rfl, hc⟩ := h1 hne
  have at_ : ∀ j, j < ns.length → w.cell? (ad.add j) = some (.int .i64 (ns.getD j 0)) := fun j hj => by
    have hg : ns[j]? = some (ns[j]'hj) := List.getElem?_eq_getElem hj
    obtain ⟨c, _, rfl, hcc⟩ := hc j _ hg
    have := hcc 0 _ rfl
    rw [show (Kd.int .i64).sz = 1 from rfl, Nat.mul_one, Nat.add_zero] at this
    rw [this]
    simp [List.getD, hg]
  have h0 := at_ 0 hne
  have hs := spot_none h0
  rw [Addr.add, if_pos rfl] at hs
  obtain ⟨b, o, s⟩ := ad
  simp only at hs
  subst hs
  exact ⟨b, o, rfl, fun j hj => by rw [← Addr.add_lit]; exact at_ j hj⟩
theorem IL.cells {B : Nat} {w : World} {v : Value} {ns : List Int} (h : IL B w v ns) (hne : 0 < ns.length) :
    ∃ b o c, v = .slice (some ⟨b, o, none⟩) ns.length c ∧ ns.length ≤ c ∧ ∀ (j : Nat) (u : Int), ns[j]? = some u → w.cell? ⟨b, o + j, none⟩ = some (.int .i64 u) := by
  obtain ⟨A, c, e, hl, hr⟩ := h
  obtain ⟨b, o, rfl, hc⟩ := il_spot hr.now hne
  refine ⟨b, o, c, e, hl, fun j u hj => ?_⟩
  have hjl := (List.getElem?_eq_some_iff.1 hj).1
  have := hc j hjl
  rw [List.getD_eq_getElem?_getD, hj] at this
  exact this
/-- Between calls: the view in memory; what came in stays. -/
structure LawAt (B : Nat) (w0 : World) (g : Nat) (w : World) (lv : Value) (S : List S74) (top : Int) (n : Nat) : Prop where
  hB : B = w0.heap.size
  vw : Vw S top n
  view : ViewAt 70 74 B w g lv S top
  low : Below B w0 w
section
variable {B g b n : Nat} {w0 w w1 : World} {lv lv1 : Value} {S S1 : List S74} {top top1 : Int} {us : List Int}
theorem LawAt.size (h : LawAt B w0 g w lv S top n) : B ≤ w.heap.size := by rw [h.hB]; exact h.low.size
theorem LawAt.below (h : LawAt B w0 g w lv S top n) (hb : Below w.heap.size w w1) : LawAt B w0 g w1 lv S top n :=
  ⟨h.hB, h.vw, h.view.below hb, h.low.trans (hb.mono h.size)⟩
theorem LawAt.view_low (h : LawAt B w0 g w lv S top n) (ht : Tr (VX g lv) w w1) : Below B w0 w1 :=
  h.low.trans (ht.below (fun k hk hx => by have := (h.view.typed k hx).1; omega) h.size)
/-- A call of the view. -/
theorem LawAt.to (h : LawAt B w0 g w lv S top n) (ht : Tr (VX g lv) w w1) (hv : ViewAt 70 74 B w1 g lv1 S1 top1) {m : Nat} (hw : Vw S1 top1 m) : LawAt B w0 g w1 lv1 S1 top1 m :=
  ⟨h.hB, hw, hv, h.view_low ht⟩
/-- A set is written. -/
theorem LawAt.set (h : LawAt B w0 g w lv S top n) (hb : BMap w b us) (hB : B ≤ b) (ht : Tr (fun k => k = b) w w1) : LawAt B w0 g w1 lv S top n :=
  ⟨h.hB, h.vw, h.view.step ht (fun k hk e => by subst e; exact map_apart h.view hb hk) (hb.sk hB ht), h.low.trans (ht.below (fun k hk e => by omega) h.size)⟩
theorem LawAt.il_to (h : LawAt B w0 g w lv S top n) {v : Value} {ns : List Int} (hi : IL B w v ns) (ht : Tr (VX g lv) w w1) : IL B w1 v ns := hi.step (h.view.sk ht (by decide) (by decide))
theorem LawAt.set_to (h : LawAt B w0 g w lv S top n) (hb : BMap w b us) (ht : Tr (VX g lv) w w1) : BMap w1 b us := hb.step ht (map_apart h.view hb)
end
/-- A row of one's own is written: nothing of other types turns. -/
theorem orow_sk {α : Type} {R : α → List Value → Prop} {e size base B : Nat} {T : List Nat} {w w1 : World} {v : Value} {ps : List α} (ho : OwnRow R e size w base v ps) (hB : B ≤ base) (he : e ∉ T) (ht : Tr (fun k => v.ownBlock = some k) w w1) : SK T B w w1 :=
  SK.of_tr ht (fun k hk => by
    obtain ⟨h1, cells, hc⟩ := orow_typed ho k hk
    exact not_sol (Nat.le_trans hB h1) hc he)
theorem LawAt.row_to {α : Type} {R : α → List Value → Prop} {e size base B g n : Nat} {w0 w w1 : World} {lv v : Value} {S : List S74} {top : Int} {ps : List α} (h : LawAt B w0 g w lv S top n) (ho : OwnRow R e size w base v ps) (hB : B ≤ base)
    (h1 : e ≠ 70) (h2 : e ≠ 74) (h3 : e ≠ 9) (ht : Tr (fun k => v.ownBlock = some k) w w1) : LawAt B w0 g w1 lv S top n :=
  ⟨h.hB, h.vw, h.view.step ht (fun k hk e => view_apart h.view ho h1 h2 k e hk) (orow_sk ho hB (by simpa using h3) ht), h.low.trans (ht.below (fun k hk e => by have := orow_base ho k e; omega) h.size)⟩
/-- The calls that came in, in any world behind. -/
theorem acts_at {w0 w : World} {A : Option Addr} {l : List S33} (h : Kd.C k33 w0 A l.length l) (hb : Below w0.heap.size w0 w) (hq : ∀ x ∈ l, ActQ x) (k : Nat) (hk : k < l.length) :
    ∃ ad x A1 c1 A3 c3, A = some ad ∧ l[k]? = some x ∧ (w.cell? (ad.add (k * 4)) = some (.int .i64 x.f0) ∧
      w.cell? ⟨(ad.add (k * 4)).block, (ad.add (k * 4)).off + 1, none⟩ = some (.slice A1 x.f1.length c1) ∧
      w.cell? ⟨(ad.add (k * 4)).block, (ad.add (k * 4)).off + 2, none⟩ = some (.int .i64 x.f2) ∧
      w.cell? ⟨(ad.add (k * 4)).block, (ad.add (k * 4)).off + 3, none⟩ = some (.slice A3 x.f3.length c3)) ∧
      Mails w0.heap.size w A1 x.f1.length x.f1 ∧ Rd [9] w0.heap.size Kd.string w A3 x.f3.length x.f3 ∧ ActQ x := by
  obtain ⟨ad, x, A1, c1, A3, c3, e, hlt, hx, ⟨g0, g1, g2, g3⟩, gm, gf⟩ := act_at h k hk
  have cc : ∀ (p : Addr) (v : Value), w0.cell? p = some v → w.cell? p = some v := fun p v hp => by
    rw [← hp]
    exact hb.cell (World.block_lt_of_cell? w0 _ hp)
  have hs : SK [9, 43] w0.heap.size w0 w := SK.of_below hb
  exact ⟨ad, x, A1, c1, A3, c3, e, hx, ⟨cc _ _ g0, cc _ _ g1, cc _ _ g2, cc _ _ g3⟩, gm.step hs, gf.step (SK.of_below hb), hq x (List.mem_of_getElem? hx)⟩
end Go.Proofs.YtnenlkojecicfaaDoor.V
