/- (*View).Note with a view. haversacklaw18.do: the walk. -/
import Derived.Test.YtnenlkojecicfaaDoorS1c
import Derived.Test.YtnenlkojecicfaaDoorG3
import Derived.Deep.RegionHeld3
import Derived.Test.YtnenlkojecicfaaDoorS1
set_option linter.unusedVariables false
set_option linter.unusedSimpArgs false
namespace Go.Proofs.YtnenlkojecicfaaDoor.V
open Go.RowKit Go.Proofs.YtnenlkojecicfaaDoorW.PrintWords Go.Proofs.YtnenlkojecicfaaDoor.P

theorem count_at {S : List S74} (hs : S.Pairwise (fun p q => p.f0 < q.f0)) {k : Nat} {p : S74} (hp : S[k]? = some p) : (List.range S.length).countP (fun i => !decide (p.f0 ≤ (S.getD i z74).f0)) = k := by
  obtain ⟨hk, rfl⟩ := List.getElem?_eq_some_iff.1 hp
  have hr : List.range S.length = List.range k ++ (List.range (S.length - k)).map (k + ·) := by
    rw [← List.range_add, show k + (S.length - k) = S.length by omega]
  rw [hr, List.countP_append]
  have h1 : (List.range k).countP (fun i => !decide (S[k].f0 ≤ (S.getD i z74).f0)) = k := by
    have := (List.countP_eq_length (p := fun i => !decide (S[k].f0 ≤ (S.getD i z74).f0)) (l := List.range k)).2 (fun i hi => by
      have hik := List.mem_range.1 hi
      have := List.pairwise_iff_getElem.1 hs i k (by omega) hk hik
      simp [List.getD, List.getElem?_eq_getElem (show i < S.length by omega)]
      omega)
    rw [this, List.length_range]
  have h2 : ((List.range (S.length - k)).map (k + ·)).countP (fun i => !decide (S[k].f0 ≤ (S.getD i z74).f0)) = 0 := by
    refine List.countP_eq_zero.2 (fun i hi => ?_)
    obtain ⟨j, hj, rfl⟩ := List.mem_map.1 hi
    have hjl := List.mem_range.1 hj
    have hle : S[k].f0 ≤ (S[k + j]'(by omega)).f0 := by
      rcases Nat.eq_zero_or_pos j with rfl | h
      · exact Int.le_refl _
      · exact Int.le_of_lt (List.pairwise_iff_getElem.1 hs k (k + j) hk (by omega) (by omega))
    simp [List.getD, List.getElem?_eq_getElem (show k + j < S.length by omega)]
    omega
  rw [h1, h2]
  rfl
theorem placeB_at {S : List S74} (hs : S.Pairwise (fun p q => p.f0 < q.f0)) {k : Nat} {p : S74} (hp : S[k]? = some p) : placeB S p.f0 = (k : Int) + 1 := by
  have hk := (List.getElem?_eq_some_iff.1 hp).1
  unfold placeB
  rw [count_at hs hp, if_pos ⟨hk, by simp [List.getD, hp]⟩]
theorem placeB_none {S : List S74} {n : Int} (h : ∀ p ∈ S, p.f0 ≠ n) : placeB S n = 0 := by
  unfold placeB
  rw [if_neg]
  rintro ⟨h1, h2⟩
  refine h _ (List.getElem_mem h1) ?_
  rw [List.getD, List.getElem?_eq_getElem h1] at h2
  exact h2
def noteP (n : Int) (fs : List ByteArray) (p : S74) : S74 := if p.f0 = n then ⟨p.f0, flagsF fs⟩ else p
def noteS (S : List S74) (n : Int) (fs : List ByteArray) : List S74 := S.map (noteP n fs)
theorem noteS_none {S : List S74} {n : Int} (h : ∀ p ∈ S, p.f0 ≠ n) (fs : List ByteArray) : noteS S n fs = S := by
  unfold noteS
  conv => rhs; rw [← List.map_id S]
  refine List.map_congr_left (fun p hp => ?_)
  unfold noteP
  rw [if_neg (h p hp)]
  rfl
theorem noteS_at {S : List S74} (hs : S.Pairwise (fun p q => p.f0 < q.f0)) {k : Nat} {p : S74} (hp : S[k]? = some p) (fs : List ByteArray) : noteS S p.f0 fs = S.set k ⟨p.f0, flagsF fs⟩ := by
  obtain ⟨hk, rfl⟩ := List.getElem?_eq_some_iff.1 hp
  unfold noteS
  apply List.ext_getElem?
  intro j
  rw [List.getElem?_map, List.getElem?_set]
  by_cases h : k = j
  · subst h
    rw [if_pos rfl, if_pos hk, List.getElem?_eq_getElem hk]
    simp [noteP]
  · rw [if_neg h]
    by_cases hj : j < S.length
    · rw [List.getElem?_eq_getElem hj]
      have hne : S[j].f0 ≠ S[k].f0 := by
        rcases Nat.lt_or_gt_of_ne h with h | h
        · have := List.pairwise_iff_getElem.1 hs k j hk hj h; omega
        · have := List.pairwise_iff_getElem.1 hs j k hj hk h; omega
      simp [noteP, hne]
    · rw [List.getElem?_eq_none (by omega)]
      rfl
set_option maxRecDepth 100000 in
set_option maxHeartbeats 4000000 in
theorem note_calls (B g : Nat) (lv : Value) (S : List S74) (top : Int) (n : Int) (A : Option Addr) (c : Nat) (fs : List ByteArray) (w : World) (hv : ViewAt 70 74 B w g lv S top) (hl : S.length ≤ 1000000) (hs : S.Pairwise (fun p q => p.f0 < q.f0))
    (hr : Rd [9] B Kd.string w A fs.length fs) (hsm : ∀ f ∈ fs, f.size ≤ 140737488351232) :
    Calls Tryd.prog 29 #[.pointer (some ⟨g, 0, none⟩), .int .i64 n, .slice A fs.length c] w fun e w' => e = .returned (.tuple #[]) ∧ ViewAt 70 74 B w' g lv (noteS S n fs) top ∧ Tr (VX g lv) w w' := by
  have HV := Aside0.mk hv
  have HR := Aside0.mk hr
  have HS := Aside0.mk hs
  clear hv hr hs
  go_enter Tryd.func29, Tryd.ntmps29
  go_wp2_with fail
  refine (place_calls HV.out hl HS.out n).mono ?_
  rintro e w1 ⟨rfl, hb1⟩
  have HV1 := Aside0.mk (HV.out.below hb1)
  have HR1 := Aside0.mk (HR.out.below hb1)
  have HT1 := Aside0.mk (Tr.of_below hb1 (VX g lv))
  clear hb1 HR
  by_cases hx : ∃ p ∈ S, p.f0 = n
  · obtain ⟨p, hp, rfl⟩ := hx
    obtain ⟨k, hk⟩ := List.getElem?_of_mem hp
    rw [placeB_at HS.out hk]
    have hkl : k < S.length := (List.getElem?_eq_some_iff.1 hk).1
    obtain ⟨bl, cap, vpf, hlv2, hpc, hpv, _, hcap, _⟩ := place_at HV1.out.row hk
    have HK := Lib.hid hk
    clear hk hp hpc
    subst hlv2
    have hc0 := HV1.out.c0
    have hfz := HV1.out.frow (k * 2 + 1)
    have HVd := Aside0.mk (HV1.out.below (below_drew (Below.refl _ _)))
    have HRd := Aside0.mk (HR1.out.below (below_drew (Below.refl _ _)))
    have hkw : IntKind.i64.wrap (k : Int) = (k : Int) := by rw [IntKind.wrap_i64]; omega
    have HGB : Aside0 (g ≠ bl) := ⟨fun e => HV1.out.ne_own (by decide) (by rw [e]; rfl)⟩
    have hk2 : (0 : Int) ≤ (k : Int) := by omega
    have hk3 : (k : Int) < (S.length : Int) := by omega
    go_upto_region 2 with fail
    go_region_held3 (fun w' => w'.cell? ⟨g, 0, none⟩ = some (.slice (some ⟨bl, 0, none⟩) S.length cap)) (first | exact hc0 | exact p2 | exact p5 _)
      (first | (go_at_call 39; refine (flags_calls _ _ fs _ HRd.out.now hsm).mono ?_; rintro e w2 ⟨vf, rfl, hs1, hb2⟩; obtain ⟨Avf, cvf, hvv, _⟩ := OwnRow.slice_ hs1; subst hvv; have p2 : w2.cell? ⟨g, 0, none⟩ = some (.slice (some ⟨bl, 0, none⟩) S.length cap) := pw_cell_below hb2 hc0; have p3 : w2.cell? ⟨bl, k * 2 + 1, none⟩ = some vpf := pw_cell_below hb2 hpv; have p4 : w2.frozen? ⟨bl, k * 2 + 1, none⟩ = false := (HVd.out.below hb2).frow _; have p5 : ∀ u, (w2.setCell ⟨bl, k * 2 + 1, none⟩ u).cell? ⟨g, 0, none⟩ = some (.slice (some ⟨bl, 0, none⟩) S.length cap) := fun u => Tr.cell (Tr.setCell (Tr.refl (fun i => i = bl) w2) (.inl rfl) u) p2 (fun e => HGB.out e)))
    all_goals
      go_wp2
      go_end0
      obtain ⟨hv8, ht8⟩ := (HVd.out.below hb2).setFlags rfl HK.out (hs1.fl B) (by decide) (by decide)
      refine ⟨rfl, ?_, ?_⟩
      · rw [noteS_at HS.out HK.out]
        exact hv8
      · exact ((HT1.out.drew).then_below hb2).trans ht8 (fun i _ h => h)
  · have h : ∀ p ∈ S, p.f0 ≠ n := fun p hp e => hx ⟨p, hp, e⟩
    rw [placeB_none h]
    have H := Aside0.mk h
    clear hx h
    go_wp2
    go_end0
    exact ⟨rfl, by rw [noteS_none H.out]; exact HV1.out, HT1.out⟩
end Go.Proofs.YtnenlkojecicfaaDoor.V


namespace Go.Proofs.YtnenlkojecicfaaDoor.V
open Go.RowKit Go.Proofs.YtnenlkojecicfaaDoorW.PrintWords Go.Proofs.YtnenlkojecicfaaDoor.P

/-- What a call makes of a view, and what it tells. -/
def doS (x : S33) (S : List S74) (top : Int) : List S74 := if x.f0 = 0 then syncS false S top (risingF [] x.f1) else if x.f0 = 1 then syncS true S top (risingF [] x.f1) else if x.f0 = 2 then noteS S x.f2 x.f3 else S
def doT (x : S33) (S : List S74) (top : Int) : Int := if x.f0 = 0 then (syncG false S top (risingF [] x.f1)).2 else if x.f0 = 1 then (syncG true S top (risingF [] x.f1)).2 else top
def doO (x : S33) (S : List S74) (top : Int) : List S65 := if x.f0 = 0 then syncO false S top (risingF [] x.f1) else if x.f0 = 1 then syncO true S top (risingF [] x.f1) else []
theorem orow_low {α : Type} {R : α → List Value → Prop} {e size base b : Nat} {w : World} {v : Value} {ps : List α} (h : OwnRow R e size w base v ps) (hb : b ≤ base) : OwnRow R e size w b v ps := by
  obtain ⟨inner, ⟨h1, h2⟩, hr⟩ := h
  refine ⟨inner, ⟨h1, ?_⟩, hr⟩
  rcases h2 with h2 | ⟨g, cap, cur, hv, hg, h3⟩
  · exact .inl h2
  · exact .inr ⟨g, cap, cur, hv, Nat.le_trans hb hg, h3⟩
set_option maxRecDepth 100000 in
set_option maxHeartbeats 4000000 in
theorem do_calls (B g : Nat) (lv : Value) (S : List S74) (top : Int) (x : S33) (A1 A3 : Option Addr) (c1 c3 : Nat) (w : World) (hB : B ≤ w.heap.size) (hv : ViewAt 70 74 B w g lv S top)
    (hr : Mails B w A1 x.f1.length x.f1) (hf : Rd [9] B Kd.string w A3 x.f3.length x.f3) (hsm : ∀ m ∈ x.f1, ∀ f ∈ m.f1, f.size ≤ 140737488351232) (hsf : ∀ f ∈ x.f3, f.size ≤ 140737488351232)
    (hwf : ∀ m ∈ x.f1, (Lit.int .i64 m.f0).wf = true) (hwS : ∀ p ∈ S, (Lit.int .i64 p.f0).wf = true) (hlen : S.length + x.f1.length ≤ 100000) (hs : S.Pairwise (fun p q => p.f0 < q.f0)) :
    Calls Tryd.prog 15 #[.pointer (some ⟨g, 0, none⟩), .agg #[.int .i64 x.f0, .slice A1 x.f1.length c1, .int .i64 x.f2, .slice A3 x.f3.length c3]] w fun e w' => ∃ lv' vo : Value, e = .returned vo ∧
      ViewAt 70 74 B w' g lv' (doS x S top) (doT x S top) ∧ TRow B w' w.heap.size vo (doO x S top) ∧ Tr (VX g lv) w w' ∧ (lv'.ownBlock = lv.ownBlock ∨ ∃ b, lv'.ownBlock = some b ∧ w.heap.size ≤ b) := by
  have HB := Aside0.mk hB
  have HV := Aside0.mk hv
  have HR := Aside0.mk hr
  have HF := Aside0.mk hf
  have HSM := Aside0.mk hsm
  have HSF := Aside0.mk hsf
  have HWF := Aside0.mk hwf
  have HWS := Aside0.mk hwS
  have HS := Aside0.mk hs
  clear hB hv hr hf hsm hsf hwf hwS hs
  go_enter Tryd.func15, Tryd.ntmps15
  by_cases k0 : x.f0 = 0
  · rw [k0]
    have K0 := Lib.hid k0
    clear k0
    go_wp2_with fail
    refine (sync_calls B g lv S top false A1 c1 x.f1 _ (by have := HB.out; simp; omega) (HV.out.below (below_alloc (Below.refl _ _) _)) (HR.out.below (below_alloc (Below.refl _ _) _)) HSM.out HWF.out HWS.out hlen).mono ?_
    rintro e w1 ⟨lv', vo, rfl, hv1, ho1, ht1, hat⟩
    go_wp2
    go_ret
    refine ⟨lv', vo, rfl, ?_, ?_, (Tr.of_below (below_alloc (Below.refl _ _) _) (VX g lv)).trans ht1 (fun i _ h => h), ?_⟩
    · unfold doS doT
      rw [if_pos K0.out, if_pos K0.out]
      exact hv1
    · unfold doO
      rw [if_pos K0.out]
      exact orow_low ho1 (by simp)
    · rcases hat with h | ⟨b, h1, h2⟩
      · exact .inl h
      · exact .inr ⟨b, h1, by simp at h2; omega⟩
  have K0 := Lib.hid k0
  by_cases k1 : x.f0 = 1
  · rw [k1]
    have K1 := Lib.hid k1
    clear k1 k0
    go_wp2_with fail
    refine (sync_calls B g lv S top true A1 c1 x.f1 _ (by have := HB.out; simp; omega) (HV.out.below (below_alloc (Below.refl _ _) _)) (HR.out.below (below_alloc (Below.refl _ _) _)) HSM.out HWF.out HWS.out hlen).mono ?_
    rintro e w1 ⟨lv', vo, rfl, hv1, ho1, ht1, hat⟩
    go_wp2
    go_ret
    refine ⟨lv', vo, rfl, ?_, ?_, (Tr.of_below (below_alloc (Below.refl _ _) _) (VX g lv)).trans ht1 (fun i _ h => h), ?_⟩
    · unfold doS doT
      rw [if_neg K0.out, if_pos K1.out, if_neg K0.out, if_pos K1.out]
      exact hv1
    · unfold doO
      rw [if_neg K0.out, if_pos K1.out]
      exact orow_low ho1 (by simp)
    · rcases hat with h | ⟨b, h1, h2⟩
      · exact .inl h
      · exact .inr ⟨b, h1, by simp at h2; omega⟩
  have K1 := Lib.hid k1
  by_cases k2 : x.f0 = 2
  · rw [k2]
    have K2 := Lib.hid k2
    clear k2 k1 k0
    go_wp2_with fail
    refine (note_calls B g lv S top x.f2 A3 c3 x.f3 _ (HV.out.below (below_alloc (Below.refl _ _) _)) (by omega) HS.out (HF.out.below (below_alloc (Below.refl _ _) _)) HSF.out).mono ?_
    rintro e w1 ⟨rfl, hv1, ht1⟩
    go_wp2
    go_ret
    refine ⟨lv, _, rfl, ?_, ?_, (Tr.of_below (below_alloc (Below.refl _ _) _) (VX g lv)).trans ht1 (fun i _ h => h), .inl rfl⟩
    · unfold doS doT
      rw [if_neg K0.out, if_neg K1.out, if_pos K2.out, if_neg K0.out, if_neg K1.out]
      exact hv1
    · unfold doO
      rw [if_neg K0.out, if_neg K1.out]
      exact OwnRow.none_ _ _ _ _ _
  · have K2 := Lib.hid k2
    have k0b : (x.f0 == 0) = false := by simpa using k0
    have k1b : (x.f0 == 1) = false := by simpa using k1
    have k2b : (x.f0 == 2) = false := by simpa using k2
    clear k0 k1 k2
    go_wp2
    go_ret
    refine ⟨lv, _, rfl, ?_, ?_, Tr.of_below (below_alloc (Below.refl _ _) _) (VX g lv), .inl rfl⟩
    · unfold doS doT
      rw [if_neg K0.out, if_neg K1.out, if_neg K2.out, if_neg K0.out, if_neg K1.out]
      exact HV.out.below (below_alloc (Below.refl _ _) _)
    · unfold doO
      rw [if_neg K0.out, if_neg K1.out]
      exact OwnRow.none_ _ _ _ _ _
end Go.Proofs.YtnenlkojecicfaaDoor.V
