/- (*View).Place: the place of a UID. -/
import Derived.Test.YtnenlkojecicfaaDoorG2
import Derived.Test.YtnenlkojecicfaaDoorShelf
set_option linter.unusedVariables false
set_option linter.unusedSimpArgs false
namespace Go.Proofs.YtnenlkojecicfaaDoor.V
open Go.RowKit Go.Proofs.YtnenlkojecicfaaDoorW.PrintWords Go.Proofs.YtnenlkojecicfaaDoor.P

section
variable {B g : Nat} {w : World} {lv : Value} {S : List S74} {top : Int}
/-- The closure of Place: is the UID of place i at least that? -/
theorem closure_calls (hv : ViewAt 70 74 B w g lv S top) (a b : Nat) (n : Int) (ha : w.cell? ⟨a, 0, none⟩ = some (.pointer (some ⟨g, 0, none⟩))) (hb : w.cell? ⟨b, 0, none⟩ = some (.int .i64 n)) (i : Nat) (hi : i < S.length) :
    Calls Tryd.prog 59 #[.int .i64 i, .pointer (some ⟨a, 0, none⟩), .pointer (some ⟨b, 0, none⟩)] w fun e w' => e = .returned (.bool (decide (n ≤ (S.getD i z74).f0))) ∧ ∃ q, w' = w.drewN q := by
  have hp : S[i]? = some (S[i]) := List.getElem?_eq_getElem hi
  obtain ⟨bl, cap, v, hv2, hc, _⟩ := place_at hv.row hp
  have h0 := hv.c0
  rw [hv2] at h0
  have hg : S.getD i z74 = S[i] := by rw [List.getD_eq_getElem?_getD, hp]; rfl
  rw [hg]
  obtain ⟨p, hpp⟩ : ∃ p, p = S[i] := ⟨_, rfl⟩
  rw [← hpp] at hc ⊢
  clear hpp hg hp hv hv2
  go_enter Tryd.func59, Tryd.ntmps59
  go_wp2
  go_quiet (fail)
  go_wp2
  go_ret
  exact ⟨rfl, _, rfl⟩
def placeB (S : List S74) (n : Int) : Int :=
  if (List.range S.length).countP (fun i => !decide (n ≤ (S.getD i z74).f0)) < S.length ∧ (S.getD ((List.range S.length).countP (fun i => !decide (n ≤ (S.getD i z74).f0))) z74).f0 = n then ((List.range S.length).countP (fun i => !decide (n ≤ (S.getD i z74).f0)) : Nat) + 1 else 0
theorem below_grow (B : Nat) (w : World) (q : Nat) (os : Array Obj) (hB : B ≤ w.heap.size) : Below B w (Go.Sort.grow (w.drewN q) os) := below_grown_sl B w q os hB
theorem search_eg : ∀ args w, (callFunc 59 args).run Tryd.prog w = .ok (.enter 59 args) w := fun args w => by kernel_rfl
theorem search_calls (hv : ViewAt 70 74 B w g lv S top) (hl : S.length ≤ 1000000) (hs : S.Pairwise (fun p q => p.f0 < q.f0)) (a b : Nat) (n : Int) (ha : w.cell? ⟨a, 0, none⟩ = some (.pointer (some ⟨g, 0, none⟩))) (hb : w.cell? ⟨b, 0, none⟩ = some (.int .i64 n)) :
    Calls Tryd.prog 58 #[.int .i64 S.length, .func (.func 59) #[] #[.pointer (some ⟨a, 0, none⟩), .pointer (some ⟨b, 0, none⟩)]] w fun e w' =>
      e = .returned (.int .i64 ((List.range S.length).countP (fun i => !decide (n ≤ (S.getD i z74).f0)) : Nat)) ∧ Below w.heap.size w w' := by
  refine (Any.sort_Search Tryd.search 59 #[.pointer (some ⟨a, 0, none⟩), .pointer (some ⟨b, 0, none⟩)] S.length (fun i => decide (n ≤ (S.getD i z74).f0)) w search_eg (by omega) ?_ ?_).mono ?_
  · intro m os i hi
    have hbel := below_grow w.heap.size w m os (Nat.le_refl _)
    refine (closure_calls (hv.below hbel) a b n (pw_cell_below hbel ha) (pw_cell_below hbel hb) i hi).mono ?_
    rintro e w' ⟨he, q, rfl⟩
    exact ⟨he, q, #[], by rw [Go.Sort.grow_empty]⟩
  · intro i j hij hj hpi
    have hpi := of_decide_eq_true hpi
    refine decide_eq_true ?_
    by_cases e : i = j
    · rw [← e]; exact hpi
    · have := List.pairwise_iff_getElem.1 hs i j (by omega) hj (by omega)
      rw [List.getD_eq_getElem?_getD, List.getElem?_eq_getElem hj]
      rw [List.getD_eq_getElem?_getD, List.getElem?_eq_getElem (show i < S.length by omega)] at hpi
      simp only [Option.getD_some] at hpi ⊢
      omega
  · rintro e w' ⟨he, q, os, rfl⟩
    exact ⟨he, below_grow _ _ _ _ (Nat.le_refl _)⟩
theorem count_le (S : List S74) (n : Int) : (List.range S.length).countP (fun i => !decide (n ≤ (S.getD i z74).f0)) ≤ S.length := by
  have := List.countP_le_length (p := fun i => !decide (n ≤ (S.getD i z74).f0)) (l := List.range S.length)
  simpa using this
set_option maxRecDepth 100000 in
set_option maxHeartbeats 2000000 in
theorem pplace_calls (hv : ViewAt 70 74 B w g lv S top) (hl : S.length ≤ 1000000) (hs : S.Pairwise (fun p q => p.f0 < q.f0)) (n : Int) :
    Calls Tryd.prog 50 #[.pointer (some ⟨g, 0, none⟩), .int .i64 n] w fun e w' => e = .returned (.int .i64 (placeB S n)) ∧ Below w.heap.size w w' := by
  have HS := Aside0.mk hs
  have HV := Aside0.mk ((hv.below (below_alloc (Below.refl _ _) (.cells #[.pointer (some ⟨g, 0, none⟩)] 88))).below (below_alloc (Below.refl _ _) (.cells #[.int .i64 n] 3)))
  obtain ⟨A, c, hlv, _⟩ := hv.slice
  have h0 := HV.out.c0
  rw [hlv] at h0
  have HLV := Lib.hid hlv
  clear hs hlv
  generalize hi : (List.range S.length).countP (fun i => !decide (n ≤ (S.getD i z74).f0)) = i
  have HI := Lib.hid hi
  have hil : i ≤ S.length := by rw [← hi]; exact count_le S n
  clear hi hv
  go_enter Tryd.func50, Tryd.ntmps50
  go_wp2_with fail
  refine (search_calls HV.out hl HS.out w.heap.size (w.heap.size + 1) n (by simp) (by simp)).mono ?_
  rintro e w1 ⟨rfl, hb1⟩
  rw [HI.out]
  have HB1 := Aside0.mk (show Below w.heap.size w w1 from ((below_alloc (Below.refl _ _) _).trans ((below_alloc (Below.refl _ _) _).mono (by simp))).trans (hb1.mono (by simp; omega)))
  have ca : w1.cell? ⟨w.heap.size, 0, none⟩ = some (.pointer (some ⟨g, 0, none⟩)) := pw_cell_below hb1 (by simp)
  have cb : w1.cell? ⟨w.heap.size + 1, 0, none⟩ = some (.int .i64 n) := pw_cell_below hb1 (by simp)
  have HV1 := Aside0.mk (HV.out.below hb1)
  have c0 := HV1.out.c0
  rw [HLV.out] at c0
  clear h0 hb1
  by_cases h1 : i < S.length
  · have hp : S[i]? = some (S[i]) := List.getElem?_eq_getElem h1
    obtain ⟨bl, cap, v, hv2, hc, _⟩ := place_at HV1.out.row hp
    have hA : A = some ⟨bl, 0, none⟩ := by
      rw [HLV.out] at hv2
      injection hv2
    subst hA
    have hg : S.getD i z74 = S[i] := by rw [List.getD_eq_getElem?_getD, hp]; rfl
    obtain ⟨p, hpp⟩ : ∃ p, p = S[i] := ⟨_, rfl⟩
    rw [← hpp] at hc hg
    have HG := Lib.hid hg
    clear hpp hp hv2 hg
    by_cases h2 : p.f0 = n
    · have HP := Lib.hid (show placeB S n = (i : Int) + 1 by unfold placeB; rw [HI.out, if_pos ⟨h1, by rw [HG.out]; exact h2⟩])
      have h2b : (p.f0 == n) = true := by simp [h2]
      have H2 := Lib.hid h2
      clear h2
      have h1b : decide (i < S.length) = true := by simpa using h1
      go_wp2
      go_quiet (fail)
      go_wp2
      go_ret
      exact ⟨by rw [HP.out]; rfl, pw_below_drewN HB1.out _⟩
    · have HP := Lib.hid (show placeB S n = 0 by unfold placeB; rw [HI.out, if_neg (by rintro ⟨_, h3⟩; rw [HG.out] at h3; exact h2 h3)])
      have h2b : (p.f0 == n) = false := by simp [h2]
      have h1b : decide (i < S.length) = true := by simpa using h1
      go_wp2
      go_quiet (fail)
      go_wp2
      go_ret
      exact ⟨by rw [HP.out]; rfl, pw_below_drewN HB1.out _⟩
  · have HP := Lib.hid (show placeB S n = 0 by unfold placeB; rw [HI.out, if_neg (by omega)])
    have h1b : decide (i < S.length) = false := by simpa using h1
    go_wp2
    go_quiet (fail)
    go_wp2
    go_ret
    exact ⟨by rw [HP.out]; rfl, pw_below_drewN HB1.out _⟩
set_option maxRecDepth 100000 in
theorem place_calls (hv : ViewAt 70 74 B w g lv S top) (hl : S.length ≤ 1000000) (hs : S.Pairwise (fun p q => p.f0 < q.f0)) (n : Int) :
    Calls Tryd.prog 27 #[.pointer (some ⟨g, 0, none⟩), .int .i64 n] w fun e w' => e = .returned (.int .i64 (placeB S n)) ∧ Below w.heap.size w w' := by
  have HS := Aside0.mk hs
  have HV := Aside0.mk hv
  clear hv hs
  go_enter Tryd.func27, Tryd.ntmps27
  go_wp2_with (go_at_call 50; refine (pplace_calls HV.out hl HS.out n).mono ?_; rintro e w' ⟨rfl, hb⟩; have HB := Aside0.mk hb; clear hb)
  go_ret
  exact ⟨rfl, HB.out⟩
end
end Go.Proofs.YtnenlkojecicfaaDoor.V
