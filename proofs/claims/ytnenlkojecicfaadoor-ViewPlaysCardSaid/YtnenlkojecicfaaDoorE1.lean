/- slices.Equal and slices.Clone at flags. -/
import Derived.Test.YtnenlkojecicfaaDoorG2
import Derived.Test.YtnenlkojecicfaaDoorM1
set_option linter.unusedVariables false
set_option linter.unusedSimpArgs false
namespace Go.Proofs.YtnenlkojecicfaaDoor.V
open Go.RowKit Go.Proofs.YtnenlkojecicfaaDoorW.PrintWords Go.Proofs.YtnenlkojecicfaaDoor.P

theorem spot_none {w : World} {ad : Addr} {v : Value} (h : w.cell? ad = some v) : ad.spot = none := by
  unfold World.cell? at h
  split at h
  · split at h
    · cases h
    · rename_i hn
      cases hs : ad.spot with
      | none => rfl
      | some x => exact absurd (by rw [hs]; rfl) hn
  · cases h
theorem Fl.cells {B : Nat} {w : World} {v : Value} {fs : List ByteArray} (h : Fl B w v fs) (hne : 0 < fs.length) :
    ∃ b o c, v = .slice (some ⟨b, o, none⟩) fs.length c ∧ fs.length ≤ c ∧ fs.length ≤ 9223372036854775807 ∧ ∀ j, j < fs.length → w.cell? ⟨b, o + j, none⟩ = some (.string (fs.getD j ByteArray.empty)) := by
  obtain ⟨A, c, rfl, hl, hr⟩ := h
  have hc := hr.now
  obtain ⟨ad, f, rfl, h0, hcell⟩ := str_at hc 0 hne
  have hs := spot_none hcell
  rw [Addr.add, if_pos rfl] at hs
  obtain ⟨b, o, s⟩ := ad
  simp only at hs
  subst hs
  refine ⟨b, o, c, rfl, hl, Kd.C_max hc, fun j hj => ?_⟩
  obtain ⟨ad', f', e, hf, hcj⟩ := str_at hc j hj
  injection e with e
  subst e
  rw [Addr.add_lit] at hcj
  rw [hcj]
  congr 2
  simp [List.getD, hf]
theorem Fl.max {B : Nat} {w : World} {v : Value} {fs : List ByteArray} (h : Fl B w v fs) : fs.length ≤ 9223372036854775807 := by
  obtain ⟨A, c, rfl, hl, hr⟩ := h
  exact Kd.C_max hr.now
theorem equal_calls {B : Nat} {w : World} {v1 v2 : Value} {xs ys : List ByteArray} (h1 : Fl B w v1 xs) (h2 : Fl B w v2 ys) :
    Calls Tryd.prog 41 #[v1, v2] w fun e w' => e = .returned (.bool (decide (xs = ys))) ∧ ∃ q, w' = w.drewN q := by
  by_cases hl : xs.length = ys.length
  · by_cases h0 : 0 < xs.length
    · obtain ⟨b1, o1, c1, rfl, _, m1, hc1⟩ := h1.cells h0
      obtain ⟨b2, o2, c2, rfl, _, m2, hc2⟩ := h2.cells (by omega)
      refine (Tryd.slices_Equal_string b1 o1 xs.length c1 b2 o2 ys.length c2 xs ys w (Nat.le_refl _) (Nat.le_refl _) m1 m2 hc1 hc2).mono fun e w' h => ?_
      rw [List.take_length, List.take_length] at h
      exact h
    · obtain ⟨A1, c1, rfl, _⟩ := h1
      obtain ⟨A2, c2, rfl, _⟩ := h2
      have e1 : xs = [] := List.length_eq_zero_iff.1 (by omega)
      have e2 : ys = [] := List.length_eq_zero_iff.1 (by omega)
      subst e1 e2
      refine (Tryd.slices_Equal_string_empty A1 A2 c1 0 c2 w (by omega)).mono fun e w' h => ?_
      exact ⟨h.1, 0, h.2⟩
  · obtain ⟨A1, c1, rfl, _⟩ := h1
    obtain ⟨A2, c2, rfl, _⟩ := h2
    refine (Tryd.slices_Equal_string_lens A1 A2 xs.length c1 ys.length c2 w hl).mono fun e w' h => ?_
    have : decide (xs = ys) = false := by
      rw [decide_eq_false_iff_not]
      intro e
      exact hl (by rw [e])
    exact ⟨by rw [h.1, this], 0, h.2⟩
/-- A row of one's own, as flags. -/
theorem Fl.of_own {B : Nat} {w : World} {base : Nat} {v : Value} {n : Nat} {fs : List ByteArray} (h : w.ownsRow base 9 1 v fs.length (fs.map Value.string)) : Fl B w v fs := by
  have hs : SRow w base v fs := SRow.of_inner h
  exact hs.fl B
theorem clone_calls {B : Nat} {w : World} {v : Value} {xs : List ByteArray} (h : Fl B w v xs) (hn : xs.length ≤ 100000) :
    Calls Tryd.prog 42 #[v] w fun e w' => ∃ v', e = .returned v' ∧ Fl B w' v' xs ∧ Below w.heap.size w w' := by
  by_cases h0 : 0 < xs.length
  · obtain ⟨b1, o1, c1, rfl, _, m1, hc1⟩ := h.cells h0
    refine (Tryd.slices_Clone_string b1 o1 xs.length c1 xs w (Nat.le_refl _) (by omega) hc1).mono fun e w' h => ?_
    obtain ⟨v', he, ho, _, hb⟩ := h
    rw [List.take_length] at ho
    exact ⟨v', he, Fl.of_own (n := 0) ho, hb⟩
  · obtain ⟨A1, c1, rfl, _⟩ := h
    have e1 : xs = [] := List.length_eq_zero_iff.1 (by omega)
    subst e1
    cases A1 with
    | none =>
      refine (Tryd.slices_Clone_string_nil 0 c1 w).mono fun e w' h => ?_
      obtain ⟨he, rfl⟩ := h
      exact ⟨_, he, Fl.nil _ _, Below.refl _ _⟩
    | some ad =>
      refine (Tryd.slices_Clone_string_zero ad c1 w).mono fun e w' h => ?_
      obtain ⟨v', he, ho, _, hb⟩ := h
      exact ⟨v', he, Fl.of_own (n := 0) ho, hb⟩
end Go.Proofs.YtnenlkojecicfaaDoor.V
