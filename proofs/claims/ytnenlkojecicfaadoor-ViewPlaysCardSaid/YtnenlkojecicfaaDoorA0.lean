/- What the printed functions give: lists compared. Rows of ints and of what is told, as they are read; Ints and Same of the reference. -/
import Derived.Test.YtnenlkojecicfaaDoorPx1
import Derived.Test.YtnenlkojecicfaaDoorPx3
import Derived.Lib.Strings
import Derived.Test.YtnenlkojecicfaaDoorS0
set_option linter.unusedVariables false
set_option linter.unusedSimpArgs false
namespace Go.Proofs.YtnenlkojecicfaaDoor.V
open Go.RowKit Go.Proofs.YtnenlkojecicfaaDoorW.PrintWords Go.Proofs.YtnenlkojecicfaaDoor.P

theorem wrap_nat {i : Nat} (h : i ≤ 1000000) : wrap64 ((i : Int) + 1) = ((i + 1 : Nat) : Int) := by
  rw [show wrap64 ((i : Int) + 1) = (i : Int) + 1 by unfold wrap64; omega]
  rfl
theorem drop_eq {α : Type} {a b : List α} {i : Nat} (ha : i < a.length) (hb : i < b.length) : a.drop i = b.drop i ↔ a[i] = b[i] ∧ a.drop (i + 1) = b.drop (i + 1) := by
  rw [List.drop_eq_getElem_cons ha, List.drop_eq_getElem_cons hb, List.cons.injEq]
theorem ints_l (a b : List Int) (hab : a.length = b.length) (hm : a.length ≤ 1000000) : ∀ (n i : Nat), i + n = a.length → haversackref18_Ints.l0 (n + 1) a b i = some (decide (a.drop i = b.drop i)) := by
  intro n
  induction n with
  | zero =>
    intro i hi
    unfold haversackref18_Ints.l0
    rw [if_neg (by omega), List.drop_eq_nil_of_le (by omega), List.drop_eq_nil_of_le (by omega)]
    simp
  | succ n ih =>
    intro i hi
    unfold haversackref18_Ints.l0
    rw [if_pos (by omega), if_pos (by omega), if_pos (by omega)]
    have ea : rd a i = a[i]'(by omega) := by unfold rd; simp [List.getD, List.getElem?_eq_getElem (show i < a.length by omega)]
    have eb : rd b i = b[i]'(by omega) := by unfold rd; simp [List.getD, List.getElem?_eq_getElem (show i < b.length by omega)]
    rw [ea, eb, wrap_nat (by omega), ih (i + 1) (by omega)]
    have := drop_eq (a := a) (b := b) (i := i) (by omega) (by omega)
    by_cases h : a[i]'(by omega) = b[i]'(by omega)
    · rw [if_pos h]
      simp [this, h]
    · rw [if_neg h]
      simp [this, h]
theorem ints_eq (a b : List Int) (hm : a.length ≤ 1000000) : ∃ k, haversackref18_Ints.f k a b = some (decide (a = b)) := by
  by_cases h : a.length = b.length
  · refine ⟨a.length + 1, ?_⟩
    unfold haversackref18_Ints.f
    rw [if_pos (by omega)]
    simpa using ints_l a b h hm a.length 0 (by omega)
  · refine ⟨0, ?_⟩
    unfold haversackref18_Ints.f
    rw [if_neg (by omega), decide_eq_false (fun e => h (by rw [e]))]
theorem bytes_ext {x y : ByteArray} (h : x.toList = y.toList) : x = y := by
  have e : ∀ z : ByteArray, z.toList = z.data.toList := fun z => ByteArray.toList_eq z
  rw [e, e] at h
  exact WideShapes.bytes_inj h
theorem same16_l (a b : List ByteArray) (hab : a.length = b.length) (hm : a.length ≤ 1000000) : ∀ (n i : Nat), i + n = a.length → haversackref16_Same.l0 (n + 1) a b i = some (decide (a.drop i = b.drop i)) := by
  intro n
  induction n with
  | zero =>
    intro i hi
    unfold haversackref16_Same.l0
    rw [if_neg (by omega), List.drop_eq_nil_of_le (by omega), List.drop_eq_nil_of_le (by omega)]
    simp
  | succ n ih =>
    intro i hi
    unfold haversackref16_Same.l0
    rw [if_pos (by omega), if_pos (by omega), if_pos (by omega)]
    have ea : rdOf ByteArray.empty a i = a[i]'(by omega) := by unfold rdOf; simp [List.getD, List.getElem?_eq_getElem (show i < a.length by omega)]
    have eb : rdOf ByteArray.empty b i = b[i]'(by omega) := by unfold rdOf; simp [List.getD, List.getElem?_eq_getElem (show i < b.length by omega)]
    rw [ea, eb, wrap_nat (by omega), ih (i + 1) (by omega)]
    have := drop_eq (a := a) (b := b) (i := i) (by omega) (by omega)
    by_cases h : a[i]'(by omega) = b[i]'(by omega)
    · rw [if_pos (by rw [h])]
      simp [this, h]
    · rw [if_neg (fun e => h (bytes_ext e))]
      simp [this, h]
theorem same16_eq (a b : List ByteArray) (hm : a.length ≤ 1000000) : haversackref16_Same.f (a.length + 1) a b = some (decide (a = b)) := by
  by_cases h : a.length = b.length
  · unfold haversackref16_Same.f
    rw [if_pos (by omega)]
    simpa using same16_l a b h hm a.length 0 (by omega)
  · unfold haversackref16_Same.f
    rw [if_neg (by omega), decide_eq_false (fun e => h (by rw [e]))]
theorem mono_up {α : Type} {f : Nat → Option α} (h : ∀ k, LeO (f k) (f (k + 1))) {k m : Nat} (hk : k ≤ m) {r : α} (hr : f k = some r) : f m = some r := by
  obtain ⟨d, rfl⟩ := Nat.le.dest hk
  induction d with
  | zero => exact hr
  | succ d ih => exact h _ _ (ih (by omega))
theorem told_ext {x y : S65} : x = y ↔ x.f0 = y.f0 ∧ x.f1 = y.f1 ∧ x.f2 = y.f2 := by
  cases x; cases y; simp
instance : DecidableEq S65 := fun x y => decidable_of_iff _ told_ext.symm
theorem same18_l (a b : List S65) (hab : a.length = b.length) (hm : a.length ≤ 1000000) (F : Nat) (hF : ∀ x ∈ a, x.f2.length ≤ F) (hF2 : F ≤ 1000000) : ∀ (n i : Nat), i + n = a.length → haversackref18_Same.l0 (n + F + 2) a b i = some (decide (a.drop i = b.drop i)) := by
  intro n
  induction n with
  | zero =>
    intro i hi
    unfold haversackref18_Same.l0
    rw [if_neg (by omega), List.drop_eq_nil_of_le (by omega), List.drop_eq_nil_of_le (by omega)]
    simp
  | succ n ih =>
    intro i hi
    rw [show n + 1 + F + 2 = (n + F + 2) + 1 by omega]
    unfold haversackref18_Same.l0
    rw [if_pos (by omega), if_pos (by omega), if_pos (by omega)]
    have ea : rd_T65 a i = a[i]'(by omega) := by unfold rd_T65; simp [List.getD, List.getElem?_eq_getElem (show i < a.length by omega)]
    have eb : rd_T65 b i = b[i]'(by omega) := by unfold rd_T65; simp [List.getD, List.getElem?_eq_getElem (show i < b.length by omega)]
    have hfl : (a[i]'(by omega)).f2.length ≤ F := hF _ (List.getElem_mem _)
    have hs : haversackref16_Same.f (n + F + 2) (a[i]'(by omega)).f2 (b[i]'(by omega)).f2 = some (decide ((a[i]'(by omega)).f2 = (b[i]'(by omega)).f2)) :=
      mono_up (haversackref16_Same.mono _ _) (by omega) (same16_eq _ _ (by omega))
    rw [ea, eb, wrap_nat (by omega), hs, Option.bind_some, ih (i + 1) (by omega)]
    have := drop_eq (a := a) (b := b) (i := i) (by omega) (by omega)
    rw [told_ext] at this
    by_cases h0 : (a[i]'(by omega)).f0 = (b[i]'(by omega)).f0
    · by_cases h1 : (a[i]'(by omega)).f1 = (b[i]'(by omega)).f1
      · by_cases h2 : (a[i]'(by omega)).f2 = (b[i]'(by omega)).f2
        · simp [this, h0, h1, h2]
        · simp [this, h0, h1, h2]
      · simp [this, h0, h1]
    · simp [this, h0]
theorem same18_eq (a b : List S65) (hm : a.length ≤ 1000000) (F : Nat) (hF : ∀ x ∈ a, x.f2.length ≤ F) (hF2 : F ≤ 1000000) : ∃ k, haversackref18_Same.f k a b = some (decide (a = b)) := by
  by_cases h : a.length = b.length
  · refine ⟨a.length + F + 2, ?_⟩
    unfold haversackref18_Same.f
    rw [if_pos (by omega)]
    simpa using same18_l a b h hm F hF hF2 a.length 0 (by omega)
  · refine ⟨0, ?_⟩
    unfold haversackref18_Same.f
    rw [if_neg (by omega), decide_eq_false (fun e => h (by rw [e]))]
end Go.Proofs.YtnenlkojecicfaaDoor.V


namespace Go.Proofs.YtnenlkojecicfaaDoor.V
open Go.RowKit Go.Proofs.YtnenlkojecicfaaDoorW.PrintWords Go.Proofs.YtnenlkojecicfaaDoor.P

theorem orow_built {α : Type} {R : α → List Value → Prop} {e size base : Nat} {w : World} {ps : List α} {cs : List Value} (h : Reps R size ps cs) (hb : base ≤ w.heap.size) (hm : ps.length ≤ maxLen) :
    OwnRow R e size (w.alloc (.cells cs.toArray e)) base (.slice (some ⟨w.heap.size, 0, none⟩) ps.length ps.length) ps :=
  ⟨cs, ⟨h.1, .inr ⟨w.heap.size, ps.length, cs.toArray, rfl, hb, heap_alloc_new w _, Nat.le_refl _, hm, by rw [List.size_toArray]; exact h.1, by rw [← h.1]; simp⟩⟩, h⟩
/-- Ints that are read. -/
def IC (w : World) (v : Value) (ns : List Int) : Prop := ∃ A c, v = .slice A ns.length c ∧ ns.length ≤ c ∧ Kd.C (Kd.int .i64) w A ns.length ns
theorem IC.below {w w1 : World} {v : Value} {ns : List Int} (h : IC w v ns) (hb : Below w.heap.size w w1) : IC w1 v ns := by
  obtain ⟨A, c, e, hl, hc⟩ := h
  exact ⟨A, c, e, hl, Kd.C_below hc hb⟩
theorem IRow.ic {w : World} {base : Nat} {v : Value} {ns : List Int} (h : IRow w base v ns) : IC w v ns := by
  obtain ⟨A, c, e, hl, hr⟩ := OwnRow.reads h
  exact ⟨A, c, e, hl, ReadsRow.imp_ hr (Below.refl _ _) (fun p cs hp => hp)⟩
theorem IC.nil (w : World) : IC w (.slice none 0 0) [] := ⟨none, 0, rfl, by simp, Kd.C_nil _ _⟩
theorem ints_calls {w : World} {v1 v2 : Value} {a b : List Int} (h1 : IC w v1 a) (h2 : IC w v2 b) (hm : a.length ≤ 1000000) : Calls Tryd.prog 18 #[v1, v2] w fun e w' => e = .returned (.bool (decide (a = b))) ∧ Below w.heap.size w w' := by
  obtain ⟨A1, c1, rfl, l1, hc1⟩ := h1
  obtain ⟨A2, c2, rfl, l2, hc2⟩ := h2
  obtain ⟨k, hk⟩ := ints_eq a b hm
  refine (haversackref18_Ints.calls k A1 c1 a A2 c2 b _ w hc1 l1 hc2 l2 hk).mono ?_
  rintro e w' ⟨he, hd⟩
  exact ⟨he, hd.below⟩
/-- What is told, read. -/
def TC (w : World) (v : Value) (ts : List S65) : Prop := ∃ A c, v = .slice A ts.length c ∧ ts.length ≤ c ∧ Kd.C k65 w A ts.length ts
theorem TRow.tc {B base : Nat} {w : World} {v : Value} {ts : List S65} (h : TRow B w base v ts) : TC w v ts := by
  obtain ⟨A, c, e, hl, hr⟩ := OwnRow.reads h
  refine ⟨A, c, e, hl, ReadsRow.imp_ hr (Below.refl _ _) (fun p cs hp => ?_)⟩
  obtain ⟨v, rfl, A2, c2, rfl, l2, g2⟩ := hp
  exact k65_mk w p l2 g2.now
theorem TC.below {w w1 : World} {v : Value} {ts : List S65} (h : TC w v ts) (hb : Below w.heap.size w w1) : TC w1 v ts := by
  obtain ⟨A, c, e, hl, hc⟩ := h
  exact ⟨A, c, e, hl, Kd.C_below hc hb⟩
theorem same_calls {w : World} {v1 v2 : Value} {a b : List S65} (h1 : TC w v1 a) (h2 : TC w v2 b) (hm : a.length ≤ 1000000) (F : Nat) (hF : ∀ x ∈ a, x.f2.length ≤ F) (hF2 : F ≤ 1000000) :
    Calls Tryd.prog 23 #[v1, v2] w fun e w' => e = .returned (.bool (decide (a = b))) ∧ Below w.heap.size w w' := by
  obtain ⟨A1, c1, rfl, l1, hc1⟩ := h1
  obtain ⟨A2, c2, rfl, l2, hc2⟩ := h2
  obtain ⟨k, hk⟩ := same18_eq a b hm F hF hF2
  exact haversackref18_Same.calls k A1 c1 a A2 c2 b _ w hc1 l1 hc2 l2 hk
end Go.Proofs.YtnenlkojecicfaaDoor.V
