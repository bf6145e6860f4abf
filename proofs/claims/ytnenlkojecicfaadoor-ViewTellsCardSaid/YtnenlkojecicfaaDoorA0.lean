/- Rows of ints and of what is told, as they are read; Ints and Same of the reference. -/
import Derived.Test.YtnenlkojecicfaaDoorS0
import Derived.Test.YtnenlkojecicfaaDoorQ1
set_option linter.unusedVariables false
set_option linter.unusedSimpArgs false
namespace Go.Proofs.YtnenlkojecicfaaDoor.V
open Go.RowKit Go.Proofs.YtnenlkojecicfaaDoorW.PrintWords Go.Proofs.YtnenlkojecicfaaDoor.P

theorem orow_built {α : Type} {R : α → List Value → Prop} {e size base : Nat} {w : World} {ps : List α} {cs : List Value} (h : Reps R size ps cs) (hb : base ≤ w.heap.size) (hm : ps.length ≤ maxLen) :
    OwnRow R e size (w.alloc (.cells cs.toArray e)) base (.slice (some ⟨w.heap.size, 0, none⟩) ps.length ps.length) ps :=
  ⟨cs, ⟨h.1, .inr ⟨w.heap.size, ps.length, cs.toArray, rfl, hb, heap_alloc_new w _, Nat.le_refl _, hm, by rw [List.size_toArray]; exact h.1, by rw [← h.1]; simp⟩⟩, h⟩
/-- Ints that are read. -/
def IC (w : World) (v : Value) (ns : List Int) : Prop := ∃ A c, v = .slice A ns.length c ∧ ns.length ≤ c ∧ Kd.C (Kd.int .i64) w A ns.length ns
theorem IC.below {w w1 : World} {v : Value} {ns : List Int} (h : IC w v ns) (hb : Below w.heap.size w w1) : IC w1 v ns := by
  obtain ⟨A, c, e, hl, hc⟩ := h
  exact ⟨A, c, e, hl, Kd.C_below hc hb⟩
theorem IRow.ic {w : World} {base : Nat} {v : Value} {ns : List Int} (h : IRow w base v ns) : IC w v ns := by
  obtain ⟨A, c, e, hl, hr⟩ := OwnRow.reads h
  exact ⟨A, c, e, hl, ReadsRow.imp_ hr (Below.refl _ _) (fun p cs hp => hp)⟩
theorem IC.nil (w : World) : IC w (.slice none 0 0) [] := ⟨none, 0, rfl, by simp, Kd.C_nil _ _⟩
theorem ints_calls {w : World} {v1 v2 : Value} {a b : List Int} (h1 : IC w v1 a) (h2 : IC w v2 b) (hm : a.length ≤ 1000000) : Calls Tryd.prog 18 #[v1, v2] w fun e w' => e = .returned (.bool (decide (a = b))) ∧ Below w.heap.size w w' := by
  obtain ⟨A1, c1, rfl, l1, hc1⟩ := h1
  obtain ⟨A2, c2, rfl, l2, hc2⟩ := h2
  obtain ⟨k, hk⟩ := ints_eq a b hm
  refine (haversackref18_Ints.calls k A1 c1 a A2 c2 b _ w hc1 l1 hc2 l2 hk).mono ?_
  rintro e w' ⟨he, hd⟩
  exact ⟨he, hd.below⟩
/-- What is told, read. -/
def TC (w : World) (v : Value) (ts : List S65) : Prop := ∃ A c, v = .slice A ts.length c ∧ ts.length ≤ c ∧ Kd.C k65 w A ts.length ts
theorem TRow.tc {B base : Nat} {w : World} {v : Value} {ts : List S65} (h : TRow B w base v ts) : TC w v ts := by
  obtain ⟨A, c, e, hl, hr⟩ := OwnRow.reads h
  refine ⟨A, c, e, hl, ReadsRow.imp_ hr (Below.refl _ _) (fun p cs hp => ?_)⟩
  obtain ⟨v, rfl, A2, c2, rfl, l2, g2⟩ := hp
  exact k65_mk w p l2 g2.now
theorem TC.below {w w1 : World} {v : Value} {ts : List S65} (h : TC w v ts) (hb : Below w.heap.size w w1) : TC w1 v ts := by
  obtain ⟨A, c, e, hl, hc⟩ := h
  exact ⟨A, c, e, hl, Kd.C_below hc hb⟩
theorem same_calls {w : World} {v1 v2 : Value} {a b : List S65} (h1 : TC w v1 a) (h2 : TC w v2 b) (hm : a.length ≤ 1000000) (F : Nat) (hF : ∀ x ∈ a, x.f2.length ≤ F) (hF2 : F ≤ 1000000) :
    Calls Tryd.prog 23 #[v1, v2] w fun e w' => e = .returned (.bool (decide (a = b))) ∧ Below w.heap.size w w' := by
  obtain ⟨A1, c1, rfl, l1, hc1⟩ := h1
  obtain ⟨A2, c2, rfl, l2, hc2⟩ := h2
  obtain ⟨k, hk⟩ := same18_eq a b hm F hF hF2
  exact haversackref18_Same.calls k A1 c1 a A2 c2 b _ w hc1 l1 hc2 l2 hk
end Go.Proofs.YtnenlkojecicfaaDoor.V
