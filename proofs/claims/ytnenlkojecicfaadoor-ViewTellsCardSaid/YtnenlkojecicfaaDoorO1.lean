/- What came in, opened: ints, what is told. -/
import Derived.Test.YtnenlkojecicfaaDoorA0
import Derived.ProofKit
import Derived.OpenShut
import Derived.Deep.Strs
set_option linter.unusedVariables false
set_option linter.unusedSimpArgs false
namespace Go.Proofs.YtnenlkojecicfaaDoor.V
open Go.RowKit Go.Proofs.YtnenlkojecicfaaDoorW.PrintWords Go.Proofs.YtnenlkojecicfaaDoor.P
open Go.ChangeShapes Go.WideShapes Go.ChangeAt Go.Deep

theorem wf_i64 {n : Int} (h : (Lit.int .i64 n).wf = true) : -9223372036854775808 ≤ n ∧ n ≤ 9223372036854775807 := by
  have e1 : IntKind.i64.min = -9223372036854775808 := by decide
  have e2 : IntKind.i64.max = 9223372036854775807 := by decide
  simp [Lit.wf, e1, e2] at h
  omega
section
variable {H : Type} {enc : TypeId × Value → H} {W : World} {base : Nat} {sp : Nat → Bool} {held : Bool}
/-- What an element reads as, and what is known of it. -/
def Opn {α : Type} (d : Kd α) (Q : α → Prop) (e : Nat) : Prop := ∀ (H : Type) (enc : TypeId × Value → H) (W : World) (base : Nat) (sp : Nat → Bool) (held : Bool) (n : Nat) (cs : List Value) (x : DataW H × List MemPlace),
  DataW.trod enc Tryd.prog W base sp held n e cs = some x → ∃ a : α, d.K W a cs ∧ Q a
theorem opn_int : Opn (Kd.int .i64) (fun n => (Lit.int .i64 n).wf = true) 3 := by
  intro H enc W base sp held n cs x h
  obtain ⟨z, h1, h2, h3⟩ := DataW.trod_int Tryd.underlying3 h
  exact ⟨z, h1, h3⟩
theorem opn_string : Opn Kd.string (fun _ => True) 9 := by
  intro H enc W base sp held n cs x h
  obtain ⟨s, h1, h2, h3⟩ := DataW.trod_string Tryd.underlying9 h
  exact ⟨s, h1, trivial⟩
/-- A slice whose elements open. -/
theorem opn_row {α : Type} [Inhabited α] {d : Kd α} {Q : α → Prop} {e t : Nat} (he : Opn d Q e) (ht : Tryd.prog.underlying t = some (.slice e)) (hc : Tryd.prog.cellsOf e = d.sz)
    {H : Type} {enc : TypeId × Value → H} {W : World} {base : Nat} {sp : Nat → Bool} {held : Bool} {n : Nat} {cs : List Value} {x : DataW H × List MemPlace} (h : DataW.trod enc Tryd.prog W base sp held n t cs = some x) :
    ∃ (A : Option Addr) (c : Nat) (xs : List α), cs = [.slice A xs.length c] ∧ xs.length ≤ c ∧ d.C W A xs.length xs ∧ ∀ a ∈ xs, Q a := by
  rcases open_slice ht h with ⟨rfl, _⟩ | ⟨a, len, cap, m, n, D, Pl, rfl, hb, hl, hm, hmm, rfl, hx⟩
  · exact ⟨none, 0, [], rfl, by simp, Kd.C_nil _ _, by simp⟩
  · have hlm : len ≤ m := by rw [hmm]; split <;> omega
    obtain ⟨f, hf⟩ := choose_lt (n := len) (p := fun i (y : α) => ∃ cs', W.cells? base (a.add (i * d.sz)) d.sz = some cs' ∧ d.K W y cs' ∧ Q y) (fun i hi => by
      obtain ⟨cs', h1, h2⟩ := hx i (by omega)
      rw [hc] at h1
      obtain ⟨y, h3, h4⟩ := he _ _ _ _ _ _ _ _ _ h2
      exact ⟨y, cs', h1, h3, h4⟩)
    have hlen : ((List.range len).map f).length = len := by simp
    refine ⟨some a, cap, (List.range len).map f, by rw [hlen], by rw [hlen]; exact hl, ?_, ?_⟩
    · refine ⟨rfl, by rw [hlen]; exact Nat.le_trans hl hm, fun _ => ⟨a, rfl, fun j p hj => ?_⟩⟩
      have hjl : j < len := by have := (List.getElem?_eq_some_iff.1 hj).1; rwa [hlen] at this
      rw [List.getElem?_map, List.getElem?_range hjl] at hj
      injection hj with hj
      subst hj
      obtain ⟨cs', h1, h2, _⟩ := hf j hjl
      obtain ⟨_, h3, h4⟩ := World.cells?_some h1
      refine ⟨cs', h3, h2, fun i u hu => ?_⟩
      have hi : i < d.sz := by have := (List.getElem?_eq_some_iff.1 hu).1; omega
      rw [← Deep.add_add, h4 i hi, hu]
    · intro y hy
      obtain ⟨i, hi, rfl⟩ := List.mem_map.1 hy
      obtain ⟨_, _, _, h4⟩ := hf i (List.mem_range.1 hi)
      exact h4
theorem opn_strs : Opn (Kd.slice 9 Kd.string) (fun _ => True) 31 := by
  intro H enc W base sp held n cs x h
  obtain ⟨A, c, xs, rfl, hl, hC, _⟩ := opn_row opn_string Tryd.underlying31 (by kernel_rfl) h
  exact ⟨xs, ⟨A, c, rfl, hl, hC⟩, trivial⟩
theorem cells65 : Tryd.prog.cellsOf 65 = 3 := by kernel_rfl
theorem cells3 : Tryd.prog.cellsOf 3 = 1 := by kernel_rfl
theorem cells31 : Tryd.prog.cellsOf 31 = 1 := by kernel_rfl
instance : Inhabited S65 := ⟨z65⟩
theorem three_of {α : Type} {cs : List α} (h : cs.length = 3) : ∃ a b c, cs = [a, b, c] := by
  cases cs with
  | nil => simp at h
  | cons a r =>
    cases r with
    | nil => simp at h
    | cons b r =>
      cases r with
      | nil => simp at h
      | cons c r =>
        cases r with
        | nil => exact ⟨a, b, c, rfl⟩
        | cons d r => simp at h
theorem opn_told : Opn k65 (fun t => (Lit.int .i64 t.f0).wf = true ∧ (Lit.int .i64 t.f1).wf = true) 65 := by
  intro H enc W base sp held n cs x h
  obtain ⟨y0, y1, y2, m, _, hl, h0, h1, h2⟩ := trod_struct3 Tryd.underlying65 h
  rw [cells65] at hl
  obtain ⟨c0, c1, c2, rfl⟩ := three_of hl
  have g0 : DataW.trod enc Tryd.prog W base sp held m 3 (([c0, c1, c2].drop 0).take (Tryd.prog.cellsOf 3)) = some y0 := h0
  have g1 : DataW.trod enc Tryd.prog W base sp held m 3 (([c0, c1, c2].drop 1).take (Tryd.prog.cellsOf 3)) = some y1 := h1
  have g2 : DataW.trod enc Tryd.prog W base sp held m 31 (([c0, c1, c2].drop 2).take (Tryd.prog.cellsOf 31)) = some y2 := h2
  rw [cells3] at g0 g1
  rw [cells31] at g2
  obtain ⟨z0, e0, w0⟩ := opn_int _ _ _ _ _ _ _ _ _ g0
  obtain ⟨z1, e1, w1⟩ := opn_int _ _ _ _ _ _ _ _ _ g1
  obtain ⟨z2, e2, _⟩ := opn_strs _ _ _ _ _ _ _ _ _ g2
  obtain ⟨A, c, e2, l2, gC⟩ := e2
  have e0' : [c0] = [Value.int .i64 z0] := e0
  have e1' : [c1] = [Value.int .i64 z1] := e1
  have e2' : [c2] = [Value.slice A z2.length c] := e2
  injection e0' with e0' _
  injection e1' with e1' _
  injection e2' with e2' _
  subst e0' e1' e2'
  exact ⟨⟨z0, z1, z2⟩, k65_mk W ⟨z0, z1, z2⟩ l2 gC, w0, w1⟩
/-- An argument that is a row of ints. -/
theorem open_ic {H : Type} {enc : TypeId × Value → H} {W : World} {base : Nat} {sp : Nat → Bool} {held : Bool} {v : Value} {d : DataW H} {ps : List MemPlace} {a : Option Addr} {len cap : Nat} (hv : v = .slice a len cap) (h : DataW.Trod enc Tryd.prog W base sp held 34 v d ps) : ∃ ns, IC W v ns ∧ ∀ n ∈ ns, (Lit.int .i64 n).wf = true := by
  subst hv
  obtain ⟨m, hm⟩ := h
  obtain ⟨A, c, xs, hcs, hl, hC, hq⟩ := opn_row opn_int Tryd.underlying34 cells3 hm
  have e : [Value.slice a len cap] = [Value.slice A xs.length c] := hcs
  injection e with e _
  exact ⟨xs, ⟨A, c, e, hl, hC⟩, hq⟩
theorem open_tc {H : Type} {enc : TypeId × Value → H} {W : World} {base : Nat} {sp : Nat → Bool} {held : Bool} {v : Value} {d : DataW H} {ps : List MemPlace} {a : Option Addr} {len cap : Nat} (hv : v = .slice a len cap) (h : DataW.Trod enc Tryd.prog W base sp held 36 v d ps) : ∃ ts, TC W v ts ∧ ∀ t ∈ ts, (Lit.int .i64 t.f0).wf = true ∧ (Lit.int .i64 t.f1).wf = true := by
  subst hv
  obtain ⟨m, hm⟩ := h
  obtain ⟨A, c, xs, hcs, hl, hC, hq⟩ := opn_row opn_told Tryd.underlying36 cells65 hm
  have e : [Value.slice a len cap] = [Value.slice A xs.length c] := hcs
  injection e with e _
  exact ⟨xs, ⟨A, c, e, hl, hC⟩, hq⟩
end
end Go.Proofs.YtnenlkojecicfaaDoor.V
