/- What came in, opened: ints, what is told. What came in, opened with its sizes: messages, calls. light and few: what they answer. -/
import Derived.Test.YtnenlkojecicfaaDoorA0
import Derived.ProofKit
import Derived.OpenShut
import Derived.Deep.Strs
import Derived.SizedLaws
import Derived.Test.YtnenlkojecicfaaDoorPx1
import Derived.Test.YtnenlkojecicfaaDoorV2
set_option linter.unusedVariables false
set_option linter.unusedSimpArgs false
namespace Go.Proofs.YtnenlkojecicfaaDoor.V
open Go.RowKit Go.Proofs.YtnenlkojecicfaaDoorW.PrintWords Go.Proofs.YtnenlkojecicfaaDoor.P
open Go.ChangeShapes Go.WideShapes Go.ChangeAt Go.Deep

theorem wf_i64 {n : Int} (h : (Lit.int .i64 n).wf = true) : -9223372036854775808 ≤ n ∧ n ≤ 9223372036854775807 := by
  have e1 : IntKind.i64.min = -9223372036854775808 := by decide
  have e2 : IntKind.i64.max = 9223372036854775807 := by decide
  simp [Lit.wf, e1, e2] at h
  omega
section
variable {H : Type} {enc : TypeId × Value → H} {W : World} {base : Nat} {sp : Nat → Bool} {held : Bool}
/-- What an element reads as, and what is known of it. -/
def Opn {α : Type} (d : Kd α) (Q : α → Prop) (e : Nat) : Prop := ∀ (H : Type) (enc : TypeId × Value → H) (W : World) (base : Nat) (sp : Nat → Bool) (held : Bool) (n : Nat) (cs : List Value) (x : DataW H × List MemPlace),
  DataW.trod enc Tryd.prog W base sp held n e cs = some x → ∃ a : α, d.K W a cs ∧ Q a
theorem opn_int : Opn (Kd.int .i64) (fun n => (Lit.int .i64 n).wf = true) 3 := by
  intro H enc W base sp held n cs x h
  obtain ⟨z, h1, h2, h3⟩ := DataW.trod_int Tryd.underlying3 h
  exact ⟨z, h1, h3⟩
theorem opn_string : Opn Kd.string (fun _ => True) 9 := by
  intro H enc W base sp held n cs x h
  obtain ⟨s, h1, h2, h3⟩ := DataW.trod_string Tryd.underlying9 h
  exact ⟨s, h1, trivial⟩
/-- A slice whose elements open. -/
theorem opn_row {α : Type} [Inhabited α] {d : Kd α} {Q : α → Prop} {e t : Nat} (he : Opn d Q e) (ht : Tryd.prog.underlying t = some (.slice e)) (hc : Tryd.prog.cellsOf e = d.sz)
    {H : Type} {enc : TypeId × Value → H} {W : World} {base : Nat} {sp : Nat → Bool} {held : Bool} {n : Nat} {cs : List Value} {x : DataW H × List MemPlace} (h : DataW.trod enc Tryd.prog W base sp held n t cs = some x) :
    ∃ (A : Option Addr) (c : Nat) (xs : List α), cs = [.slice A xs.length c] ∧ xs.length ≤ c ∧ d.C W A xs.length xs ∧ ∀ a ∈ xs, Q a := by
  rcases open_slice ht h with ⟨rfl, _⟩ | ⟨a, len, cap, m, n, D, Pl, rfl, hb, hl, hm, hmm, rfl, hx⟩
  · exact ⟨none, 0, [], rfl, by simp, Kd.C_nil _ _, by simp⟩
  · have hlm : len ≤ m := by rw [hmm]; split <;> omega
    obtain ⟨f, hf⟩ := choose_lt (n := len) (p := fun i (y : α) => ∃ cs', W.cells? base (a.add (i * d.sz)) d.sz = some cs' ∧ d.K W y cs' ∧ Q y) (fun i hi => by
      obtain ⟨cs', h1, h2⟩ := hx i (by omega)
      rw [hc] at h1
      obtain ⟨y, h3, h4⟩ := he _ _ _ _ _ _ _ _ _ h2
      exact ⟨y, cs', h1, h3, h4⟩)
    have hlen : ((List.range len).map f).length = len := by simp
    refine ⟨some a, cap, (List.range len).map f, by rw [hlen], by rw [hlen]; exact hl, ?_, ?_⟩
    · refine ⟨rfl, by rw [hlen]; exact Nat.le_trans hl hm, fun _ => ⟨a, rfl, fun j p hj => ?_⟩⟩
      have hjl : j < len := by have := (List.getElem?_eq_some_iff.1 hj).1; rwa [hlen] at this
      rw [List.getElem?_map, List.getElem?_range hjl] at hj
      injection hj with hj
      subst hj
      obtain ⟨cs', h1, h2, _⟩ := hf j hjl
      obtain ⟨_, h3, h4⟩ := World.cells?_some h1
      refine ⟨cs', h3, h2, fun i u hu => ?_⟩
      have hi : i < d.sz := by have := (List.getElem?_eq_some_iff.1 hu).1; omega
      rw [← Deep.add_add, h4 i hi, hu]
    · intro y hy
      obtain ⟨i, hi, rfl⟩ := List.mem_map.1 hy
      obtain ⟨_, _, _, h4⟩ := hf i (List.mem_range.1 hi)
      exact h4
theorem opn_strs : Opn (Kd.slice 9 Kd.string) (fun _ => True) 31 := by
  intro H enc W base sp held n cs x h
  obtain ⟨A, c, xs, rfl, hl, hC, _⟩ := opn_row opn_string Tryd.underlying31 (by kernel_rfl) h
  exact ⟨xs, ⟨A, c, rfl, hl, hC⟩, trivial⟩
theorem cells65 : Tryd.prog.cellsOf 65 = 3 := by kernel_rfl
theorem cells3 : Tryd.prog.cellsOf 3 = 1 := by kernel_rfl
theorem cells31 : Tryd.prog.cellsOf 31 = 1 := by kernel_rfl
instance : Inhabited S65 := ⟨z65⟩
theorem three_of {α : Type} {cs : List α} (h : cs.length = 3) : ∃ a b c, cs = [a, b, c] := by
  cases cs with
  | nil => simp at h
  | cons a r =>
    cases r with
    | nil => simp at h
    | cons b r =>
      cases r with
      | nil => simp at h
      | cons c r =>
        cases r with
        | nil => exact ⟨a, b, c, rfl⟩
        | cons d r => simp at h
theorem opn_told : Opn k65 (fun t => (Lit.int .i64 t.f0).wf = true ∧ (Lit.int .i64 t.f1).wf = true) 65 := by
  intro H enc W base sp held n cs x h
  obtain ⟨y0, y1, y2, m, _, hl, h0, h1, h2⟩ := trod_struct3 Tryd.underlying65 h
  rw [cells65] at hl
  obtain ⟨c0, c1, c2, rfl⟩ := three_of hl
  have g0 : DataW.trod enc Tryd.prog W base sp held m 3 (([c0, c1, c2].drop 0).take (Tryd.prog.cellsOf 3)) = some y0 := h0
  have g1 : DataW.trod enc Tryd.prog W base sp held m 3 (([c0, c1, c2].drop 1).take (Tryd.prog.cellsOf 3)) = some y1 := h1
  have g2 : DataW.trod enc Tryd.prog W base sp held m 31 (([c0, c1, c2].drop 2).take (Tryd.prog.cellsOf 31)) = some y2 := h2
  rw [cells3] at g0 g1
  rw [cells31] at g2
  obtain ⟨z0, e0, w0⟩ := opn_int _ _ _ _ _ _ _ _ _ g0
  obtain ⟨z1, e1, w1⟩ := opn_int _ _ _ _ _ _ _ _ _ g1
  obtain ⟨z2, e2, _⟩ := opn_strs _ _ _ _ _ _ _ _ _ g2
  obtain ⟨A, c, e2, l2, gC⟩ := e2
  have e0' : [c0] = [Value.int .i64 z0] := e0
  have e1' : [c1] = [Value.int .i64 z1] := e1
  have e2' : [c2] = [Value.slice A z2.length c] := e2
  injection e0' with e0' _
  injection e1' with e1' _
  injection e2' with e2' _
  subst e0' e1' e2'
  exact ⟨⟨z0, z1, z2⟩, k65_mk W ⟨z0, z1, z2⟩ l2 gC, w0, w1⟩
/-- An argument that is a row of ints. -/
theorem open_ic {H : Type} {enc : TypeId × Value → H} {W : World} {base : Nat} {sp : Nat → Bool} {held : Bool} {v : Value} {d : DataW H} {ps : List MemPlace} {a : Option Addr} {len cap : Nat} (hv : v = .slice a len cap) (h : DataW.Trod enc Tryd.prog W base sp held 34 v d ps) : ∃ ns, IC W v ns ∧ ∀ n ∈ ns, (Lit.int .i64 n).wf = true := by
  subst hv
  obtain ⟨m, hm⟩ := h
  obtain ⟨A, c, xs, hcs, hl, hC, hq⟩ := opn_row opn_int Tryd.underlying34 cells3 hm
  have e : [Value.slice a len cap] = [Value.slice A xs.length c] := hcs
  injection e with e _
  exact ⟨xs, ⟨A, c, e, hl, hC⟩, hq⟩
theorem open_tc {H : Type} {enc : TypeId × Value → H} {W : World} {base : Nat} {sp : Nat → Bool} {held : Bool} {v : Value} {d : DataW H} {ps : List MemPlace} {a : Option Addr} {len cap : Nat} (hv : v = .slice a len cap) (h : DataW.Trod enc Tryd.prog W base sp held 36 v d ps) : ∃ ts, TC W v ts ∧ ∀ t ∈ ts, (Lit.int .i64 t.f0).wf = true ∧ (Lit.int .i64 t.f1).wf = true := by
  subst hv
  obtain ⟨m, hm⟩ := h
  obtain ⟨A, c, xs, hcs, hl, hC, hq⟩ := opn_row opn_told Tryd.underlying36 cells65 hm
  have e : [Value.slice a len cap] = [Value.slice A xs.length c] := hcs
  injection e with e _
  exact ⟨xs, ⟨A, c, e, hl, hC⟩, hq⟩
end
end Go.Proofs.YtnenlkojecicfaaDoor.V


namespace Go.Proofs.YtnenlkojecicfaaDoor.V
open Go.RowKit Go.Proofs.YtnenlkojecicfaaDoorW.PrintWords Go.Proofs.YtnenlkojecicfaaDoor.P
open Go.ChangeShapes Go.WideShapes Go.ChangeAt Go.Deep

theorem wts_slice {H : Type} {P : Program} {t e : TypeId} {elems spare : List (DataW H)} (ht : P.underlying t = some (.slice e)) :
    (DataW.slice elems spare).weights P t = (elems.length + spare.length) * P.bytesOf e :: (DataW.weightsAll P e elems ++ DataW.weightsAll P e spare) := by
  simp [DataW.weights, ht]
theorem wts_agg {H : Type} {P : Program} {t : TypeId} {fs : Array Field} {parts : List (DataW H)} (ht : P.underlying t = some (.struct fs)) :
    (DataW.agg parts).weights P t = DataW.weightsEach P (fs.toList.map (·.type)) parts := by
  simp [DataW.weights, ht]
theorem wts_all {H : Type} {P : Program} {e : TypeId} {ds : List (DataW H)} {d : DataW H} (hd : d ∈ ds) {n : Nat} (hn : n ∈ d.weights P e) : n ∈ DataW.weightsAll P e ds := by
  induction ds with
  | nil => cases hd
  | cons x r ih =>
    unfold DataW.weightsAll
    rcases List.mem_cons.1 hd with rfl | hd
    · exact List.mem_append_left _ hn
    · exact List.mem_append_right _ (ih hd)
/-- What an element reads as, and what is known of it, its weights being small. -/
def OpnW {α : Type} (d : Kd α) (Q : α → Prop) (e : Nat) : Prop := ∀ (H : Type) (enc : TypeId × Value → H) (W : World) (base : Nat) (sp : Nat → Bool) (held : Bool) (n : Nat) (cs : List Value) (x : DataW H × List MemPlace),
  DataW.trod enc Tryd.prog W base sp held n e cs = some x → (∀ k ∈ x.1.weights Tryd.prog e, k ≤ reachBytes) → ∃ a : α, d.K W a cs ∧ Q a
theorem opnw_of {α : Type} {d : Kd α} {Q : α → Prop} {e : Nat} (h : Opn d Q e) : OpnW d Q e := fun _ _ _ _ _ _ _ _ _ ht _ => h _ _ _ _ _ _ _ _ _ ht
theorem opnw_string : OpnW Kd.string (fun s => s.size ≤ 140737488351232) 9 := by
  intro H enc W base sp held n cs x h hw
  obtain ⟨s, h1, h2, h3⟩ := DataW.trod_string Tryd.underlying9 h
  refine ⟨s, h1, ?_⟩
  subst h2
  have := hw s.data.toList.length (by simp [DataW.weights])
  unfold reachBytes at this
  simpa using this
theorem opnw_rowC {α : Type} [Inhabited α] {d : Kd α} {Q : α → Prop} {e t : Nat} (he : OpnW d Q e) (ht : Tryd.prog.underlying t = some (.slice e)) (hc : Tryd.prog.cellsOf e = d.sz)
    {H : Type} {enc : TypeId × Value → H} {W : World} {base : Nat} {sp : Nat → Bool} {held : Bool} {n : Nat} {cs : List Value} {x : DataW H × List MemPlace} (h : DataW.trod enc Tryd.prog W base sp held n t cs = some x)
    (hw : ∀ k ∈ x.1.weights Tryd.prog t, k ≤ reachBytes) :
    ∃ (A : Option Addr) (c : Nat) (xs : List α), cs = [.slice A xs.length c] ∧ xs.length ≤ c ∧ d.C W A xs.length xs ∧ ∀ a ∈ xs, Q a := by
  rcases open_slice ht h with ⟨rfl, _⟩ | ⟨a, len, cap, m, n, D, Pl, rfl, hb, hl, hm, hmm, rfl, hx⟩
  · exact ⟨none, 0, [], rfl, by simp, Kd.C_nil _ _, by simp⟩
  · have hlm : len ≤ m := by rw [hmm]; split <;> omega
    have hw' : ∀ i, i < len → ∀ k ∈ (D i).weights Tryd.prog e, k ≤ reachBytes := fun i hi k hk => by
      refine hw k ?_
      rw [wts_slice ht]
      exact List.mem_cons_of_mem _ (List.mem_append_left _ (wts_all (List.mem_map.2 ⟨i, List.mem_range.2 hi, rfl⟩) hk))
    obtain ⟨f, hf⟩ := choose_lt (n := len) (p := fun i (y : α) => ∃ cs', W.cells? base (a.add (i * d.sz)) d.sz = some cs' ∧ d.K W y cs' ∧ Q y) (fun i hi => by
      obtain ⟨cs', h1, h2⟩ := hx i (by omega)
      rw [hc] at h1
      obtain ⟨y, h3, h4⟩ := he _ _ _ _ _ _ _ _ _ h2 (hw' i hi)
      exact ⟨y, cs', h1, h3, h4⟩)
    have hlen : ((List.range len).map f).length = len := by simp
    refine ⟨some a, cap, (List.range len).map f, by rw [hlen], by rw [hlen]; exact hl, ?_, ?_⟩
    · refine ⟨rfl, by rw [hlen]; exact Nat.le_trans hl hm, fun _ => ⟨a, rfl, fun j p hj => ?_⟩⟩
      have hjl : j < len := by have := (List.getElem?_eq_some_iff.1 hj).1; rwa [hlen] at this
      rw [List.getElem?_map, List.getElem?_range hjl] at hj
      injection hj with hj
      subst hj
      obtain ⟨cs', h1, h2, _⟩ := hf j hjl
      obtain ⟨_, h3, h4⟩ := World.cells?_some h1
      refine ⟨cs', h3, h2, fun i u hu => ?_⟩
      have hi : i < d.sz := by have := (List.getElem?_eq_some_iff.1 hu).1; omega
      rw [← Deep.add_add, h4 i hi, hu]
    · intro y hy
      obtain ⟨i, hi, rfl⟩ := List.mem_map.1 hy
      obtain ⟨_, _, _, h4⟩ := hf i (List.mem_range.1 hi)
      exact h4
theorem opnw_row {α : Type} [Inhabited α] {d : Kd α} {Q : α → Prop} {e t : Nat} (he : OpnW d Q e) (ht : Tryd.prog.underlying t = some (.slice e)) (hc : Tryd.prog.cellsOf e = d.sz) :
    OpnW (Kd.slice e d) (fun xs => ∀ a ∈ xs, Q a) t := by
  intro H enc W base sp held n cs x h hw
  obtain ⟨A, c, xs, rfl, hl, hC, hq⟩ := opnw_rowC he ht hc h hw
  exact ⟨xs, ⟨A, c, rfl, hl, hC⟩, hq⟩
theorem cells9 : Tryd.prog.cellsOf 9 = 1 := by kernel_rfl
theorem cells41 : Tryd.prog.cellsOf 41 = 7 := by kernel_rfl
theorem cells43 : Tryd.prog.cellsOf 43 = 12 := by kernel_rfl
theorem cells22 : Tryd.prog.cellsOf 22 = 1 := by kernel_rfl
theorem cells33 : Tryd.prog.cellsOf 33 = 4 := by kernel_rfl
instance : Inhabited S43 := ⟨z43⟩
instance : Inhabited S33 := ⟨z33⟩
theorem opnw_strs : OpnW (Kd.slice 9 Kd.string) (fun fs => ∀ f ∈ fs, f.size ≤ 140737488351232) 31 := opnw_row opnw_string Tryd.underlying31 cells9
theorem opnw_int : OpnW (Kd.int .i64) (fun n => (Lit.int .i64 n).wf = true) 3 := opnw_of opn_int
theorem wts_part {H : Type} {t : TypeId} {fs : Array Field} {parts : List (DataW H)} (ht : Tryd.prog.underlying t = some (.struct fs)) (hw : ∀ k ∈ (DataW.agg parts).weights Tryd.prog t, k ≤ reachBytes)
    (j : Nat) {u : TypeId} {d : DataW H} (hu : (fs.toList.map (·.type))[j]? = some u) (hd : parts[j]? = some d) : ∀ k ∈ d.weights Tryd.prog u, k ≤ reachBytes := fun k hk => by
  refine hw k ?_
  rw [wts_agg ht]
  exact DataW.weights_mem_each hu hd k hk
set_option maxRecDepth 100000 in
theorem opnw_date : OpnW k41 (fun _ => True) 41 := by
  intro H enc W base sp held n cs x h hw
  obtain ⟨xs, m, _, rfl, hl, hlen, hf⟩ := DataW.trod_struct Tryd.underlying41 h
  rw [cells41] at hl
  match xs, hlen, cs, hl with
  | [y0, y1, y2, y3, y4, y5, y6], _, [c0, c1, c2, c3, c4, c5, c6], _ =>
    have g0 : DataW.trod enc Tryd.prog W base sp held m 3 (([c0, c1, c2, c3, c4, c5, c6].drop 0).take (Tryd.prog.cellsOf 3)) = some y0 := hf 0 _ rfl
    have g1 : DataW.trod enc Tryd.prog W base sp held m 3 (([c0, c1, c2, c3, c4, c5, c6].drop 1).take (Tryd.prog.cellsOf 3)) = some y1 := hf 1 _ rfl
    have g2 : DataW.trod enc Tryd.prog W base sp held m 3 (([c0, c1, c2, c3, c4, c5, c6].drop 2).take (Tryd.prog.cellsOf 3)) = some y2 := hf 2 _ rfl
    have g3 : DataW.trod enc Tryd.prog W base sp held m 3 (([c0, c1, c2, c3, c4, c5, c6].drop 3).take (Tryd.prog.cellsOf 3)) = some y3 := hf 3 _ rfl
    have g4 : DataW.trod enc Tryd.prog W base sp held m 3 (([c0, c1, c2, c3, c4, c5, c6].drop 4).take (Tryd.prog.cellsOf 3)) = some y4 := hf 4 _ rfl
    have g5 : DataW.trod enc Tryd.prog W base sp held m 3 (([c0, c1, c2, c3, c4, c5, c6].drop 5).take (Tryd.prog.cellsOf 3)) = some y5 := hf 5 _ rfl
    have g6 : DataW.trod enc Tryd.prog W base sp held m 3 (([c0, c1, c2, c3, c4, c5, c6].drop 6).take (Tryd.prog.cellsOf 3)) = some y6 := hf 6 _ rfl
    rw [cells3] at g0 g1 g2 g3 g4 g5 g6
    obtain ⟨z0, e0, _⟩ := opn_int _ _ _ _ _ _ _ _ _ g0
    obtain ⟨z1, e1, _⟩ := opn_int _ _ _ _ _ _ _ _ _ g1
    obtain ⟨z2, e2, _⟩ := opn_int _ _ _ _ _ _ _ _ _ g2
    obtain ⟨z3, e3, _⟩ := opn_int _ _ _ _ _ _ _ _ _ g3
    obtain ⟨z4, e4, _⟩ := opn_int _ _ _ _ _ _ _ _ _ g4
    obtain ⟨z5, e5, _⟩ := opn_int _ _ _ _ _ _ _ _ _ g5
    obtain ⟨z6, e6, _⟩ := opn_int _ _ _ _ _ _ _ _ _ g6
    have e0' : [c0] = [Value.int .i64 z0] := e0
    have e1' : [c1] = [Value.int .i64 z1] := e1
    have e2' : [c2] = [Value.int .i64 z2] := e2
    have e3' : [c3] = [Value.int .i64 z3] := e3
    have e4' : [c4] = [Value.int .i64 z4] := e4
    have e5' : [c5] = [Value.int .i64 z5] := e5
    have e6' : [c6] = [Value.int .i64 z6] := e6
    injection e0' with e0' _
    injection e1' with e1' _
    injection e2' with e2' _
    injection e3' with e3' _
    injection e4' with e4' _
    injection e5' with e5' _
    injection e6' with e6' _
    subst e0' e1' e2' e3' e4' e5' e6'
    exact ⟨⟨z0, z1, z2, z3, z4, z5, z6⟩, k41_mk W ⟨z0, z1, z2, z3, z4, z5, z6⟩, trivial⟩
/-- What is known of a message that came in. -/
def MailQ (m : S43) : Prop := (Lit.int .i64 m.f0).wf = true ∧ ∀ f ∈ m.f1, f.size ≤ 140737488351232
set_option maxRecDepth 100000 in
theorem opnw_mail : OpnW k43 MailQ 43 := by
  intro H enc W base sp held n cs x h hw
  obtain ⟨xs, m, _, rfl, hl, hlen, hf⟩ := DataW.trod_struct Tryd.underlying43 h
  rw [cells43] at hl
  match xs, hlen, cs, hl with
  | [y0, y1, y2, y3, y4, y5], _, [c0, c1, c2, c3, c4, c5, c6, c7, c8, c9, c10, c11], _ =>
    have g0 : DataW.trod enc Tryd.prog W base sp held m 3 (([c0, c1, c2, c3, c4, c5, c6, c7, c8, c9, c10, c11].drop 0).take (Tryd.prog.cellsOf 3)) = some y0 := hf 0 _ rfl
    have g1 : DataW.trod enc Tryd.prog W base sp held m 31 (([c0, c1, c2, c3, c4, c5, c6, c7, c8, c9, c10, c11].drop 1).take (Tryd.prog.cellsOf 31)) = some y1 := hf 1 _ rfl
    have g2 : DataW.trod enc Tryd.prog W base sp held m 41 (([c0, c1, c2, c3, c4, c5, c6, c7, c8, c9, c10, c11].drop 2).take (Tryd.prog.cellsOf 41)) = some y2 := hf 2 _ rfl
    have g3 : DataW.trod enc Tryd.prog W base sp held m 9 (([c0, c1, c2, c3, c4, c5, c6, c7, c8, c9, c10, c11].drop 9).take (Tryd.prog.cellsOf 9)) = some y3 := hf 3 _ rfl
    have g4 : DataW.trod enc Tryd.prog W base sp held m 3 (([c0, c1, c2, c3, c4, c5, c6, c7, c8, c9, c10, c11].drop 10).take (Tryd.prog.cellsOf 3)) = some y4 := hf 4 _ rfl
    have g5 : DataW.trod enc Tryd.prog W base sp held m 3 (([c0, c1, c2, c3, c4, c5, c6, c7, c8, c9, c10, c11].drop 11).take (Tryd.prog.cellsOf 3)) = some y5 := hf 5 _ rfl
    rw [cells3] at g0 g4 g5
    rw [cells31] at g1
    rw [cells41] at g2
    rw [cells9] at g3
    obtain ⟨z0, e0, w0⟩ := opn_int _ _ _ _ _ _ _ _ _ g0
    obtain ⟨z1, e1, w1⟩ := opnw_strs _ _ _ _ _ _ _ _ _ g1 (wts_part Tryd.underlying43 hw 1 rfl rfl)
    obtain ⟨z2, e2, _⟩ := opnw_date _ _ _ _ _ _ _ _ _ g2 (wts_part Tryd.underlying43 hw 2 rfl rfl)
    obtain ⟨z3, e3, _⟩ := opn_string _ _ _ _ _ _ _ _ _ g3
    obtain ⟨z4, e4, _⟩ := opn_int _ _ _ _ _ _ _ _ _ g4
    obtain ⟨z5, e5, _⟩ := opn_int _ _ _ _ _ _ _ _ _ g5
    obtain ⟨A, c, e1, l1, gC⟩ := e1
    have e2 := k41_open e2
    have e0' : [c0] = [Value.int .i64 z0] := e0
    have e1' : [c1] = [Value.slice A z1.length c] := e1
    have e2' : [c2, c3, c4, c5, c6, c7, c8] = [.int .i64 z2.f0, .int .i64 z2.f1, .int .i64 z2.f2, .int .i64 z2.f3, .int .i64 z2.f4, .int .i64 z2.f5, .int .i64 z2.f6] := e2
    have e3' : [c9] = [Value.string z3] := e3
    have e4' : [c10] = [Value.int .i64 z4] := e4
    have e5' : [c11] = [Value.int .i64 z5] := e5
    simp only [List.cons.injEq, and_true] at e0' e1' e2' e3' e4' e5'
    obtain ⟨q2, q3, q4, q5, q6, q7, q8⟩ := e2'
    subst e0' e1' q2 q3 q4 q5 q6 q7 q8 e3' e4' e5'
    exact ⟨⟨z0, z1, z2, z3, z4, z5⟩, k43_mk W ⟨z0, z1, z2, z3, z4, z5⟩ l1 gC, w0, w1⟩
theorem opnw_mails : OpnW (Kd.slice 43 k43) (fun ms => ∀ m ∈ ms, MailQ m) 22 := opnw_row opnw_mail Tryd.underlying22 cells43
/-- What is known of a call that came in. -/
def ActQ (x : S33) : Prop := (∀ m ∈ x.f1, MailQ m) ∧ (∀ f ∈ x.f3, f.size ≤ 140737488351232) ∧ (Lit.int .i64 x.f2).wf = true
set_option maxRecDepth 100000 in
theorem opnw_act : OpnW k33 ActQ 33 := by
  intro H enc W base sp held n cs x h hw
  obtain ⟨xs, m, _, rfl, hl, hlen, hf⟩ := DataW.trod_struct Tryd.underlying33 h
  rw [cells33] at hl
  match xs, hlen, cs, hl with
  | [y0, y1, y2, y3], _, [c0, c1, c2, c3], _ =>
    have g0 : DataW.trod enc Tryd.prog W base sp held m 3 (([c0, c1, c2, c3].drop 0).take (Tryd.prog.cellsOf 3)) = some y0 := hf 0 _ rfl
    have g1 : DataW.trod enc Tryd.prog W base sp held m 22 (([c0, c1, c2, c3].drop 1).take (Tryd.prog.cellsOf 22)) = some y1 := hf 1 _ rfl
    have g2 : DataW.trod enc Tryd.prog W base sp held m 3 (([c0, c1, c2, c3].drop 2).take (Tryd.prog.cellsOf 3)) = some y2 := hf 2 _ rfl
    have g3 : DataW.trod enc Tryd.prog W base sp held m 31 (([c0, c1, c2, c3].drop 3).take (Tryd.prog.cellsOf 31)) = some y3 := hf 3 _ rfl
    rw [cells3] at g0 g2
    rw [cells22] at g1
    rw [cells31] at g3
    obtain ⟨z0, e0, w0⟩ := opn_int _ _ _ _ _ _ _ _ _ g0
    obtain ⟨z1, e1, w1⟩ := opnw_mails _ _ _ _ _ _ _ _ _ g1 (wts_part Tryd.underlying33 hw 1 rfl rfl)
    obtain ⟨z2, e2, w2⟩ := opn_int _ _ _ _ _ _ _ _ _ g2
    obtain ⟨z3, e3, w3⟩ := opnw_strs _ _ _ _ _ _ _ _ _ g3 (wts_part Tryd.underlying33 hw 3 rfl rfl)
    obtain ⟨A1, k1, e1, l1, gC1⟩ := e1
    obtain ⟨A3, k3, e3, l3, gC3⟩ := e3
    have e0' : [c0] = [Value.int .i64 z0] := e0
    have e1' : [c1] = [Value.slice A1 z1.length k1] := e1
    have e2' : [c2] = [Value.int .i64 z2] := e2
    have e3' : [c3] = [Value.slice A3 z3.length k3] := e3
    simp only [List.cons.injEq, and_true] at e0' e1' e2' e3'
    subst e0' e1' e2' e3'
    exact ⟨⟨z0, z1, z2, z3⟩, k33_mk W ⟨z0, z1, z2, z3⟩ l1 gC1 l3 gC3, w1, w3, w2⟩
/-- Messages, calls, read. -/
def MC (w : World) (v : Value) (ms : List S43) : Prop := ∃ A c, v = .slice A ms.length c ∧ ms.length ≤ c ∧ Kd.C k43 w A ms.length ms
def AC (w : World) (v : Value) (l : List S33) : Prop := ∃ A c, v = .slice A l.length c ∧ l.length ≤ c ∧ Kd.C k33 w A l.length l
section
variable {H : Type} {enc : TypeId × Value → H} {W : World} {base : Nat} {sp : Nat → Bool} {held : Bool} {v : Value} {d : DataW H} {ps : List MemPlace} {a : Option Addr} {len cap : Nat}
theorem open_mc (hv : v = .slice a len cap) (h : DataW.Trod enc Tryd.prog W base sp held 22 v d ps) (hw : ∀ k ∈ d.weights Tryd.prog 22, k ≤ reachBytes) : ∃ ms, MC W v ms ∧ ∀ m ∈ ms, MailQ m := by
  subst hv
  obtain ⟨m, hm⟩ := h
  obtain ⟨A, c, xs, hcs, hl, hC, hq⟩ := opnw_rowC opnw_mail Tryd.underlying22 cells43 hm hw
  have e : [Value.slice a len cap] = [Value.slice A xs.length c] := hcs
  injection e with e _
  exact ⟨xs, ⟨A, c, e, hl, hC⟩, hq⟩
theorem open_ac (hv : v = .slice a len cap) (h : DataW.Trod enc Tryd.prog W base sp held 23 v d ps) (hw : ∀ k ∈ d.weights Tryd.prog 23, k ≤ reachBytes) : ∃ l, AC W v l ∧ ∀ x ∈ l, ActQ x := by
  subst hv
  obtain ⟨m, hm⟩ := h
  obtain ⟨A, c, xs, hcs, hl, hC, hq⟩ := opnw_rowC opnw_act Tryd.underlying23 cells33 hm hw
  have e : [Value.slice a len cap] = [Value.slice A xs.length c] := hcs
  injection e with e _
  exact ⟨xs, ⟨A, c, e, hl, hC⟩, hq⟩
end
/-- An argument's weights, out of the row's. -/
theorem arg_weights {H : Type} {ts : List TypeId} {ds : List (DataW H)} (h : (DataW.weightsEach Tryd.prog ts ds).all (· ≤ reachBytes) = true) (j : Nat) {t : TypeId} {d : DataW H} (ht : ts[j]? = some t) (hd : ds[j]? = some d) : ∀ k ∈ d.weights Tryd.prog t, k ≤ reachBytes := fun k hk => by
  have := List.all_eq_true.1 h k (DataW.weights_mem_each ht hd k hk)
  simpa using this
end Go.Proofs.YtnenlkojecicfaaDoor.V


namespace Go.Proofs.YtnenlkojecicfaaDoor.V
open Go.RowKit Go.Proofs.YtnenlkojecicfaaDoorW.PrintWords Go.Proofs.YtnenlkojecicfaaDoor.P

theorem flags_l (fs : List ByteArray) : ∀ (n i : Nat) (x : Int), 61 ≤ i + n → i ≤ 61 → ∃ r, haversacklaw18_flags.l0 (n + 1) fs x i = some r := by
  intro n
  induction n with
  | zero =>
    intro i x h hi
    unfold haversacklaw18_flags.l0
    have h1 : ¬ ((i : Int) ≤ 60) := by omega
    rw [if_neg h1]
    split <;> exact ⟨x, rfl⟩
  | succ n ih =>
    intro i x h hi
    unfold haversacklaw18_flags.l0
    split
    · split
      · rw [if_pos (by omega), wrap_nat (by omega)]
        exact ih _ _ (by omega) (by omega)
      · exact ⟨x, rfl⟩
    · exact ⟨x, rfl⟩
theorem flags_ev (fs : List ByteArray) : ∃ r, ∀ k, 62 ≤ k → haversacklaw18_flags.f k fs = some r := by
  obtain ⟨r, hr⟩ := flags_l fs 61 0 (fs.length : Int) (by omega) (by omega)
  exact ⟨r, fun k hk => mono_up (fun k => haversacklaw18_flags.mono fs k) hk hr⟩
theorem light_l (ms : List S43) : ∀ (n i : Nat) (x : Int), 61 ≤ i + n → i ≤ 61 → ∃ b, haversacklaw18_light.l0 (n + 63) ms x i = some b ∧ (b = true → ms.length ≤ 60) := by
  have fin : ∀ x : Int, ∃ b, (if (ms.length : Int) ≤ 60 then (some (decide (x ≤ 3000))) else (some false)) = some b ∧ (b = true → ms.length ≤ 60) := by
    intro x
    split
    · exact ⟨_, rfl, fun _ => by omega⟩
    · exact ⟨false, rfl, fun h => by cases h⟩
  intro n
  induction n with
  | zero =>
    intro i x h hi
    unfold haversacklaw18_light.l0
    have h1 : ¬ ((i : Int) ≤ 60) := by omega
    rw [if_neg h1]
    split <;> exact fin x
  | succ n ih =>
    intro i x h hi
    unfold haversacklaw18_light.l0
    split
    · split
      · rw [if_pos (by omega), wrap_nat (by omega)]
        obtain ⟨r, hr⟩ := flags_ev (rd_T43 ms (i : Int)).f1
        rw [hr (n + 63) (by omega)]
        exact ih _ _ (by omega) (by omega)
      · exact fin x
    · exact fin x
theorem light_ev (ms : List S43) : ∃ b, (∀ k, 124 ≤ k → haversacklaw18_light.f k ms = some b) ∧ (b = true → ms.length ≤ 60) := by
  obtain ⟨b, hb, hl⟩ := light_l ms 61 0 0 (by omega) (by omega)
  exact ⟨b, fun k hk => mono_up (fun k => haversacklaw18_light.mono ms k) hk hb, hl⟩
theorem rd33_eq (l : List S33) (i : Nat) (h : i < l.length) : rd_T33 l (i : Int) = l[i] := by
  unfold rd_T33
  simp [List.getD, List.getElem?_eq_getElem h]
theorem few_l (l : List S33) (hl : l.length ≤ 30) : ∀ (n i : Nat), i + n = l.length → ∃ b, haversacklaw18_few.l0 (n + 125) l (l.length : Int) i = some b ∧ (b = true → ∀ x ∈ l.drop i, x.f1.length ≤ 60) := by
  intro n
  induction n with
  | zero =>
    intro i h
    unfold haversacklaw18_few.l0
    rw [if_neg (by omega)]
    exact ⟨true, rfl, fun _ x hx => by rw [List.drop_eq_nil_of_le (by omega)] at hx; cases hx⟩
  | succ n ih =>
    intro i h
    unfold haversacklaw18_few.l0
    rw [if_pos (by omega), if_pos (by omega), if_pos (by omega), rd33_eq l i (by omega)]
    obtain ⟨b, hb, hbl⟩ := light_ev (l[i]'(by omega)).f1
    rw [hb _ (by omega)]
    cases b with
    | false => exact ⟨false, rfl, fun h => by cases h⟩
    | true =>
      obtain ⟨r, hr⟩ := flags_ev (l[i]'(by omega)).f3
      simp only [Option.bind_some, if_true]
      rw [hr _ (by omega)]
      simp only [Option.bind_some]
      split
      · exact ⟨false, rfl, fun h => by cases h⟩
      · rw [wrap_nat (by omega)]
        obtain ⟨b, h1, h2⟩ := ih (i + 1) (by omega)
        refine ⟨b, h1, fun e x hx => ?_⟩
        rw [List.drop_eq_getElem_cons (by omega)] at hx
        rcases List.mem_cons.1 hx with rfl | hx
        · exact hbl rfl
        · exact h2 e x hx
theorem few_ev (l : List S33) : ∃ b, (∃ k, haversacklaw18_few.f k l = some b) ∧ (b = true → l.length ≤ 30 ∧ ∀ x ∈ l, x.f1.length ≤ 60) := by
  by_cases hl : l.length ≤ 30
  · obtain ⟨b, h1, h2⟩ := few_l l hl l.length 0 (by omega)
    refine ⟨b, ⟨l.length + 125, ?_⟩, fun e => ⟨hl, h2 e⟩⟩
    unfold haversacklaw18_few.f
    rw [if_neg (by omega)]
    exact h1
  · refine ⟨false, ⟨0, ?_⟩, (fun h => by cases h)⟩
    unfold haversacklaw18_few.f
    rw [if_pos (by omega)]
theorem light_calls (ms : List S43) : ∃ b, (b = true → ms.length ≤ 60) ∧ ∀ (w : World) (v : Value), MC w v ms → Calls Tryd.prog 9 #[v] w fun e w' => e = .returned (.bool b) ∧ Below w.heap.size w w' := by
  obtain ⟨b, h1, h2⟩ := light_ev ms
  refine ⟨b, h2, ?_⟩
  rintro w _ ⟨A, c, rfl, hc, hr⟩
  exact haversacklaw18_light.calls 124 A c ms b w hr hc (h1 124 (Nat.le_refl _))
theorem few_calls (l : List S33) : ∃ b, (b = true → l.length ≤ 30 ∧ ∀ x ∈ l, x.f1.length ≤ 60) ∧ ∀ (w : World) (v : Value), AC w v l → Calls Tryd.prog 10 #[v] w fun e w' => e = .returned (.bool b) ∧ Below w.heap.size w w' := by
  obtain ⟨b, ⟨k, h1⟩, h2⟩ := few_ev l
  refine ⟨b, h2, ?_⟩
  rintro w _ ⟨A, c, rfl, hc, hr⟩
  exact haversacklaw18_few.calls k A c l b w hr hc h1
theorem MC.below {w w1 : World} {v : Value} {ms : List S43} (h : MC w v ms) (hb : Below w.heap.size w w1) : MC w1 v ms := by
  obtain ⟨A, c, e, hc, hr⟩ := h
  exact ⟨A, c, e, hc, ((Rd.of_C (T := []) k43_heap hr).below hb).now⟩
theorem AC.below {w w1 : World} {v : Value} {l : List S33} (h : AC w v l) (hb : Below w.heap.size w w1) : AC w1 v l := by
  obtain ⟨A, c, e, hc, hr⟩ := h
  exact ⟨A, c, e, hc, ((Rd.of_C (T := []) k33_heap hr).below hb).now⟩
/-- Messages that came in, as messages that are read. -/
theorem mails_of_C {w : World} {A : Option Addr} {n : Nat} {ms : List S43} (h : Kd.C k43 w A n ms) : Mails w.heap.size w A n ms := by
  obtain ⟨h1, h2, h3⟩ := h
  refine ⟨⟨h1, h2, fun hn => ?_⟩, fun hn => ?_⟩
  · obtain ⟨ad, rfl, hc⟩ := h3 hn
    refine ⟨ad, rfl, fun j p hj => ?_⟩
    obtain ⟨c, hl, hK, hcc⟩ := hc j p hj
    refine ⟨c, hl, ?_, hcc⟩
    obtain ⟨A1, c1, rfl, l1, g1⟩ := k43_open hK
    exact ⟨_, rfl, A1, c1, rfl, l1, Rd.of_C Kd.heap_string g1⟩
  · obtain ⟨ad, rfl, hc⟩ := h3 hn
    refine ⟨ad, rfl, .inl ?_⟩
    obtain ⟨c, hl, hK, hcc⟩ := hc 0 (ms[0]'(by omega)) (List.getElem?_eq_getElem (by omega))
    have h0 : c[0]? = some (c[0]'(by rw [hl]; decide)) := List.getElem?_eq_getElem _
    have := World.block_lt_of_cell? w _ (hcc 0 _ h0)
    rwa [add_block] at this
/-- A call that came in: its cells, its messages, its flags. -/
theorem act_at {w : World} {A : Option Addr} {n : Nat} {l : List S33} (h : Kd.C k33 w A n l) (k : Nat) (hk : k < n) :
    ∃ ad x A1 c1 A3 c3, A = some ad ∧ ad.block < w.heap.size ∧ l[k]? = some x ∧ (w.cell? (ad.add (k * 4)) = some (.int .i64 x.f0) ∧
      w.cell? ⟨(ad.add (k * 4)).block, (ad.add (k * 4)).off + 1, none⟩ = some (.slice A1 x.f1.length c1) ∧
      w.cell? ⟨(ad.add (k * 4)).block, (ad.add (k * 4)).off + 2, none⟩ = some (.int .i64 x.f2) ∧
      w.cell? ⟨(ad.add (k * 4)).block, (ad.add (k * 4)).off + 3, none⟩ = some (.slice A3 x.f3.length c3)) ∧
      Mails w.heap.size w A1 x.f1.length x.f1 ∧ Rd [9] w.heap.size Kd.string w A3 x.f3.length x.f3 := by
  have hn : n = l.length := h.1.symm
  obtain ⟨ad, A1, c1, A3, c3, rfl, g0, g1, g2, g3, _, gm, _, gf⟩ := at_T33 h (k : Int) (by omega) (by omega)
  have e : rd_T33 l (k : Int) = l[k]'(by omega) := rd33_eq l k (by omega)
  rw [e] at g0 g1 g2 g3 gm gf
  refine ⟨ad, l[k]'(by omega), A1, c1, A3, c3, rfl, ?_, List.getElem?_eq_getElem _, ⟨g0, g1, g2, g3⟩, mails_of_C gm, Rd.of_C Kd.heap_string gf⟩
  have := World.block_lt_of_cell? w _ g0
  rwa [add_block] at this
end Go.Proofs.YtnenlkojecicfaaDoor.V
