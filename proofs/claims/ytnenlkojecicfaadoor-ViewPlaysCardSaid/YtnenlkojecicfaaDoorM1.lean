/- A map in memory whose keys are ints: its entries in their order; what reads and writes it. -/
import Derived.Test.YtnenlkojecicfaaDoorB
import Derived.WideKeyEntry
import Derived.Maps.OwnOps
set_option linter.unusedVariables false
set_option linter.unusedSimpArgs false
namespace Go.Proofs.YtnenlkojecicfaaDoor.V
open Go.RowKit Go.Proofs.YtnenlkojecicfaaDoorW.PrintWords Go.Proofs.YtnenlkojecicfaaDoor.P
open Go.ChangeMaps Go.MapKept

theorem law3 : Maps.Keyed Tryd.prog 3 := Maps.int_keyed Tryd.underlying3
theorem key3 {n : Int} (h : (Lit.int .i64 n).wf = true) : keyOf Tryd.prog 3 (.int .i64 n) = some (.int .i64 n) := Maps.keyOf_int_mk Tryd.underlying3 h

/-- Block b is a map of these entries. -/
def MapAt (w : World) (b : Nat) (kvs : List (Int × Value)) : Prop :=
  ∃ es clock, w.heap[b]? = some (.map es clock) ∧ Stamped es clock ∧ es.toList.map (fun e => (e.key, e.val)) = kvs.map (fun p => (Value.int .i64 p.1, p.2)) ∧ ∀ p ∈ kvs, (Lit.int .i64 p.1).wf = true
section
variable {w w1 : World} {b : Nat} {kvs : List (Int × Value)}
theorem MapAt.lt (h : MapAt w b kvs) : b < w.heap.size := by
  obtain ⟨es, clock, hb, _⟩ := h
  exact lt_of_block hb
theorem MapAt.keep (h : MapAt w b kvs) (hb : w1.heap[b]? = w.heap[b]?) : MapAt w1 b kvs := by
  obtain ⟨es, clock, h1, h2⟩ := h
  exact ⟨es, clock, hb.trans h1, h2⟩
theorem MapAt.step {X : Nat → Prop} (h : MapAt w b kvs) (ht : Tr X w w1) (hX : ¬ X b) : MapAt w1 b kvs := h.keep (ht.keep b h.lt hX)
theorem MapAt.below (h : MapAt w b kvs) (hb : Below w.heap.size w w1) : MapAt w1 b kvs := h.keep (hb.block b h.lt)
theorem MapAt.made (w : World) : MapAt (w.alloc (.map #[] 0)) w.heap.size [] := ⟨#[], 0, (MapKept.heap_alloc w _).1, stamped_empty 0, rfl, by simp⟩
/-- A map is no row of cells. -/
theorem MapAt.ne_cells (h : MapAt w b kvs) {k t : Nat} {c : Array Value} {f : Nat × Nat} (hk : w.heap[k]? = some (.cells c t f)) : b ≠ k := fun e => by
  obtain ⟨es, clock, hb, _⟩ := h
  rw [e, hk] at hb
  cases hb
theorem MapAt.not_sol (h : MapAt w b kvs) {T : List Nat} {B : Nat} (hB : B ≤ b) : ¬ Sol T B w b := by
  rintro (hs | ⟨t, c, f, _, hc⟩)
  · omega
  · exact h.ne_cells hc rfl
theorem mem_entry {es : Array MapEntry} (hm : es.toList.map (fun e => (e.key, e.val)) = kvs.map (fun p => (Value.int .i64 p.1, p.2))) {e : MapEntry} (he : e ∈ es.toList) :
    ∃ p ∈ kvs, e.key = .int .i64 p.1 ∧ e.val = p.2 := by
  have : (e.key, e.val) ∈ es.toList.map (fun e => (e.key, e.val)) := List.mem_map.2 ⟨e, he, rfl⟩
  rw [hm] at this
  obtain ⟨p, hp, e1⟩ := List.mem_map.1 this
  injection e1 with e1 e2
  exact ⟨p, hp, e1.symm, e2.symm⟩
theorem entry_of {es : Array MapEntry} (hm : es.toList.map (fun e => (e.key, e.val)) = kvs.map (fun p => (Value.int .i64 p.1, p.2))) {p : Int × Value} (hp : p ∈ kvs) : ∃ e ∈ es.toList, e.key = .int .i64 p.1 ∧ e.val = p.2 := by
  have : ((Value.int .i64 p.1, p.2) : Value × Value) ∈ kvs.map (fun p => (Value.int .i64 p.1, p.2)) := List.mem_map.2 ⟨p, hp, rfl⟩
  rw [← hm] at this
  obtain ⟨e, he, e1⟩ := List.mem_map.1 this
  injection e1 with e1 e2
  exact ⟨e, he, e1, e2⟩
theorem key_inj {es : Array MapEntry} {clock : Nat} (hs : Stamped es clock) {a c : MapEntry} (ha : a ∈ es.toList) (hc : c ∈ es.toList) (h : a.key = c.key) : a = c := by
  have hn := ((stamped_iff es clock).1 hs).2.2
  obtain ⟨i, hi⟩ := List.getElem?_of_mem ha
  obtain ⟨j, hj⟩ := List.getElem?_of_mem hc
  obtain ⟨hi1, hi2⟩ := List.getElem?_eq_some_iff.1 hi
  obtain ⟨hj1, hj2⟩ := List.getElem?_eq_some_iff.1 hj
  rcases Nat.lt_trichotomy i j with hlt | rfl | hlt
  · exact absurd (by rw [hi2, hj2]; exact h) (List.pairwise_iff_getElem.1 hn i j hi1 hj1 hlt)
  · exact hi2.symm.trans hj2
  · exact absurd (by rw [hi2, hj2]; exact h.symm) (List.pairwise_iff_getElem.1 hn j i hj1 hi1 hlt)
set_option maxRecDepth 100000
/-- Is it there? -/
theorem MapAt.lookup {t e : TypeId} (h : MapAt w b kvs) (ht : Tryd.prog.underlying t = some (.map 3 e)) {n : Int} (hn : (Lit.int .i64 n).wf = true) {v : Value} (hv : (n, v) ∈ kvs) :
    (Instr.lookup t (.map (some b)) (.int .i64 n) false).run Tryd.prog w = .ok v w := by
  have hh := h
  obtain ⟨es, clock, hb, hs, hm, hw⟩ := h
  obtain ⟨e1, he1, hk1, hv1⟩ := entry_of hm hv
  rcases law3.find w (key3 hn) es.toList (fun x hx => by
    obtain ⟨p, hp, hk, _⟩ := mem_entry hm hx
    exact ⟨_, hk ▸ key3 (hw p hp)⟩) with ⟨h1, h2⟩ | ⟨j, e0, h1, h2, h3⟩
  · exact absurd hk1 (h2 e1 he1)
  · have : e0 = e1 := key_inj hs (List.mem_of_getElem? h2) he1 (h3.trans hk1.symm)
    subst this
    simp [Instr.lookup, run_underlying ht, MapKept.run_getObj_map hb, law3.check w _ (key3 hn), h1, hv1, Result.andThen]
theorem MapAt.lookup_none {t e : TypeId} (h : MapAt w b kvs) (ht : Tryd.prog.underlying t = some (.map 3 e)) {z : Value} (hz : (zeroValue e).run Tryd.prog w = .ok z w) {n : Int} (hn : (Lit.int .i64 n).wf = true) (hv : ∀ p ∈ kvs, p.1 ≠ n) :
    (Instr.lookup t (.map (some b)) (.int .i64 n) false).run Tryd.prog w = .ok z w := by
  have hh := h
  obtain ⟨es, clock, hb, hs, hm, hw⟩ := h
  rcases law3.find w (key3 hn) es.toList (fun x hx => by
    obtain ⟨p, hp, hk, _⟩ := mem_entry hm hx
    exact ⟨_, hk ▸ key3 (hw p hp)⟩) with ⟨h1, h2⟩ | ⟨j, e0, h1, h2, h3⟩
  · simp [Instr.lookup, run_underlying ht, MapKept.run_getObj_map hb, law3.check w _ (key3 hn), h1, hz, Result.andThen]
  · obtain ⟨p, hp, hk, _⟩ := mem_entry hm (List.mem_of_getElem? h2)
    rw [h3] at hk
    injection hk with _ hk
    exact absurd hk.symm (hv p hp)
theorem tr_setBlock {es : Array MapEntry} {clock : Nat} (hb : w.heap[b]? = some (.map es clock)) (o : Obj) : Tr (fun k => k = b) w (setBlock w b o) :=
  ⟨rfl, rfl, rfl, by simp [setBlock], fun i _ hi => heap_setBlock_other hb _ hi⟩
theorem stamped_push {es : Array MapEntry} {clock : Nat} (hs : Stamped es clock) {key val : Value} (hk : ∀ x ∈ es.toList, x.key ≠ key) : Stamped (es.push ⟨key, val, clock⟩) (clock + 1) := by
  obtain ⟨h1, h2, h3⟩ := hs
  refine ⟨fun x hx => ?_, ?_, ?_⟩
  · rw [Array.toList_push] at hx
    rcases List.mem_append.1 hx with hx | hx
    · exact Nat.lt_succ_of_lt (h1 x hx)
    · rw [List.mem_singleton.1 hx]; exact Nat.lt_succ_self _
  · rw [Array.toList_push, List.map_append]
    refine List.nodup_append.2 ⟨h2, by simp, fun a ha c hc e1 => ?_⟩
    obtain ⟨x, hx, rfl⟩ := List.mem_map.1 ha
    simp only [List.map_cons, List.map_nil, List.mem_singleton] at hc
    have := h1 x hx
    omega
  · rw [Array.toList_push, List.map_append]
    refine List.nodup_append.2 ⟨h3, by simp, fun a ha c hc e1 => ?_⟩
    obtain ⟨x, hx, rfl⟩ := List.mem_map.1 ha
    simp only [List.map_cons, List.map_nil, List.mem_singleton] at hc
    exact hk x hx (e1.trans hc)
/-- A new key is stored. -/
theorem MapAt.update {t e : TypeId} (h : MapAt w b kvs) (ht : Tryd.prog.underlying t = some (.map 3 e)) {n : Int} (hn : (Lit.int .i64 n).wf = true) (hv : ∀ p ∈ kvs, p.1 ≠ n) (v : Value) :
    ∃ w1, (Instr.mapUpdate t (.map (some b)) (.int .i64 n) v).run Tryd.prog w = .ok () w1 ∧ MapAt w1 b (kvs ++ [(n, v)]) ∧ Tr (fun k => k = b) w w1 := by
  have hh := h
  obtain ⟨es, clock, hb, hs, hm, hw⟩ := h
  rcases law3.find w (key3 hn) es.toList (fun x hx => by
    obtain ⟨p, hp, hk, _⟩ := mem_entry hm hx
    exact ⟨_, hk ▸ key3 (hw p hp)⟩) with ⟨h1, h2⟩ | ⟨j, e0, h1, h2, h3⟩
  · refine ⟨setBlock w b (.map (es.push ⟨.int .i64 n, v, clock⟩) (clock + 1)), ?_, ⟨_, _, heap_setBlock_same hb _, stamped_push hs h2, ?_, ?_⟩, tr_setBlock hb _⟩
    · simp [Instr.mapUpdate, run_underlying ht, MapKept.run_getObj_map hb, law3.check w false (key3 hn), h1, MapKept.run_setObj_map _ hb, Result.andThen, setBlock]
    · rw [Array.toList_push, List.map_append, List.map_append, hm]; rfl
    · intro p hp
      rcases List.mem_append.1 hp with hp | hp
      · exact hw p hp
      · rw [List.mem_singleton.1 hp]; exact hn
  · obtain ⟨p, hp, hk, _⟩ := mem_entry hm (List.mem_of_getElem? h2)
    rw [h3] at hk
    injection hk with _ hk
    exact absurd hk.symm (hv p hp)
/-- A new key's place is made; later something is stored there. -/
theorem MapAt.entry {t e : TypeId} (h : MapAt w b kvs) (ht : Tryd.prog.underlying t = some (.map 3 e)) {z : Value} (hz : ∀ w, (zeroValue e).run Tryd.prog w = .ok z w) {n : Int} (hn : (Lit.int .i64 n).wf = true) (hv : ∀ p ∈ kvs, p.1 ≠ n) :
    ∃ (st : Value) (w1 : World), (Instr.mapEntry t (.map (some b)) (.int .i64 n)).run Tryd.prog w = .ok (.tuple #[z, st]) w1 ∧ MapAt w1 b (kvs ++ [(n, z)]) ∧ Tr (fun k => k = b) w w1 ∧
      ∀ (w2 : World) (v : Value), w2.heap[b]? = w1.heap[b]? → ∃ w3, (Instr.entryStore t (.map (some b)) st v).run Tryd.prog w2 = .ok () w3 ∧ MapAt w3 b (kvs ++ [(n, v)]) ∧ Tr (fun k => k = b) w2 w3 := by
  have hh := h
  obtain ⟨es, clock, hb, hs, hm, hw⟩ := h
  rcases law3.find w (key3 hn) es.toList (fun x hx => by
    obtain ⟨p, hp, hk, _⟩ := mem_entry hm hx
    exact ⟨_, hk ▸ key3 (hw p hp)⟩) with ⟨h1, h2⟩ | ⟨j, e0, h1, h2, h3⟩
  · have hwf : ∀ v : Value, ∀ p ∈ kvs ++ [(n, v)], (Lit.int .i64 p.1).wf = true := by
      intro v p hp
      rcases List.mem_append.1 hp with hp | hp
      · exact hw p hp
      · rw [List.mem_singleton.1 hp]; exact hn
    have hb1 := heap_setBlock_same hb (.map (es.push ⟨.int .i64 n, z, clock⟩) (clock + 1))
    refine ⟨goInt clock, setBlock w b (.map (es.push ⟨.int .i64 n, z, clock⟩) (clock + 1)), ?_, ⟨_, _, hb1, stamped_push hs h2, ?_, hwf z⟩, tr_setBlock hb _, fun w2 v hw2 => ?_⟩
    · simp [Instr.mapEntry, run_underlying ht, MapKept.run_getObj_map hb, law3.check w false (key3 hn), h1, hz, MapKept.run_setObj_map _ hb, Result.andThen, setBlock]
    · rw [Array.toList_push, List.map_append, List.map_append, hm]; rfl
    · rw [hb1] at hw2
      have s1 := hs.1
      have s2 := hs.2.1
      have hidx : (es.push ⟨.int .i64 n, z, clock⟩).findIdx? (fun e => ((e.born : Nat) : Int) == ((clock : Nat) : Int)) = some es.size := by
        rw [WideElems.findIdx_arr]
        exact WideElems.findIdx_born (l := (es.push ⟨.int .i64 n, z, clock⟩).toList) (j := es.size) (e0 := ⟨.int .i64 n, z, clock⟩) (stamped_push hs h2).2.1 (by simp)
      have hmod : (es.push ⟨.int .i64 n, z, clock⟩).modify es.size (fun e => { e with val := v }) = es.push ⟨.int .i64 n, v, clock⟩ := by
        apply Array.ext'
        rw [Array.toList_modify, Array.toList_push, Array.toList_push, ← Array.length_toList, WideElems.modify_last]
      refine ⟨setBlock w2 b (.map (es.push ⟨.int .i64 n, v, clock⟩) (clock + 1)), ?_, ⟨_, _, heap_setBlock_same hw2 _, stamped_push hs h2, ?_, hwf v⟩, tr_setBlock hw2 _⟩
      · simp [Instr.entryStore, MapKept.run_getObj_map hw2, asInt, asIntOf, goInt, hidx, hmod, MapKept.run_setObj_map _ hw2, Result.andThen, setBlock]
      · rw [Array.toList_push, List.map_append, List.map_append, hm]; rfl
  · obtain ⟨p, hp, hk, _⟩ := mem_entry hm (List.mem_of_getElem? h2)
    rw [h3] at hk
    injection hk with _ hk
    exact absurd hk.symm (hv p hp)
end
theorem zero31 (w : World) : (zeroValue 31).run Tryd.prog w = .ok (.slice none 0 0) w := by kernel_rfl
theorem zero4 (w : World) : (zeroValue 4).run Tryd.prog w = .ok (.bool false) w := by kernel_rfl
end Go.Proofs.YtnenlkojecicfaaDoor.V
