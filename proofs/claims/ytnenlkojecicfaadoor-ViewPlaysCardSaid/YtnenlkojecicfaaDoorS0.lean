/- (*View).Sync: what it makes, in words; the two maps in memory. -/
import Derived.Test.YtnenlkojecicfaaDoorD1
import Derived.Test.YtnenlkojecicfaaDoorE1
import Derived.Test.YtnenlkojecicfaaDoorG4
set_option linter.unusedVariables false
set_option linter.unusedSimpArgs false
namespace Go.Proofs.YtnenlkojecicfaaDoor.V
open Go.RowKit Go.Proofs.YtnenlkojecicfaaDoorW.PrintWords Go.Proofs.YtnenlkojecicfaaDoor.P

theorem metF_len (fs : List ByteArray) : (metF fs).length ≤ 20 := by
  have : ∀ (l acc : List ByteArray), acc.length ≤ 20 → (l.foldl addF acc).length ≤ 20 := by
    intro l
    induction l with
    | nil => exact fun acc h => h
    | cons a r ih =>
      intro acc h
      refine ih _ ?_
      unfold addF
      split
      · exact h
      split
      · exact h
      split
      · simp; omega
      · exact h
  exact this _ _ (by simp)
theorem flagsF_len (fs : List ByteArray) : (flagsF fs).length ≤ 20 := by
  unfold flagsF
  rw [sortF_len]
  exact metF_len fs
/-- Rising UIDs, all from 1 on. -/
def Rise (l : List S43) : Prop := l.Pairwise (fun a b => a.f0 < b.f0) ∧ ∀ m ∈ l, 1 ≤ m.f0
theorem lastUID_snoc (l : List S43) (m : S43) : lastUID (l ++ [m]) = m.f0 := by simp [lastUID]
theorem rise_last {l : List S43} (h : Rise l) : ∀ m ∈ l, m.f0 ≤ lastUID l := by
  intro m hm
  rcases List.eq_nil_or_concat l with rfl | ⟨r, x, rfl⟩
  · cases hm
  · rw [List.concat_eq_append] at *
    rw [lastUID_snoc]
    rcases List.mem_append.1 hm with hm | hm
    · exact Int.le_of_lt ((List.pairwise_append.1 h.1).2.2 m hm x (by simp))
    · rw [List.mem_singleton.1 hm]; exact Int.le_refl _
theorem rise_risingF (ms : List S43) : ∀ acc, Rise acc → Rise (risingF acc ms) := by
  induction ms with
  | nil => exact fun acc h => h
  | cons m r ih =>
    intro acc h
    unfold risingF
    refine ih _ ?_
    split
    · rename_i hlt
      refine ⟨List.pairwise_append.2 ⟨h.1, by simp, fun a ha b hb => ?_⟩, fun x hx => ?_⟩
      · rw [List.mem_singleton.1 hb]
        have := rise_last h a ha
        omega
      · rcases List.mem_append.1 hx with hx | hx
        · exact h.2 x hx
        · rw [List.mem_singleton.1 hx]
          rcases List.eq_nil_or_concat acc with rfl | ⟨q, y, rfl⟩
          · simp only [lastUID, List.getLast?_nil, Option.map_none, Option.getD_none] at hlt
            omega
          · rw [List.concat_eq_append] at *
            rw [lastUID_snoc] at hlt
            have := h.2 y (by simp)
            omega
    · exact h
theorem rise_rising (ms : List S43) : Rise (risingF [] ms) := rise_risingF ms [] ⟨List.Pairwise.nil, by simp⟩

/-- Is a message with this UID there? Its flags. -/
def thereF (l : List S43) (u : Int) : Bool := l.any (fun m => decide (m.f0 = u))
def look (l : List S43) (u : Int) : List ByteArray := match l.find? (fun m => decide (m.f0 = u)) with
  | some m => flagsF m.f1
  | none => []
theorem look_len (l : List S43) (u : Int) : (look l u).length ≤ 20 := by
  unfold look
  split
  · exact flagsF_len _
  · exact Nat.zero_le _
/-- What is told of those that are gone: the last one first. -/
def goneF (l : List S43) : Nat → List S74 → List S65
  | _, [] => []
  | o, p :: r => goneF l (o + 1) r ++ (if thereF l p.f0 = true then [] else [⟨1, (o : Int) + 1, []⟩])
def stayF (l : List S43) (S : List S74) : List S74 := S.filter (fun p => thereF l p.f0)
def flagP (l : List S43) (p : S74) : S74 := if thereF l p.f0 = true ∧ p.f1 ≠ look l p.f0 then ⟨p.f0, look l p.f0⟩ else p
def flagO (l : List S43) (i : Nat) (p : S74) : List S65 := if thereF l p.f0 = true ∧ p.f1 ≠ look l p.f0 then [⟨3, (i : Int) + 1, look l p.f0⟩] else []
def flagsO (l : List S43) : Nat → List S74 → List S65
  | _, [] => []
  | o, p :: r => flagO l o p ++ flagsO l (o + 1) r
theorem flagsO_append (l : List S43) (a b : List S74) : ∀ o, flagsO l o (a ++ b) = flagsO l o a ++ flagsO l (o + a.length) b := by
  induction a with
  | nil => intro o; simp [flagsO]
  | cons p r ih =>
    intro o
    simp only [List.cons_append, flagsO, ih, List.append_assoc, List.length_cons]
    rw [show o + 1 + r.length = o + (r.length + 1) by omega]
def syncS1 (q : Bool) (l : List S43) (S : List S74) : List S74 := if q then S else stayF l S
def syncO1 (q : Bool) (l : List S43) (S : List S74) : List S65 := if q then [] else goneF l 0 S
def syncG (q : Bool) (S : List S74) (top : Int) (l : List S43) : List S74 × Int := growF (syncS1 q l S) top l
def syncO2 (q : Bool) (S : List S74) (top : Int) (l : List S43) : List S65 := if (syncS1 q l S).length < (syncG q S top l).1.length then [⟨2, ((syncG q S top l).1.length : Int), []⟩] else []
def syncS (q : Bool) (S : List S74) (top : Int) (l : List S43) : List S74 := (syncG q S top l).1.map (flagP l)
def syncO (q : Bool) (S : List S74) (top : Int) (l : List S43) : List S65 := syncO1 q l S ++ syncO2 q S top l ++ flagsO l 0 (syncG q S top l).1

theorem flagsO_len (l : List S43) : ∀ (S : List S74) (o : Nat), (flagsO l o S).length ≤ S.length := by
  intro S
  induction S with
  | nil => intro o; simp [flagsO]
  | cons p r ih =>
    intro o
    have h1 := ih (o + 1)
    have h2 : (flagO l o p).length ≤ 1 := by unfold flagO; split <;> simp
    simp only [flagsO, List.length_append, List.length_cons]
    omega
theorem goneF_len (l : List S43) : ∀ (S : List S74) (o : Nat), (goneF l o S).length ≤ S.length := by
  intro S
  induction S with
  | nil => intro o; simp [goneF]
  | cons p r ih =>
    intro o
    have h1 := ih (o + 1)
    simp only [goneF, List.length_append, List.length_cons]
    split <;> simp <;> omega
theorem growF_len (S : List S74) (top : Int) (l : List S43) : (growF S top l).1.length ≤ S.length + l.length := by
  have := growTo_len S top l l.length
  unfold growTo at this
  rw [List.take_length] at this
  exact this
theorem stayF_len (l : List S43) (S : List S74) : (stayF l S).length ≤ S.length := List.length_filter_le _ _

/-- The maps of flags, and of what is there. -/
def FMap (B : Nat) (w : World) (b : Nat) (l : List S43) : Prop := ∃ kvs : List (Int × Value), MapAt w b kvs ∧ kvs.length = l.length ∧ ∀ (j : Nat) (m : S43), l[j]? = some m → ∃ v, kvs[j]? = some (m.f0, v) ∧ Fl B w v (flagsF m.f1)
def TMap (w : World) (b : Nat) (l : List S43) : Prop := MapAt w b (l.map (fun m => (m.f0, Value.bool true)))
section
variable {B b : Nat} {w w1 : World} {l : List S43} {X : Nat → Prop}
theorem FMap.step (h : FMap B w b l) (ht : Tr X w w1) (hX : ¬ X b) (hs : SK [9] B w w1) : FMap B w1 b l := by
  obtain ⟨kvs, hm, hl, hk⟩ := h
  exact ⟨kvs, hm.step ht hX, hl, fun j m hj => by
    obtain ⟨v, h1, h2⟩ := hk j m hj
    exact ⟨v, h1, h2.step hs⟩⟩
theorem FMap.below (h : FMap B w b l) (hb : Below w.heap.size w w1) : FMap B w1 b l := h.step (Tr.of_below hb (fun _ => False)) (fun hf => hf) (SK.of_below hb)
theorem FMap.lt (h : FMap B w b l) : b < w.heap.size := by
  obtain ⟨kvs, hm, _⟩ := h
  exact hm.lt
theorem FMap.keys (h : FMap B w b l) {n : Int} (hn : ∀ m ∈ l, m.f0 ≠ n) {kvs : List (Int × Value)} (hl : kvs.length = l.length) (hk : ∀ (j : Nat) (m : S43), l[j]? = some m → ∃ v, kvs[j]? = some (m.f0, v) ∧ Fl B w v (flagsF m.f1)) : ∀ p ∈ kvs, p.1 ≠ n := by
  intro p hp
  obtain ⟨j, hj⟩ := List.getElem?_of_mem hp
  have hjl : j < l.length := by rw [← hl]; exact (List.getElem?_eq_some_iff.1 hj).1
  obtain ⟨v, h1, _⟩ := hk j l[j] (List.getElem?_eq_getElem hjl)
  rw [hj] at h1
  injection h1 with h1
  rw [h1]
  exact hn _ (List.getElem_mem hjl)
theorem FMap.lookup (h : FMap B w b l) {u : Int} (hu : (Lit.int .i64 u).wf = true) (ht : thereF l u = true) :
    ∃ A c, (Instr.lookup 71 (.map (some b)) (.int .i64 u) false).run Tryd.prog w = .ok (.slice A (look l u).length c) w ∧ Fl B w (.slice A (look l u).length c) (look l u) := by
  obtain ⟨kvs, hm, hl, hk⟩ := h
  unfold thereF at ht
  obtain ⟨m0, hm0, hu0⟩ := List.any_eq_true.1 ht
  cases hf : l.find? (fun m => decide (m.f0 = u)) with
  | none => exact absurd hu0 (by have := List.find?_eq_none.1 hf m0 hm0; simpa using this)
  | some m =>
    have hmu : m.f0 = u := by simpa using List.find?_some hf
    obtain ⟨j, hj⟩ := List.getElem?_of_mem (List.mem_of_find?_eq_some hf)
    obtain ⟨v, h1, h2⟩ := hk j m hj
    have hlk : look l u = flagsF m.f1 := by unfold look; rw [hf]
    rw [hlk]
    obtain ⟨A, c, rfl, h3, h4⟩ := h2
    refine ⟨A, c, ?_, A, c, rfl, h3, h4⟩
    refine hm.lookup Tryd.underlying71 hu (List.mem_of_getElem? (i := j) ?_)
    rw [h1, hmu]
theorem TMap.lookup (h : TMap w b l) {u : Int} (hu : (Lit.int .i64 u).wf = true) : (Instr.lookup 29 (.map (some b)) (.int .i64 u) false).run Tryd.prog w = .ok (.bool (thereF l u)) w := by
  cases ht : thereF l u with
  | true =>
    unfold thereF at ht
    obtain ⟨m0, hm0, hu0⟩ := List.any_eq_true.1 ht
    have hmu : m0.f0 = u := by simpa using hu0
    exact MapAt.lookup h Tryd.underlying29 hu (List.mem_map.2 ⟨m0, hm0, by rw [hmu]⟩)
  | false =>
    refine MapAt.lookup_none h Tryd.underlying29 (zero4 w) hu (fun p hp e => ?_)
    obtain ⟨m, hm, rfl⟩ := List.mem_map.1 hp
    have := List.any_eq_false.1 ht m hm
    simp at this
    exact this e
end
/-- What is told, in memory. -/
def ToldAt (B : Nat) (w : World) (t : S65) (cs : List Value) : Prop := ∃ v, cs = [.int .i64 t.f0, .int .i64 t.f1, v] ∧ Fl B w v t.f2
theorem ToldAt.step {B : Nat} {w w1 : World} {t : S65} {cs : List Value} (h : ToldAt B w t cs) (hk : SK [9] B w w1) : ToldAt B w1 t cs := by
  obtain ⟨v, e, hf⟩ := h
  exact ⟨v, e, hf.step hk⟩
def TRow (B : Nat) (w : World) (base : Nat) (v : Value) (ts : List S65) : Prop := OwnRow (ToldAt B w) 65 3 w base v ts
theorem info65 : (Tryd.prog.info? 65).map (fun i => (i.zero, i.size, i.bytes)) = some (some (.agg #[.int .i64 0, .int .i64 0, .slice none 0 0]), 3, 40) := by kernel_rfl
end Go.Proofs.YtnenlkojecicfaaDoor.V
