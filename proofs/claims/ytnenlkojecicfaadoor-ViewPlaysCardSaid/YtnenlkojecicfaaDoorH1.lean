/- Words.Lower and the reference's Lower: what each returns. -/
import Derived.Test.YtnenlkojecicfaaDoorProg
import Derived.WalkKit
import Derived.Lib.ConvBytes
import Derived.Laws.BytesArg
import Derived.Deep.Draws
import Derived.BigQuiet
import Derived.Deep.QuietTactic
import Derived.LoopTactic
import Derived.Lib.Hide
import Derived.IntWalk
import Derived.Outline
namespace Go.Proofs.YtnenlkojecicfaaDoor
open Go.RowKit

/-- A row of bytes that a conversion made: block b holds the bytes L ahead. -/
def ByteRow (w : World) (b : Nat) (L : List UInt8) : Prop :=
  ∃ C m, w.heap[b]? = some (.cells C 5 (m, m + 1)) ∧ L.length ≤ m ∧ ∀ j, j < L.length → C[j]? = some (.int .u8 (L.getD j 0).toNat)

theorem ByteRow.cell {w : World} {b : Nat} {L : List UInt8} (h : ByteRow w b L) (j : Nat) (hj : j < L.length) : w.cell? ⟨b, j, none⟩ = some (.int .u8 (L.getD j 0).toNat) := by
  obtain ⟨C, m, hb, hm, hc⟩ := h
  simp [World.cell?, hb, hc j hj]
theorem ByteRow.frozen {w : World} {b : Nat} {L : List UInt8} (h : ByteRow w b L) (j : Nat) (hj : j < L.length) : w.frozen? ⟨b, j, none⟩ = false := by
  obtain ⟨C, m, hb, hm, hc⟩ := h
  simp [World.frozen?, hb]
  omega
theorem ByteRow.set {w : World} {b : Nat} {L : List UInt8} (h : ByteRow w b L) (j : Nat) (hj : j < L.length) (u : UInt8) : ByteRow (w.setCell ⟨b, j, none⟩ (.int .u8 u.toNat)) b (L.set j u) := by
  obtain ⟨C, m, hb, hm, hc⟩ := h
  refine ⟨C.setIfInBounds j (.int .u8 u.toNat), m, ?_, by simpa using hm, fun i hi => ?_⟩
  · simp [World.setCell, Array.getElem?_modify, hb]
  · have hi' : i < L.length := by simpa using hi
    by_cases e : i = j
    · subst e
      have := hc i hi'
      rw [Array.getElem?_setIfInBounds]
      have hlt : i < C.size := by
        rcases Nat.lt_or_ge i C.size with h | h
        · exact h
        · rw [Array.getElem?_eq_none h] at this; cases this
      simp [hlt, List.getD, hi']
    · rw [Array.getElem?_setIfInBounds]
      simp [Ne.symm e, hc i hi', List.getD]
theorem ByteRow.drew {w : World} {b : Nat} {L : List UInt8} (h : ByteRow w b L) : ByteRow w.drew b L := h
theorem ByteRow.made (w : World) (s : ByteArray) : ByteRow (Lib.bytesWorld w 5 s) w.heap.size s.data.toList := by
  refine ⟨_, _, Lib.bytesWorld_at_new w 5 s, ?_, fun j hj => ?_⟩
  · simp [Lib.bytesCells]
  · have hj' : j < s.data.size := by simpa using hj
    have hj2 : j < s.size := hj'
    simp [Lib.bytesCells, Array.getElem?_append, hj2, List.getD]
theorem bytesWorld_below (w : World) (s : ByteArray) : Below w.heap.size w (Lib.bytesWorld w 5 s) := by
  refine ⟨?_, ?_, ?_, by rw [Lib.bytesWorld_size]; omega, fun k hk => Lib.bytesWorld_at_old w 5 s k hk⟩ <;> simp [Lib.bytesWorld, World.freeze, World.alloc, World.drew, -World.alloc_eq, -World.drew_eq]

/-- A byte as a small letter. -/
def lowb (c : UInt8) : UInt8 := if 65 ≤ c.toNat ∧ c.toNat ≤ 90 then c + 32 else c
def lowl (l : List UInt8) : List UInt8 := l.map lowb
def lower (s : ByteArray) : ByteArray := ⟨(lowl s.data.toList).toArray⟩
def lowTo (l : List UInt8) (k : Nat) : List UInt8 := lowl (l.take k) ++ l.drop k


theorem conv_in (w : World) (s : ByteArray) : ∃ cap W1, (convert 9 102 (.string s)).run Tryd.prog w = .ok (.slice (some ⟨w.heap.size, 0, none⟩) s.size cap) W1 ∧ ByteRow W1 w.heap.size s.data.toList ∧ Below w.heap.size w W1 ∧ W1.heap.size = w.heap.size + 1 :=
  ⟨_, _, Lib.run_convert_string_bytes w 9 102 5 s Tryd.underlying9 Tryd.underlying102 Tryd.underlying5, ByteRow.made w s, bytesWorld_below w s, Lib.bytesWorld_size w 5 s⟩
theorem conv_out {w : World} {b : Nat} {L : List UInt8} (h : ByteRow w b L) (cap : Nat) :
    (convert 102 9 (.slice (some ⟨b, 0, none⟩) L.length cap)).run Tryd.prog w = .ok (.string ⟨L.toArray⟩) w := by
  have := run_convert_bytes_arg (P := Tryd.prog) w 102 5 Tryd.underlying102 Tryd.underlying5 b 0 L.length cap (L.map fun c => (c.toNat : Int)) (by simp) (fun i hi => by rw [Nat.zero_add, h.cell i hi]; simp [List.getD, hi]) 9 Tryd.underlying9
  rw [this]
  have e : strOfNums (L.map fun c => (c.toNat : Int)) = ⟨L.toArray⟩ := by simp [strOfNums, List.map_map, Function.comp_def]
  rw [e]

theorem lowTo_len (l : List UInt8) (k : Nat) (hk : k ≤ l.length) : (lowTo l k).length = l.length := by simp [lowTo, lowl]; omega
theorem lowTo_zero (l : List UInt8) : lowTo l 0 = l := by simp [lowTo, lowl]
theorem lowTo_all (l : List UInt8) : lowTo l l.length = lowl l := by simp [lowTo]
theorem lowTo_at (l : List UInt8) (k : Nat) (hk : k < l.length) : (lowTo l k).getD k 0 = l.getD k 0 := by
  have h2 : min k l.length = k := by omega
  simp [lowTo, lowl, List.getD, List.getElem?_append, h2]
theorem lowTo_succ (l : List UInt8) (k : Nat) (hk : k < l.length) : lowTo l (k + 1) = (lowTo l k).set k (lowb (l.getD k 0)) := by
  have h1 : (lowl (l.take k)).length = k := by simp [lowl]; omega
  have h2 : l.drop k = l.getD k 0 :: l.drop (k + 1) := by
    rw [List.drop_eq_getElem_cons hk]; simp [List.getD, hk]
  have h3 : l.take (k + 1) = l.take k ++ [l.getD k 0] := by
    rw [List.take_succ_eq_append_getElem hk]; simp [List.getD, hk]
  unfold lowTo
  rw [h2, List.set_append, h1, if_neg (by omega), h3]
  simp [lowl]

theorem byte_range (L : List UInt8) (k : Nat) : 0 ≤ ((L.getD k 0).toNat : Int) ∧ ((L.getD k 0).toNat : Int) ≤ 255 := by
  have := (L.getD k 0).toNat_lt
  omega
theorem lowb_yes {c : UInt8} (h1 : 65 ≤ (c.toNat : Int)) (h2 : (c.toNat : Int) ≤ 90) : ((lowb c).toNat : Int) = c.toNat + 32 := by
  unfold lowb
  rw [if_pos (by omega), UInt8.toNat_add]
  have : (32 : UInt8).toNat = 32 := rfl
  omega
theorem lowb_no {c : UInt8} (h : ¬ (65 ≤ (c.toNat : Int) ∧ (c.toNat : Int) ≤ 90)) : lowb c = c := by
  unfold lowb
  rw [if_neg (by omega)]
theorem set_same (l : List UInt8) (k : Nat) (hk : k < l.length) : l.set k (l.getD k 0) = l := by
  simp [List.getD, hk]
theorem lower_calls (s : ByteArray) (w : World) (hs : s.size ≤ 140737488351232) :
    Calls Tryd.prog 61 #[.string s] w fun e w' => e = .returned (.string (lower s)) ∧ Below w.heap.size w w' := by
  obtain ⟨cap, W1, hconv, hrow, hbel, hsz⟩ := conv_in w s
  obtain ⟨l, hl⟩ : ∃ l, l = s.data.toList := ⟨_, rfl⟩
  have hll : l.length = s.size := by rw [hl]; simp
  rw [← hl] at hrow
  have Hl := Lib.hid hl
  clear hl
  go_enter Tryd.func61, Tryd.ntmps61
  go_wp2
  clear hconv
  have Hll := Lib.hid hll
  clear hll
  go_loopw [10] (fun i wr => ∃ k : Nat, k ≤ s.size ∧ i = .int .i64 k ∧ ByteRow wr w.heap.size (lowTo l k) ∧ Below w.heap.size w wr) (fun i _ => s.size - (intOf i).toNat)
  case atStart => exact ⟨0, Nat.zero_le _, rfl, by rw [lowTo_zero]; exact hrow, hbel⟩
  case round =>
    clear hrow hbel
    obtain ⟨k, hk, rfl, hr, hb⟩ := hrel
    by_cases hlt : k < s.size
    · have hkl : k < l.length := by rw [Hll.out]; exact hlt
      have hkl2 : k < (lowTo l k).length := by rw [lowTo_len l k (by omega)]; exact hkl
      have hc := hr.cell k hkl2
      have hf := hr.frozen k hkl2
      rw [lowTo_at l k hkl] at hc
      obtain ⟨hb0, hb1⟩ := byte_range l k
      obtain ⟨c, hcc⟩ : ∃ c, c = l.getD k 0 := ⟨_, rfl⟩
      rw [← hcc] at hc hb0 hb1
      have hsetb := hr.set k hkl2 (lowb c)
      have HS : Hid (lowTo l (k + 1) = (lowTo l k).set k (lowb c)) := by rw [hcc]; exact lowTo_succ l k hkl
      have HE : Hid ((lowTo l k).set k c = lowTo l k) := by rw [hcc, ← lowTo_at l k hkl]; exact set_same _ _ hkl2
      clear hkl hkl2 hcc
      go_wp2
      · have h1 : 65 ≤ (c.toNat : Int) := by assumption
        have h2 : (c.toNat : Int) ≤ 90 := by assumption
        rw [lowb_yes h1 h2] at hsetb
        go_roundw
        case rel => exact ⟨k + 1, by omega, by go_num, by rw [HS.out]; exact hsetb, hb.setCell (Nat.le_refl _) _⟩
        case measure => simp [intOf]; omega
      all_goals
        have hno : lowb c = c := lowb_no (by omega)
        go_roundw
        case rel => exact ⟨k + 1, by omega, by go_num, by rw [HS.out, hno, HE.out]; exact hr, hb⟩
        case measure => simp [intOf]; omega
    · have hks : k = s.size := by omega
      subst hks
      have hco := conv_out hr cap
      have HL : (lowTo l s.size).length = s.size := by rw [lowTo_len _ _ (by rw [Hll.out]; omega), Hll.out]
      rw [HL] at hco
      clear HL
      go_wp2
      go_ret
      refine ⟨?_, hb⟩
      have e : lowTo l s.size = lowl l := by rw [← Hll.out]; exact lowTo_all l
      rw [e, Hl.out]
      rfl

theorem rlower_calls (s : ByteArray) (w : World) (hs : s.size ≤ 140737488351232) :
    Calls Tryd.prog 67 #[.string s] w fun e w' => e = .returned (.string (lower s)) ∧ Below w.heap.size w w' := by
  obtain ⟨cap, W1, hconv, hrow, hbel, hsz⟩ := conv_in w s
  obtain ⟨l, hl⟩ : ∃ l, l = s.data.toList := ⟨_, rfl⟩
  have hll : l.length = s.size := by rw [hl]; simp
  rw [← hl] at hrow
  have Hl := Lib.hid hl
  clear hl
  go_enter Tryd.func67, Tryd.ntmps67
  go_wp2
  clear hconv
  have Hll := Lib.hid hll
  clear hll
  go_loopw [4] (fun i wr => ∃ k : Nat, k ≤ s.size ∧ i = .int .i64 k ∧ ByteRow wr w.heap.size (lowTo l k) ∧ Below w.heap.size w wr) (fun i _ => s.size - (intOf i).toNat)
  case atStart => exact ⟨0, Nat.zero_le _, rfl, by rw [lowTo_zero]; exact hrow, hbel⟩
  case round =>
    clear hrow hbel
    obtain ⟨k, hk, rfl, hr, hb⟩ := hrel
    by_cases hlt : k < s.size
    · have hkl : k < l.length := by rw [Hll.out]; exact hlt
      have hkl2 : k < (lowTo l k).length := by rw [lowTo_len l k (by omega)]; exact hkl
      have hc := hr.cell k hkl2
      have hf := hr.frozen k hkl2
      rw [lowTo_at l k hkl] at hc
      obtain ⟨hb0, hb1⟩ := byte_range l k
      obtain ⟨c, hcc⟩ : ∃ c, c = l.getD k 0 := ⟨_, rfl⟩
      rw [← hcc] at hc hb0 hb1
      have hsetb := hr.set k hkl2 (lowb c)
      have HS : Hid (lowTo l (k + 1) = (lowTo l k).set k (lowb c)) := by rw [hcc]; exact lowTo_succ l k hkl
      have HE : Hid ((lowTo l k).set k c = lowTo l k) := by rw [hcc, ← lowTo_at l k hkl]; exact set_same _ _ hkl2
      clear hkl hkl2 hcc
      go_wp2
      · have h1 : 65 ≤ (c.toNat : Int) := by assumption
        have h2 : (c.toNat : Int) ≤ 90 := by assumption
        rw [lowb_yes h1 h2] at hsetb
        go_roundw
        case rel => exact ⟨k + 1, by omega, by go_num, by rw [HS.out]; exact hsetb, hb.setCell (Nat.le_refl _) _⟩
        case measure => simp [intOf]; omega
      all_goals
        have hno : lowb c = c := lowb_no (by omega)
        go_roundw
        case rel => exact ⟨k + 1, by omega, by go_num, by rw [HS.out, hno, HE.out]; exact hr, hb⟩
        case measure => simp [intOf]; omega
    · have hks : k = s.size := by omega
      subst hks
      have hco := conv_out hr cap
      have HL : (lowTo l s.size).length = s.size := by rw [lowTo_len _ _ (by rw [Hll.out]; omega), Hll.out]
      rw [HL] at hco
      clear HL
      go_wp2
      go_ret
      refine ⟨?_, hb⟩
      have e : lowTo l s.size = lowl l := by rw [← Hll.out]; exact lowTo_all l
      rw [e, Hl.out]
      rfl
end Go.Proofs.YtnenlkojecicfaaDoor
