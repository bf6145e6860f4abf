/- search.kept and the reference's Kept: a flag as it is kept. -/
import Derived.Test.YtnenlkojecicfaaDoorB
import Derived.Test.YtnenlkojecicfaaDoorH1
import Derived.Test.YtnenlkojecicfaaDoorShelf
set_option linter.unusedVariables false
set_option linter.unusedSimpArgs false
namespace Go.Proofs.YtnenlkojecicfaaDoor.V
open Go.RowKit Go.Proofs.YtnenlkojecicfaaDoorW.PrintWords Go.Proofs.YtnenlkojecicfaaDoor.P

def sA : ByteArray := ⟨#[92, 65, 110, 115, 119, 101, 114, 101, 100]⟩
def sDe : ByteArray := ⟨#[92, 68, 101, 108, 101, 116, 101, 100]⟩
def sDr : ByteArray := ⟨#[92, 68, 114, 97, 102, 116]⟩
def sF : ByteArray := ⟨#[92, 70, 108, 97, 103, 103, 101, 100]⟩
def sS : ByteArray := ⟨#[92, 83, 101, 101, 110]⟩
def five : List ByteArray := [sA, sDe, sDr, sF, sS]
def bad : List UInt8 := [40, 41, 123, 125, 37, 42, 34, 92, 91, 93, 60, 62]
def okc (c : UInt8) : Bool := decide (33 ≤ c.toNat) && decide (c.toNat ≤ 126) && !bad.contains c
def dig (c : UInt8) : Bool := decide (48 ≤ c.toNat) && decide (c.toNat ≤ 57)
def nilB : List UInt8 := [110, 105, 108]
def empB : ByteArray := ⟨#[]⟩
/-- Is a flag the j-th of the five? -/
def hit (f : ByteArray) (j : Nat) : Bool := (lower (five.getD j empB)).toList == (lower f).toList
/-- A flag that is none of the five. -/
def keptO (f : ByteArray) : ByteArray := if f.size ≤ 30 ∧ (lower f).toList ≠ nilB ∧ f.data.toList.all okc = true ∧ f.data.toList.all dig = false then f else empB
/-- A flag as it is kept; nothing: it is passed over. -/
def keptF (f : ByteArray) : ByteArray :=
  if hit f 0 = true then sA else if hit f 1 = true then sDe else if hit f 2 = true then sDr else if hit f 3 = true then sF else if hit f 4 = true then sS else keptO f
theorem kept_found {f : ByteArray} {k : Nat} (hk : k < 5) (hb : ∀ j, j < k → hit f j = false) (h : hit f k = true) : keptF f = five.getD k empB := by
  have h0 := hb 0
  have h1 := hb 1
  have h2 := hb 2
  have h3 := hb 3
  unfold keptF
  match k, hk with
  | 0, _ => rw [if_pos h]; rfl
  | 1, _ => rw [h0 (by omega), if_neg (by simp), if_pos h]; rfl
  | 2, _ => rw [h0 (by omega), h1 (by omega), if_neg (by simp), if_neg (by simp), if_pos h]; rfl
  | 3, _ => rw [h0 (by omega), h1 (by omega), h2 (by omega), if_neg (by simp), if_neg (by simp), if_neg (by simp), if_pos h]; rfl
  | 4, _ => rw [h0 (by omega), h1 (by omega), h2 (by omega), h3 (by omega), if_neg (by simp), if_neg (by simp), if_neg (by simp), if_neg (by simp), if_pos h]; rfl
theorem kept_not {f : ByteArray} (hb : ∀ j, j < 5 → hit f j = false) : keptF f = keptO f := by
  unfold keptF
  rw [hb 0 (by omega), hb 1 (by omega), hb 2 (by omega), hb 3 (by omega), hb 4 (by omega)]
  simp
theorem hasPrefix_bs {f : ByteArray} (h : Lib.hasPrefix f.data.toList [92] = true) : ∃ r, f.data.toList = 92 :: r := by
  cases hl : f.data.toList with
  | nil => rw [hl] at h; exact absurd h (by decide)
  | cons a r =>
    rw [hl] at h
    have : 92 = a := by simpa [Lib.hasPrefix] using h
    exact ⟨r, by rw [← this]⟩
theorem kept_bs {f : ByteArray} (h : Lib.hasPrefix f.data.toList [92] = true) (hb : ∀ j, j < 5 → hit f j = false) : keptF f = empB := by
  rw [kept_not hb]
  unfold keptO
  obtain ⟨r, hr⟩ := hasPrefix_bs h
  rw [hr]
  have : okc 92 = false := by decide
  simp [this]
theorem lower_list (s : ByteArray) : (lower s).toList = lowl s.data.toList := by
  simp [lower, ByteArray.toList_eq]
theorem prefix_calls (s p : ByteArray) (w : World) : Calls Tryd.prog 60 #[.string s, .string p] w fun e w' => e = .returned (.bool (Lib.hasPrefix s.data.toList p.data.toList)) ∧ w = w' :=
  (Tryd.strings_HasPrefix s p w).mono fun _ _ h => ⟨h.1, h.2.symm⟩
theorem indexByte_calls (s : ByteArray) (c : Int) (w : World) : Calls Tryd.prog 63 #[.string s, .int .u8 c] w fun e w' => e = .returned (.int .i64 (Lib.indexByte s.data.toList c.toNat.toUInt8)) ∧ w = w' :=
  (Tryd.strings_IndexByte s c w).mono fun _ _ h => ⟨h.1, h.2.symm⟩

set_option maxRecDepth 100000 in
set_option maxHeartbeats 2000000 in
theorem kept_yes (f : ByteArray) (w : World) (hs : f.size ≤ 140737488351232) (hp : Lib.hasPrefix f.data.toList [92] = true) :
    Calls Tryd.prog 53 #[.string f] w fun e w' => e = .returned (.string (keptF f)) ∧ Below w.heap.size w w' := by
  have hcells : ∀ k, k < 5 → (w.alloc (.cells #[.string ⟨#[92, 65, 110, 115, 119, 101, 114, 101, 100]⟩, .string ⟨#[92, 68, 101, 108, 101, 116, 101, 100]⟩, .string ⟨#[92, 68, 114, 97, 102, 116]⟩, .string ⟨#[92, 70, 108, 97, 103, 103, 101, 100]⟩, .string ⟨#[92, 83, 101, 101, 110]⟩] 9)).cell? ⟨w.heap.size, k, none⟩ = some (.string (five.getD k empB)) := by
    intro k hk
    rw [World.cell?_alloc_at _ _ _ _ rfl]
    match k, hk with
    | 0, _ => rfl
    | 1, _ => rfl
    | 2, _ => rfl
    | 3, _ => rfl
    | 4, _ => rfl
  have HC := Lib.hid hcells
  have HP := Lib.hid hp
  clear hcells
  go_enter Tryd.func53, Tryd.ntmps53
  go_wp2_with (go_at_call 60; refine (prefix_calls _ _ _).mono ?_; rintro e w' ⟨rfl, rfl⟩)
  clear hp
  go_loopw [10] (fun i wr => ∃ k : Nat, k ≤ 5 ∧ i = .int .i64 k ∧ Aside0 (∀ j, j < k → hit f j = false) ∧ Aside0 (Below (w.heap.size + 1) (w.alloc (.cells #[.string ⟨#[92, 65, 110, 115, 119, 101, 114, 101, 100]⟩, .string ⟨#[92, 68, 101, 108, 101, 116, 101, 100]⟩, .string ⟨#[92, 68, 114, 97, 102, 116]⟩, .string ⟨#[92, 70, 108, 97, 103, 103, 101, 100]⟩, .string ⟨#[92, 83, 101, 101, 110]⟩] 9)) wr)) (fun i _ => 5 - (intOf i).toNat)
  case atStart => exact ⟨0, by omega, rfl, ⟨fun j hj => absurd hj (by omega)⟩, ⟨Below.refl _ _⟩⟩
  case round =>
    obtain ⟨k, hk, rfl, HN, HB⟩ := hrel
    have HB0 := Aside0.mk (show Below w.heap.size w wr from (below_alloc (Below.refl _ _) _).trans (HB.out.mono (by omega)))
    by_cases hlt : k < 5
    · have hc : wr.cell? ⟨w.heap.size, k, none⟩ = some (.string (five.getD k empB)) := (HB.out.cell (by simp)).trans (HC.out k hlt)
      obtain ⟨g, hg⟩ : ∃ g, g = five.getD k empB := ⟨_, rfl⟩
      rw [← hg] at hc
      have hgs : g.size ≤ 140737488351232 := by
        rw [hg]
        match k, hlt with
        | 0, _ => decide
        | 1, _ => decide
        | 2, _ => decide
        | 3, _ => decide
        | 4, _ => decide
      have HG := Lib.hid hg
      clear hg
      have HB2 := Aside0.mk hlt
      go_wp2_with fail
      refine (lower_calls g _ hgs).mono ?_
      rintro e w1 ⟨rfl, hb1⟩
      have HB3 := Aside0.mk hb1
      clear hb1
      go_wp2_with fail
      refine (lower_calls f _ hs).mono ?_
      rintro e w2 ⟨rfl, hb2⟩
      have HB4 := Aside0.mk hb2
      clear hb2
      have HB5 := Aside0.mk (show Below wr.heap.size wr w2 from below_then HB3.out HB3.out.size HB4.out)
      have hh : hit f k = ((lower g).toList == (lower f).toList) := by unfold hit; rw [HG.out]
      cases hv : hit f k with
      | true =>
        rw [hv] at hh
        have hh2 := hh.symm
        have HV := Aside0.mk hv
        clear hh hv
        go_wp2
        go_ret
        exact ⟨by rw [kept_found HB2.out HN.out HV.out, ← HG.out]; rfl, below_then HB0.out HB0.out.size HB5.out⟩
      | false =>
        rw [hv] at hh
        have hh2 := hh.symm
        have HV := Aside0.mk hv
        clear hh hv
        go_wp2
        go_roundw
        case measure => simp [intOf]; omega
        case rel =>
          refine ⟨k + 1, by omega, by go_num, ⟨fun j hj => ?_⟩, ⟨?_⟩⟩
          · by_cases e : j = k
            · rw [e]; exact HV.out
            · exact HN.out j (by omega)
          · exact HB.out.trans (HB5.out.mono (by have := HB0.out.size; have := HB.out.size; simp at this; omega))
    · have hk5 : k = 5 := by omega
      subst hk5
      go_wp2
      go_ret
      exact ⟨by rw [kept_bs HP.out HN.out]; rfl, HB0.out⟩

/-- The other flags: those that do not begin with a backslash. -/
theorem hit_no {f : ByteArray} (h : ¬ Lib.hasPrefix f.data.toList [92] = true) (j : Nat) (hj : j < 5) : hit f j = false := by
  unfold hit
  rw [lower_list, lower_list, beq_eq_false_iff_ne]
  intro e
  apply h
  have hx : ∃ r, lowl (five.getD j empB).data.toList = 92 :: r := by
    match j, hj with
    | 0, _ => exact ⟨_, rfl⟩
    | 1, _ => exact ⟨_, rfl⟩
    | 2, _ => exact ⟨_, rfl⟩
    | 3, _ => exact ⟨_, rfl⟩
    | 4, _ => exact ⟨_, rfl⟩
  obtain ⟨r, hr⟩ := hx
  rw [hr] at e
  cases hl : f.data.toList with
  | nil => rw [hl] at e; simp [lowl] at e
  | cons a q =>
    rw [hl] at e
    have e1 : 92 = lowb a := by simp [lowl] at e; exact e.1
    have e2 : a = 92 := by
      unfold lowb at e1
      split at e1
      · rename_i hc
        have h1 := congrArg UInt8.toNat e1
        rw [UInt8.toNat_add] at h1
        have h2 : (92 : UInt8).toNat = 92 := rfl
        have h3 : (32 : UInt8).toNat = 32 := rfl
        omega
      · exact e1.symm
    rw [e2]
    rfl
theorem kept_plain {f : ByteArray} (h : ¬ Lib.hasPrefix f.data.toList [92] = true) : keptF f = keptO f := kept_not (fun j hj => hit_no h j hj)
def digits : List UInt8 := [48, 49, 50, 51, 52, 53, 54, 55, 56, 57]

theorem dropWhile_nil {α : Type} (p : α → Bool) (l : List α) : l.dropWhile p = [] ↔ l.all p = true := by
  induction l with
  | nil => simp
  | cons a r ih =>
    rw [List.dropWhile_cons]
    cases h : p a
    · simp [h]
    · simp [h, ih]
theorem dig_eq (c : UInt8) : digits.contains c = dig c := by
  unfold dig digits
  rw [Bool.eq_iff_iff]
  simp only [List.contains_eq_mem, List.mem_cons, List.not_mem_nil, or_false, decide_eq_true_eq, Bool.and_eq_true]
  constructor
  · rintro (rfl | rfl | rfl | rfl | rfl | rfl | rfl | rfl | rfl | rfl) <;> decide
  · rintro ⟨h1, h2⟩
    have : ∀ k : UInt8, c.toNat = k.toNat → c = k := fun k hk => UInt8.toNat.inj hk
    rcases (by omega : c.toNat = 48 ∨ c.toNat = 49 ∨ c.toNat = 50 ∨ c.toNat = 51 ∨ c.toNat = 52 ∨ c.toNat = 53 ∨ c.toNat = 54 ∨ c.toNat = 55 ∨ c.toNat = 56 ∨ c.toNat = 57) with h | h | h | h | h | h | h | h | h | h
    · exact .inl (this 48 h)
    · exact .inr (.inl (this 49 h))
    · exact .inr (.inr (.inl (this 50 h)))
    · exact .inr (.inr (.inr (.inl (this 51 h))))
    · exact .inr (.inr (.inr (.inr (.inl (this 52 h)))))
    · exact .inr (.inr (.inr (.inr (.inr (.inl (this 53 h))))))
    · exact .inr (.inr (.inr (.inr (.inr (.inr (.inl (this 54 h)))))))
    · exact .inr (.inr (.inr (.inr (.inr (.inr (.inr (.inl (this 55 h))))))))
    · exact .inr (.inr (.inr (.inr (.inr (.inr (.inr (.inr (.inl (this 56 h)))))))))
    · exact .inr (.inr (.inr (.inr (.inr (.inr (.inr (.inr (.inr (this 57 h)))))))))
theorem trimS_digits (l : List UInt8) : Lib.trimS l digits = [] ↔ l.all dig = true := by
  have e : (fun x => digits.contains x) = dig := funext dig_eq
  unfold Lib.trimS Lib.trimLeftS Lib.trimRightS
  rw [e, dropWhile_nil]
  rw [List.all_reverse]
  constructor
  · intro h
    by_cases hl : l.all dig = true
    · exact hl
    · have h1 : l.reverse.dropWhile dig ≠ [] := fun hn => hl (by have := (dropWhile_nil dig l.reverse).1 hn; rwa [List.all_reverse] at this)
      obtain ⟨a, r, har⟩ := List.exists_cons_of_ne_nil h1
      have h2 : dig a = false := by
        have := List.head_dropWhile_not dig h1
        simpa [har] using this
      rw [har] at h
      simp [h2] at h
  · intro h
    have : l.reverse.dropWhile dig = [] := (dropWhile_nil dig l.reverse).2 (by rwa [List.all_reverse])
    rw [this]
    rfl
def digB : ByteArray := ⟨#[48, 49, 50, 51, 52, 53, 54, 55, 56, 57]⟩
theorem trimd_calls (s : ByteArray) (w : World) (hs : s.size ≤ 140737488351232) : Calls Tryd.prog 62 #[.string s, .string ⟨#[48, 49, 50, 51, 52, 53, 54, 55, 56, 57]⟩] w fun e w' => ∃ r : ByteArray, e = .returned (.string r) ∧ Aside0 (r.toList.isEmpty = s.data.toList.all dig) ∧ Below w.heap.size w w' := by
  refine (Tryd.strings_Trim_set s ⟨#[48, 49, 50, 51, 52, 53, 54, 55, 56, 57]⟩ w (by omega) (by decide) (ascii_of_all (by decide))).mono fun e w' ⟨h1, h2⟩ => ⟨_, h1, ⟨?_⟩, h2⟩
  have := trimS_digits s.data.toList
  rw [Bool.eq_iff_iff, ← this]
  simp [ByteArray.toList_eq, digits]

theorem getD_byte (f : ByteArray) (k : Nat) (hk : k < f.size) : f.data.toList.getD k 0 = f[k] := by
  have hk' : k < f.data.toList.length := by simpa using hk
  rw [List.getD_eq_getElem?_getD, List.getElem?_eq_getElem hk']
  rfl
theorem bad_yes {c : UInt8} (h : bad.contains c = true) : 0 ≤ Lib.indexByte ([40, 41, 123, 125, 37, 42, 34, 92, 91, 93, 60, 62] : List UInt8) c := by
  rw [Lib.contains_iff_indexByte] at h
  have := of_decide_eq_true h
  unfold bad at this
  omega
theorem bad_no {c : UInt8} (h : bad.contains c = false) : Lib.indexByte ([40, 41, 123, 125, 37, 42, 34, 92, 91, 93, 60, 62] : List UInt8) c < 0 := by
  rw [Lib.contains_iff_indexByte] at h
  have := of_decide_eq_false h
  unfold bad at this
  omega
theorem keptO_bad {f : ByteArray} {k : Nat} (hk : k < f.size) (h : okc (f.data.toList.getD k 0) = false) : keptO f = empB := by
  unfold keptO
  rw [if_neg]
  rintro ⟨_, _, h3, _⟩
  have hk' : k < f.data.toList.length := by simpa using hk
  have := List.all_eq_true.1 h3 (f.data.toList.getD k 0) (by rw [List.getD_eq_getElem?_getD, List.getElem?_eq_getElem hk']; exact List.getElem_mem hk')
  rw [h] at this
  cases this
theorem keptO_ok {f : ByteArray} (h0 : f.size ≤ 30) (h1 : ((lower f).toList == [110, 105, 108]) = false) (h2 : ∀ j, j < f.size → okc (f.data.toList.getD j 0) = true) (h3 : f.data.toList.all dig = false) : keptO f = f := by
  unfold keptO
  rw [if_pos]
  refine ⟨h0, fun e => by rw [e] at h1; simp [nilB] at h1, List.all_eq_true.2 fun x hx => ?_, h3⟩
  obtain ⟨j, hj, rfl⟩ := List.mem_iff_getElem.1 hx
  have := h2 j (by simpa using hj)
  rwa [List.getD_eq_getElem?_getD, List.getElem?_eq_getElem hj] at this

set_option maxRecDepth 100000 in
set_option maxHeartbeats 2000000 in
theorem kept_no (f : ByteArray) (w : World) (hs : f.size ≤ 140737488351232) (hp : Lib.hasPrefix f.data.toList [92] = false) :
    Calls Tryd.prog 53 #[.string f] w fun e w' => e = .returned (.string (keptF f)) ∧ Below w.heap.size w w' := by
  rw [kept_plain (by rw [hp]; simp)]
  by_cases h30 : f.size ≤ 30
  · have h30b : decide (30 < (f.size : Int)) = false := by simp; omega
    go_enter Tryd.func53, Tryd.ntmps53
    go_wp2_with (go_at_call 60; refine (prefix_calls _ _ _).mono ?_; rintro e w' ⟨rfl, rfl⟩)
    refine (trimd_calls f _ hs).mono ?_
    rintro e w1 ⟨r, rfl, HR, hb1⟩
    have HB1 := Aside0.mk hb1
    clear hb1
    cases hr : r.toList.isEmpty with
    | true =>
      go_wp2
      go_ret
      exact ⟨by unfold keptO; rw [if_neg (by rw [← HR.out, hr]; simp)]; rfl, HB1.out⟩
    | false =>
      have HR2 := Aside0.mk hr
      go_wp2_with fail
      refine (lower_calls f _ hs).mono ?_
      rintro e w2 ⟨rfl, hb2⟩
      have HB2 := Aside0.mk (show Below w.heap.size w w2 from below_then HB1.out HB1.out.size hb2)
      clear hb2 hr
      cases hn : (lower f).toList == [110, 105, 108] with
      | true =>
        go_wp2
        go_ret
        exact ⟨by unfold keptO; rw [if_neg (by rintro ⟨_, h2, _⟩; exact h2 (by simpa [nilB] using hn))]; rfl, HB2.out⟩
      | false =>
        have HN := Aside0.mk hn
        go_wp2
        clear hn
        go_loopw [36] (fun i wr => ∃ k : Nat, k ≤ f.size ∧ i = .int .i64 k ∧ Aside0 (∀ j, j < k → okc (f.data.toList.getD j 0) = true) ∧ Aside0 (Below w.heap.size w wr)) (fun i _ => f.size - (intOf i).toNat)
        case atStart => exact ⟨0, by omega, rfl, ⟨fun j hj => absurd hj (by omega)⟩, HB2⟩
        case round =>
          obtain ⟨k, hk, rfl, HO, HB⟩ := hrel
          by_cases hlt : k < f.size
          · have hget : f.data.toList.getD k 0 = f[k] := getD_byte f k hlt
            have HG := Lib.hid hget
            clear hget
            by_cases h1 : (f[k].toNat : Int) < 33
            · have hno : okc f[k] = false := by unfold okc; simp; omega
              have HNO := Lib.hid hno
              clear hno
              go_wp2
              go_ret
              exact ⟨by rw [keptO_bad hlt (by rw [HG.out]; exact HNO.out)]; rfl, HB.out⟩
            · by_cases h2 : 126 < (f[k].toNat : Int)
              · have hno : okc f[k] = false := by unfold okc; simp; omega
                have HNO := Lib.hid hno
                clear hno
                go_wp2
                go_ret
                exact ⟨by rw [keptO_bad hlt (by rw [HG.out]; exact HNO.out)]; rfl, HB.out⟩
              · cases hb : bad.contains f[k] with
                | true =>
                  have hno : okc f[k] = false := by unfold okc; rw [hb]; simp
                  have HNO := Lib.hid hno
                  have hi := bad_yes hb
                  have HI := Lib.hid hi
                  clear hno hi hb
                  go_wp2_with fail
                  refine (indexByte_calls _ _ _).mono ?_
                  rintro e w3 ⟨rfl, rfl⟩
                  have hi := HI.out
                  go_wp2
                  go_ret
                  exact ⟨by rw [keptO_bad hlt (by rw [HG.out]; exact HNO.out)]; rfl, HB.out⟩
                | false =>
                  have hno : okc f[k] = true := by unfold okc; rw [hb]; simp; omega
                  have HNO := Lib.hid hno
                  have hi := bad_no hb
                  have HI := Lib.hid hi
                  clear hno hi hb
                  go_wp2_with fail
                  refine (indexByte_calls _ _ _).mono ?_
                  rintro e w3 ⟨rfl, rfl⟩
                  have hi := HI.out
                  go_wp2
                  go_roundw
                  case measure => simp [intOf]; omega
                  case rel =>
                    refine ⟨k + 1, by omega, by go_num, ⟨fun j hj => ?_⟩, HB⟩
                    by_cases e : j = k
                    · rw [e, HG.out]; exact HNO.out
                    · exact HO.out j (by omega)
          · have hks : k = f.size := by omega
            go_wp2
            go_ret
            refine ⟨?_, HB.out⟩
            rw [keptO_ok h30 HN.out (by rw [← hks]; exact HO.out) (by rw [← HR.out]; exact HR2.out)]
            rfl
  · go_enter Tryd.func53, Tryd.ntmps53
    go_wp2_with (go_at_call 60; refine (prefix_calls _ _ _).mono ?_; rintro e w' ⟨rfl, rfl⟩)
    go_ret
    exact ⟨by unfold keptO; rw [if_neg (by omega)]; rfl, Below.refl _ _⟩
end Go.Proofs.YtnenlkojecicfaaDoor.V
