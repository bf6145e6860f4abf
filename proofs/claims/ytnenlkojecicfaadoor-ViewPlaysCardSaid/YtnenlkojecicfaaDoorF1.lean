/- search.Flags: flags as they are kept. -/
import Derived.Test.YtnenlkojecicfaaDoorK1
import Derived.Sort.OwnSorted
set_option linter.unusedVariables false
set_option linter.unusedSimpArgs false
namespace Go.Proofs.YtnenlkojecicfaaDoor.V
open Go.RowKit Go.Proofs.YtnenlkojecicfaaDoorW.PrintWords Go.Proofs.YtnenlkojecicfaaDoor.P
open Go.Sort (Holds putRow grow)

theorem kept_calls (f : ByteArray) (w : World) (hs : f.size ≤ 140737488351232) :
    Calls Tryd.prog 53 #[.string f] w fun e w' => e = .returned (.string (keptF f)) ∧ Below w.heap.size w w' := by
  by_cases hp : Lib.hasPrefix f.data.toList [92] = true
  · exact kept_yes f w hs hp
  · exact kept_no f w hs (by simpa using hp)

/-- Strings in a row of one's own. -/
def SRow (w : World) (base : Nat) (v : Value) (fs : List ByteArray) : Prop := OwnRow (fun x cs => cs = [Value.string x]) 9 1 w base v fs
theorem SRow.below {w w1 : World} {base : Nat} {v : Value} {fs : List ByteArray} (h : SRow w base v fs) (hb : Below w.heap.size w w1) : SRow w1 base v fs := OwnRow.below h hb
theorem SRow.inner {w : World} {base : Nat} {v : Value} {fs : List ByteArray} (h : SRow w base v fs) : w.ownsRow base 9 1 v fs.length (fs.map Value.string) := by
  obtain ⟨inner, ho, hr⟩ := h
  have e : inner = fs.map Value.string := by
    apply List.ext_getElem?
    intro j
    have hl := hr.1
    by_cases hj : j < fs.length
    · have := hr.2 j _ (List.getElem?_eq_getElem hj)
      have h2 := congrArg (fun l => l[0]?) this
      simp [List.getElem?_take, List.getElem?_drop] at h2
      simp [h2, hj]
    · rw [List.getElem?_eq_none (by omega), List.getElem?_eq_none (by simpa using Nat.le_of_not_lt hj)]
  rw [← e]
  exact ho
theorem SRow.of_inner {w : World} {base : Nat} {v : Value} {fs : List ByteArray} (h : w.ownsRow base 9 1 v fs.length (fs.map Value.string)) : SRow w base v fs := by
  refine ⟨_, h, by simp, fun j p hj => ?_⟩
  have hj' := (List.getElem?_eq_some_iff.1 hj)
  obtain ⟨hl, rfl⟩ := hj'
  apply List.ext_getElem?
  intro i
  rw [List.getElem?_take]
  cases i with
  | zero => simp [hl]
  | succ i => simp
/-- .. are flags that are read. -/
theorem SRow.fl {w : World} {base : Nat} {v : Value} {fs : List ByteArray} (h : SRow w base v fs) (B : Nat) : Fl B w v fs := by
  have hR : Kd.string.R 9 w base (fun _ => True) v fs := ⟨fun _ _ => trivial, h⟩
  obtain ⟨A, c, rfl, hl, _⟩ := Kd.R_reads hR
  exact ⟨A, c, rfl, hl, Rd.of_R hR (by intro q hq; simpa [Kd.string, Kd.scalar] using hq)⟩
/-- Element k of strings that are read. -/
theorem str_at {w : World} {A : Option Addr} {n : Nat} {fs : List ByteArray} (h : Kd.C Kd.string w A n fs) (k : Nat) (hk : k < n) :
    ∃ ad f, A = some ad ∧ fs[k]? = some f ∧ w.cell? (ad.add k) = some (.string f) := by
  obtain ⟨hl, _, h1⟩ := h
  obtain ⟨ad, e, hc1⟩ := h1 (by omega)
  have hg : fs[k]? = some (fs[k]'(by omega)) := List.getElem?_eq_getElem (by omega)
  obtain ⟨c, _, rfl, hc⟩ := hc1 k _ hg
  refine ⟨ad, _, e, hg, ?_⟩
  have := hc 0 _ rfl
  simpa [Kd.string, Kd.scalar] using this
theorem contains_calls {w : World} {base : Nat} {v : Value} {fs : List ByteArray} (h : SRow w base v fs) (x : ByteArray) :
    Calls Tryd.prog 54 #[v, .string x] w fun e w' => e = .returned (.bool (Lib.containsS fs x)) ∧ w = w' := by
  have hi := h.inner
  cases hfs : fs with
  | nil =>
    subst hfs
    obtain ⟨A, c, rfl, _⟩ := OwnRow.slice_ h
    exact (Tryd.slices_Contains_string_empty A c x w).mono fun _ _ hh => ⟨by rw [hh.1]; rfl, hh.2.symm⟩
  | cons a r =>
    rw [← hfs]
    obtain ⟨g, cap, rfl, _, _⟩ := hi.form (by rw [hfs]; simp)
    have hmax : fs.length ≤ 9223372036854775807 := by
      have hR : Kd.string.R 9 w base (fun _ => True) _ fs := ⟨fun _ _ => trivial, h⟩
      obtain ⟨A, c, _, _, hC⟩ := Kd.R_reads hR
      exact hC.2.1
    refine (Tryd.slices_Contains_string g 0 fs.length cap fs x w (Nat.le_refl _) hmax (fun j hj => ?_)).mono fun _ _ hh => ⟨by rw [hh.1, List.take_length], hh.2.symm⟩
    have := hi.cellAt j (by omega)
    rw [Nat.zero_add, this]
    simp [List.getD, hj]

def addF (acc : List ByteArray) (f : ByteArray) : List ByteArray :=
  if (keptF f).toList.isEmpty = true then acc else if Lib.containsS acc (keptF f) = true then acc else if acc.length < 20 then acc ++ [keptF f] else acc
def metTo (fs : List ByteArray) (k : Nat) : List ByteArray := (fs.take k).foldl addF []
def metF (fs : List ByteArray) : List ByteArray := fs.foldl addF []
theorem metTo_succ {fs : List ByteArray} {k : Nat} {f : ByteArray} (h : fs[k]? = some f) : metTo fs (k + 1) = addF (metTo fs k) f := by
  obtain ⟨hk, rfl⟩ := List.getElem?_eq_some_iff.1 h
  unfold metTo
  rw [List.take_succ_eq_append_getElem hk, List.foldl_append]
  rfl
theorem metTo_len (fs : List ByteArray) (k : Nat) : (metTo fs k).length ≤ 20 := by
  unfold metTo
  have : ∀ (l acc : List ByteArray), acc.length ≤ 20 → (l.foldl addF acc).length ≤ 20 := by
    intro l
    induction l with
    | nil => exact fun acc h => h
    | cons a r ih =>
      intro acc h
      refine ih _ ?_
      unfold addF
      split
      · exact h
      split
      · exact h
      split
      · simp; omega
      · exact h
  exact this _ _ (by simp)
def sortF (l : List ByteArray) : List ByteArray := ((l.map (·.data.toList)).mergeSort fun x y => decide (x ≤ y)).map fun b => ⟨b.toArray⟩
/-- Flags as they are kept. -/
def flagsF (fs : List ByteArray) : List ByteArray := sortF (metF fs)
theorem sortF_len (l : List ByteArray) : (sortF l).length = l.length := by simp [sortF]
theorem enc_map (l : List ByteArray) : l.map Value.string = (l.map (·.data.toList)).map encStr := by
  rw [List.map_map]
  apply List.map_congr_left
  intro a _
  simp [encStr]

theorem info9 : (Tryd.prog.info? 9).map (fun i => (i.zero, i.size, i.bytes)) = some (some (.string ⟨#[]⟩), 1, 16) := by kernel_rfl

/-- The sort of a row of one's own. -/
theorem sort_calls {w : World} {base : Nat} {v : Value} {fs : List ByteArray} (h : SRow w base v fs) (hn : fs.length ≤ 20) :
    Calls Tryd.prog 55 #[v] w fun e w' => e = .returned (.tuple #[]) ∧ SRow w' base v (sortF fs) ∧ Tr (fun k => v.ownBlock = some k) w w' := by
  have hi := h.inner
  rcases hi.2 with ⟨rfl, hnil⟩ | ⟨g, cap, cur, rfl, hbase, hb, h1, h2, h3, h4⟩
  · have : fs = [] := by simpa using hnil
    subst this
    refine (Tryd.slices_Sort_string_none none 0 w).mono fun _ _ hh => ?_
    obtain ⟨h1, rfl⟩ := hh
    exact ⟨h1, by rw [show sortF [] = [] by simp [sortF]]; exact h, Tr.refl _ _⟩
  · rw [enc_map] at h4
    have hl : fs.length = (fs.map (·.data.toList)).length := by simp
    have hH : Holds encStr w g 0 (fs.map (·.data.toList)).toArray := holds_of_block hb (by rw [← hl]; simpa using h4)
    have hc := Tryd.slices_Sort_string g 0 cap (fs.map (·.data.toList)) w hH (Array.getElem?_eq_some_iff.1 hb).1 (by rw [← hl]; omega)
    rw [← hl] at hc
    refine hc.mono fun e w' hh => ?_
    obtain ⟨he, n, os, rfl⟩ := hh
    refine ⟨he, SRow.of_inner ?_, ?_⟩
    · have := ownsRow_sorted (w := w) (n := n) (os := os) (ts := (fs.map (·.data.toList)).mergeSort fun x y => decide (x ≤ y)) (ss := fs.map (·.data.toList)) (by simp) hbase hb (by rw [← hl]; exact h1) h2 h3
      rw [sortF_len, enc_map]
      have e2 : (sortF fs).map (·.data.toList) = (fs.map (·.data.toList)).mergeSort fun x y => decide (x ≤ y) := by
        unfold sortF
        rw [List.map_map]
        simp [Function.comp_def]
      rw [e2]
      rw [← hl] at this
      exact this
    · exact (Tr.refl _ w).grown (grownBy_sorted _) (fun k hk => .inl (by simpa [Value.ownBlock] using hk))

set_option maxRecDepth 100000 in
set_option maxHeartbeats 2000000 in
theorem flags_calls (A : Option Addr) (c : Nat) (fs : List ByteArray) (w : World) (hr : Kd.C Kd.string w A fs.length fs) (hsm : ∀ f ∈ fs, f.size ≤ 140737488351232) :
    Calls Tryd.prog 39 #[.slice A fs.length c] w fun e w' => ∃ v : Value, e = .returned v ∧ SRow w' w.heap.size v (flagsF fs) ∧ Below w.heap.size w w' := by
  have hmax := hr.2.1
  go_enter Tryd.func39, Tryd.ntmps39
  go_wp2
  go_loopw [3, 8] (fun v i wr => ∃ k : Nat, k ≤ fs.length ∧ i = .int .i64 k ∧ Aside0 (SRow wr w.heap.size v (metTo fs k)) ∧ Aside0 (Below w.heap.size w wr)) (fun _ i _ => fs.length - (intOf i).toNat)
  case atStart => exact ⟨0, Nat.zero_le _, rfl, ⟨OwnRow.none_ _ _ _ _ _⟩, ⟨Below.refl _ _⟩⟩
  case round =>
    obtain ⟨k, hk, rfl, HO, HB⟩ := hrel
    have HW := Aside0.mk HB.out.size
    by_cases hlt : k < fs.length
    · obtain ⟨ad, f, rfl, hx, hcell⟩ := str_at (Kd.C_below hr HB.out) k hlt
      have hsf := hsm f (List.mem_of_getElem? hx)
      have HX := Lib.hid hx
      clear hx
      go_wp2_with fail
      refine (kept_calls f _ hsf).mono ?_
      rintro e w1 ⟨rfl, hb1⟩
      have HB1 := Aside0.mk hb1
      clear hb1
      obtain ⟨g, hg⟩ : ∃ g, g = keptF f := ⟨_, rfl⟩
      rw [← hg]
      have HG := Lib.hid hg
      clear hg
      cases he : g.toList.isEmpty with
      | true =>
        have HE := Aside0.mk he
        go_wp2
        go_roundw
        case measure => simp [intOf]; omega
        case rel =>
          have ha : metTo fs (k + 1) = metTo fs k := by rw [metTo_succ HX.out]; unfold addF; rw [← HG.out, if_pos HE.out]
          exact ⟨k + 1, by omega, by go_num, ⟨by rw [ha]; exact HO.out.below HB1.out⟩, ⟨below_then HB.out HW.out HB1.out⟩⟩
      | false =>
        have HE := Aside0.mk he
        go_wp2_with fail
        refine (contains_calls (HO.out.below HB1.out) g).mono ?_
        rintro e w2 ⟨rfl, rfl⟩
        cases hcs : Lib.containsS (metTo fs k) g with
        | true =>
          have HC := Aside0.mk hcs
          go_wp2
          go_roundw
          case measure => simp [intOf]; omega
          case rel =>
            have ha : metTo fs (k + 1) = metTo fs k := by rw [metTo_succ HX.out]; unfold addF; rw [← HG.out, if_neg (by rw [HE.out]; simp), if_pos HC.out]
            exact ⟨k + 1, by omega, by go_num, ⟨by rw [ha]; exact HO.out.below HB1.out⟩, ⟨below_then HB.out HW.out HB1.out⟩⟩
        | false =>
          have HC := Aside0.mk hcs
          obtain ⟨Av, cv, hv, _⟩ := OwnRow.slice_ HO.out
          subst hv
          by_cases h20 : (metTo fs k).length < 20
          · go_wp2_with (at_builtin; (refine OwnRow.append (R := fun x cs => cs = [Value.string x]) (w0 := w1) w.heap.size rfl (.tmp 27) (.tmp 29) 31 9 _ 1 16 rfl Tryd.underlying31 info9 rfl (by decide) (by omega) _ (metTo fs k) g [.string g] rfl rfl rfl rfl (by intro u hu; rw [List.mem_singleton.1 hu]; rfl) ?ho (Below.refl _ _) ?hb (by omega) ?_); (case ho => exact HO.out.below HB1.out); (case hb => exact Nat.le_trans HW.out HB1.out.size); intro v1 w3 ho1 hb3 hg3 hat3)
            go_roundw
            case measure => simp [intOf]; omega
            case rel =>
              have ha : metTo fs (k + 1) = metTo fs k ++ [g] := by rw [metTo_succ HX.out]; unfold addF; rw [← HG.out, if_neg (by rw [HE.out]; simp), if_neg (by rw [HC.out]; simp), if_pos h20]
              exact ⟨k + 1, by omega, by go_num, ⟨by rw [ha]; exact ho1⟩, ⟨(below_then HB.out HW.out HB1.out).trans hb3⟩⟩
          · go_wp2
            go_roundw
            case measure => simp [intOf]; omega
            case rel =>
              have ha : metTo fs (k + 1) = metTo fs k := by rw [metTo_succ HX.out]; unfold addF; rw [← HG.out, if_neg (by rw [HE.out]; simp), if_neg (by rw [HC.out]; simp), if_neg (by omega)]
              exact ⟨k + 1, by omega, by go_num, ⟨by rw [ha]; exact HO.out.below HB1.out⟩, ⟨below_then HB.out HW.out HB1.out⟩⟩
    · have hks : k = fs.length := by omega
      subst hks
      go_wp2_with fail
      refine (sort_calls HO.out (metTo_len _ _)).mono ?_
      rintro e w1 ⟨rfl, ho1, ht1⟩
      have HO1 := Aside0.mk ho1
      have HT1 := Aside0.mk ht1
      clear ho1 ht1
      go_wp2
      go_ret
      refine ⟨_, rfl, ?_, ?_⟩
      · have := HO1.out
        unfold metTo at this
        rw [List.take_length] at this
        exact this
      · exact HB.out.trans (HT1.out.below (fun j hj he => by have := orow_base HO.out j he; omega) HW.out)
end Go.Proofs.YtnenlkojecicfaaDoor.V
