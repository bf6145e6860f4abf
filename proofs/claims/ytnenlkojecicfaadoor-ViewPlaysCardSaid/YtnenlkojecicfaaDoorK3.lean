/- The reference's Kept, in, Flags. The reference's Flags: what its choice gives; in; the walk. -/
import Derived.Test.YtnenlkojecicfaaDoorF1
import Derived.Test.YtnenlkojecicfaaDoorA0
import Derived.Test.YtnenlkojecicfaaDoorS1c
import Derived.Sort.Walk0
set_option linter.unusedVariables false
set_option linter.unusedSimpArgs false
namespace Go.Proofs.YtnenlkojecicfaaDoor.V
open Go.RowKit Go.Proofs.YtnenlkojecicfaaDoorW.PrintWords Go.Proofs.YtnenlkojecicfaaDoor.P

theorem bad_nat {c : UInt8} (h : bad.contains c = true) : (c.toNat : Int) = 40 ∨ (c.toNat : Int) = 41 ∨ (c.toNat : Int) = 123 ∨ (c.toNat : Int) = 125 ∨ (c.toNat : Int) = 37 ∨ (c.toNat : Int) = 42 ∨ (c.toNat : Int) = 34 ∨ (c.toNat : Int) = 92 ∨ (c.toNat : Int) = 91 ∨ (c.toNat : Int) = 93 ∨ (c.toNat : Int) = 60 ∨ (c.toNat : Int) = 62 := by
  simp only [bad, List.contains_eq_mem, List.mem_cons, List.not_mem_nil, or_false, decide_eq_true_eq] at h
  rcases h with rfl | rfl | rfl | rfl | rfl | rfl | rfl | rfl | rfl | rfl | rfl | rfl <;> decide
theorem not_bad_nat {c : UInt8} (h : bad.contains c = false) : ((c.toNat : Int) == 40) = false ∧ ((c.toNat : Int) == 41) = false ∧ ((c.toNat : Int) == 123) = false ∧ ((c.toNat : Int) == 125) = false ∧ ((c.toNat : Int) == 37) = false ∧ ((c.toNat : Int) == 42) = false ∧ ((c.toNat : Int) == 34) = false ∧ ((c.toNat : Int) == 92) = false ∧ ((c.toNat : Int) == 91) = false ∧ ((c.toNat : Int) == 93) = false ∧ ((c.toNat : Int) == 60) = false ∧ ((c.toNat : Int) == 62) = false := by
  have k : ∀ n : UInt8, n ∈ bad → ((c.toNat : Int) == (n.toNat : Int)) = false := fun n hn => by
    rw [beq_eq_false_iff_ne]
    intro e
    have : c = n := UInt8.toNat.inj (by omega)
    subst this
    simp at h
    exact h hn
  exact ⟨k 40 (by decide), k 41 (by decide), k 123 (by decide), k 125 (by decide), k 37 (by decide), k 42 (by decide), k 34 (by decide), k 92 (by decide), k 91 (by decide), k 93 (by decide), k 60 (by decide), k 62 (by decide)⟩
def digTo (f : ByteArray) (k : Nat) : Bool := (f.data.toList.take k).all dig
theorem digTo_succ (f : ByteArray) (k : Nat) (hk : k < f.size) : digTo f (k + 1) = (digTo f k && dig f[k]) := by
  unfold digTo
  have hk' : k < f.data.toList.length := by simpa using hk
  rw [List.take_succ_eq_append_getElem hk', List.all_append]
  simp
  rfl
set_option maxRecDepth 100000 in
set_option maxHeartbeats 4000000 in
theorem rkept_calls (f : ByteArray) (w : World) (hs : f.size ≤ 140737488351232) :
    Calls Tryd.prog 56 #[.string f] w fun e w' => e = .returned (.string (keptF f)) ∧ Below w.heap.size w w' := by
  have hcells : ∀ k, k < 5 → (w.alloc (.cells #[.string ⟨#[92, 65, 110, 115, 119, 101, 114, 101, 100]⟩, .string ⟨#[92, 68, 101, 108, 101, 116, 101, 100]⟩, .string ⟨#[92, 68, 114, 97, 102, 116]⟩, .string ⟨#[92, 70, 108, 97, 103, 103, 101, 100]⟩, .string ⟨#[92, 83, 101, 101, 110]⟩] 9)).cell? ⟨w.heap.size, k, none⟩ = some (.string (five.getD k empB)) := by
    intro k hk
    rw [World.cell?_alloc_at _ _ _ _ rfl]
    match k, hk with
    | 0, _ => rfl
    | 1, _ => rfl
    | 2, _ => rfl
    | 3, _ => rfl
    | 4, _ => rfl
  have HC := Lib.hid hcells
  clear hcells
  go_enter Tryd.func56, Tryd.ntmps56
  go_wp2_with fail
  go_loopw [4] (fun i wr => ∃ k : Nat, k ≤ 5 ∧ i = .int .i64 k ∧ Aside0 (∀ j, j < k → hit f j = false) ∧ Aside0 (Below (w.heap.size + 1) (w.alloc (.cells #[.string ⟨#[92, 65, 110, 115, 119, 101, 114, 101, 100]⟩, .string ⟨#[92, 68, 101, 108, 101, 116, 101, 100]⟩, .string ⟨#[92, 68, 114, 97, 102, 116]⟩, .string ⟨#[92, 70, 108, 97, 103, 103, 101, 100]⟩, .string ⟨#[92, 83, 101, 101, 110]⟩] 9)) wr)) (fun i _ => 5 - (intOf i).toNat)
  case atStart => exact ⟨0, by omega, rfl, ⟨fun j hj => absurd hj (by omega)⟩, ⟨Below.refl _ _⟩⟩
  case round =>
    obtain ⟨k, hk, rfl, HN, HB⟩ := hrel
    have HB0 := Aside0.mk (show Below w.heap.size w wr from (below_alloc (Below.refl _ _) _).trans (HB.out.mono (by omega)))
    by_cases hlt : k < 5
    · have hc : wr.cell? ⟨w.heap.size, k, none⟩ = some (.string (five.getD k empB)) := (HB.out.cell (by simp)).trans (HC.out k hlt)
      obtain ⟨g, hg⟩ : ∃ g, g = five.getD k empB := ⟨_, rfl⟩
      rw [← hg] at hc
      have hgs : g.size ≤ 140737488351232 := by
        rw [hg]
        match k, hlt with
        | 0, _ => decide
        | 1, _ => decide
        | 2, _ => decide
        | 3, _ => decide
        | 4, _ => decide
      have HG := Lib.hid hg
      clear hg
      have HB2 := Aside0.mk hlt
      go_wp2_with fail
      refine (rlower_calls g _ hgs).mono ?_
      rintro e w1 ⟨rfl, hb1⟩
      have HB3 := Aside0.mk hb1
      have hc1 : w1.cell? ⟨w.heap.size, k, none⟩ = some (.string g) := pw_cell_below hb1 hc
      clear hb1
      go_wp2_with fail
      refine (rlower_calls f _ hs).mono ?_
      rintro e w2 ⟨rfl, hb2⟩
      have HB4 := Aside0.mk hb2
      have hc2 : w2.cell? ⟨w.heap.size, k, none⟩ = some (.string g) := pw_cell_below hb2 hc1
      clear hb2 hc hc1
      have HB5 := Aside0.mk (show Below wr.heap.size wr w2 from below_then HB3.out HB3.out.size HB4.out)
      have hh : hit f k = ((lower g).toList == (lower f).toList) := by unfold hit; rw [HG.out]
      cases hv : hit f k with
      | true =>
        rw [hv] at hh
        have hh2 := hh.symm
        have HV := Aside0.mk hv
        clear hh hv
        go_wp2
        go_ret
        exact ⟨by rw [kept_found HB2.out HN.out HV.out, ← HG.out]; rfl, below_then HB0.out HB0.out.size HB5.out⟩
      | false =>
        rw [hv] at hh
        have hh2 := hh.symm
        have HV := Aside0.mk hv
        clear hh hv
        go_wp2
        go_roundw
        case measure => simp [intOf]; omega
        case rel =>
          refine ⟨k + 1, by omega, by go_num, ⟨fun j hj => ?_⟩, ⟨?_⟩⟩
          · by_cases e : j = k
            · rw [e]; exact HV.out
            · exact HN.out j (by omega)
          · exact HB.out.trans (HB5.out.mono (by have := HB0.out.size; have := HB.out.size; simp at this; omega))
    · have hk5 : k = 5 := by omega
      subst hk5
      have HKN := Aside0.mk (kept_not HN.out)
      by_cases h30 : f.size ≤ 30
      · have h30b : decide (30 < (f.size : Int)) = false := by simp; omega
        go_wp2_with fail
        refine (rlower_calls f _ hs).mono ?_
        rintro e w2 ⟨rfl, hb2⟩
        have HB2 := Aside0.mk (below_then HB0.out HB0.out.size hb2)
        clear hb2
        cases hn : (lower f).toList == [110, 105, 108] with
        | true =>
          go_wp2
          go_ret
          exact ⟨by rw [HKN.out]; unfold keptO; rw [if_neg (by rintro ⟨_, h2, _⟩; exact h2 (by simpa [nilB] using hn))]; rfl, HB2.out⟩
        | false =>
          have HN2 := Aside0.mk hn
          go_wp2
          clear hn
          go_loopw [6, 5] (fun i d wr => ∃ k : Nat, k ≤ f.size ∧ i = .int .i64 k ∧ d = .bool (digTo f k) ∧ Aside0 (∀ j, j < k → okc (f.data.toList.getD j 0) = true) ∧ Aside0 (Below w.heap.size w wr)) (fun i _ _ => f.size - (intOf i).toNat)
          case atStart => exact ⟨0, by omega, rfl, rfl, ⟨fun j hj => absurd hj (by omega)⟩, HB2⟩
          case round =>
            obtain ⟨k, hk, rfl, rfl, HO, HB⟩ := hrel
            by_cases hlt : k < f.size
            · have hget : f.data.toList.getD k 0 = f[k] := getD_byte f k hlt
              have HG := Lib.hid hget
              clear hget
              by_cases h1 : (f[k].toNat : Int) < 33
              · have hno : okc f[k] = false := by unfold okc; simp; omega
                have HNO := Lib.hid hno
                clear hno
                go_wp2
                go_ret
                exact ⟨by rw [HKN.out, keptO_bad hlt (by rw [HG.out]; exact HNO.out)]; rfl, HB.out⟩
              · by_cases h2 : 126 < (f[k].toNat : Int)
                · have hno : okc f[k] = false := by unfold okc; simp; omega
                  have HNO := Lib.hid hno
                  clear hno
                  have h1b : decide ((f[k].toNat : Int) < 33) = false := by simpa using h1
                  go_wp2
                  go_ret
                  exact ⟨by rw [HKN.out, keptO_bad hlt (by rw [HG.out]; exact HNO.out)]; rfl, HB.out⟩
                · cases hb : bad.contains f[k] with
                  | true =>
                    have hno : okc f[k] = false := by unfold okc; rw [hb]; simp
                    have HNO := Lib.hid hno
                    have hbn := bad_nat hb
                    clear hno hb h1 h2
                    obtain ⟨cn, hcn⟩ : ∃ cn : Int, cn = f[k].toNat := ⟨_, rfl⟩
                    rw [← hcn] at hbn
                    rcases hbn with rfl | rfl | rfl | rfl | rfl | rfl | rfl | rfl | rfl | rfl | rfl | rfl
                    all_goals
                      have hcn2 := hcn.symm
                      clear hcn
                      go_wp2
                      go_ret
                      exact ⟨by rw [HKN.out, keptO_bad hlt (by rw [HG.out]; exact HNO.out)]; rfl, HB.out⟩
                  | false =>
                    have hno : okc f[k] = true := by unfold okc; rw [hb]; simp; omega
                    have HNO := Lib.hid hno
                    obtain ⟨n1, n2, n3, n4, n5, n6, n7, n8, n9, n10, n11, n12⟩ := not_bad_nat hb
                    have hds := digTo_succ f k hlt
                    have HDS := Lib.hid hds
                    have h1b : decide ((f[k].toNat : Int) < 33) = false := by simpa using h1
                    have h2b : decide (126 < (f[k].toNat : Int)) = false := by simpa using h2
                    clear hno hb hds
                    cases hd : digTo f k with
                    | false =>
                      have HDV : Hid ((digTo f k && dig f[k]) = false) := Lib.hid (by rw [hd]; rfl)
                      go_wp2_with fail
                      go_roundw
                      case measure => simp [intOf]; omega
                      case rel =>
                        refine ⟨k + 1, by omega, by go_num, ?_, ⟨fun j hj => ?_⟩, HB⟩
                        · rw [HDS.out, HDV.out]
                        · by_cases e : j = k
                          · rw [e, HG.out]; exact HNO.out
                          · exact HO.out j (by omega)
                    | true =>
                      by_cases p1 : 48 ≤ (f[k].toNat : Int)
                      · have p1b : decide (48 ≤ (f[k].toNat : Int)) = true := by simpa using p1
                        by_cases p2 : (f[k].toNat : Int) ≤ 57
                        · have p2b : decide ((f[k].toNat : Int) ≤ 57) = true := by simpa using p2
                          have HDV : Hid ((digTo f k && dig f[k]) = true) := Lib.hid (by rw [hd]; unfold dig; simp; omega)
                          go_wp2_with fail
                          go_roundw
                          case measure => simp [intOf]; omega
                          case rel =>
                            refine ⟨k + 1, by omega, by go_num, ?_, ⟨fun j hj => ?_⟩, HB⟩
                            · rw [HDS.out, HDV.out]
                            · by_cases e : j = k
                              · rw [e, HG.out]; exact HNO.out
                              · exact HO.out j (by omega)
                        · have p2b : decide ((f[k].toNat : Int) ≤ 57) = false := by simpa using p2
                          have HDV : Hid ((digTo f k && dig f[k]) = false) := Lib.hid (by rw [hd]; unfold dig; simp; omega)
                          go_wp2_with fail
                          go_roundw
                          case measure => simp [intOf]; omega
                          case rel =>
                            refine ⟨k + 1, by omega, by go_num, ?_, ⟨fun j hj => ?_⟩, HB⟩
                            · rw [HDS.out, HDV.out]
                            · by_cases e : j = k
                              · rw [e, HG.out]; exact HNO.out
                              · exact HO.out j (by omega)
                      · have p1b : decide (48 ≤ (f[k].toNat : Int)) = false := by simpa using p1
                        have HDV : Hid ((digTo f k && dig f[k]) = false) := Lib.hid (by rw [hd]; unfold dig; simp; omega)
                        go_wp2_with fail
                        go_roundw
                        case measure => simp [intOf]; omega
                        case rel =>
                          refine ⟨k + 1, by omega, by go_num, ?_, ⟨fun j hj => ?_⟩, HB⟩
                          · rw [HDS.out, HDV.out]
                          · by_cases e : j = k
                            · rw [e, HG.out]; exact HNO.out
                            · exact HO.out j (by omega)
            · have hks : k = f.size := by omega
              have hda : digTo f k = f.data.toList.all dig := by unfold digTo; rw [List.take_of_length_le (by simp; omega)]
              cases hd : digTo f k with
              | true =>
                rw [hd] at hda
                have HDA := Lib.hid hda
                clear hda
                go_wp2_with fail
                go_ret
                exact ⟨by rw [HKN.out]; unfold keptO; rw [if_neg (by rintro ⟨_, _, _, h⟩; rw [← HDA.out] at h; cases h)]; rfl, HB.out⟩
              | false =>
                rw [hd] at hda
                have HDA := Lib.hid hda
                clear hda
                go_wp2_with fail
                go_ret
                refine ⟨?_, HB.out⟩
                rw [HKN.out, keptO_ok h30 HN2.out (by rw [← hks]; exact HO.out) HDA.out.symm]
                rfl
      · have h30b : decide (30 < (f.size : Int)) = true := by simp; omega
        go_wp2
        go_ret
        exact ⟨by rw [HKN.out]; unfold keptO; rw [if_neg (by omega)]; rfl, HB0.out⟩
end Go.Proofs.YtnenlkojecicfaaDoor.V


namespace Go.Proofs.YtnenlkojecicfaaDoor.V
open Go.RowKit Go.Proofs.YtnenlkojecicfaaDoorW.PrintWords Go.Proofs.YtnenlkojecicfaaDoor.P

/-! ### what is chosen -/
def key (b : ByteArray) : List UInt8 := b.data.toList
theorem key_ext {a b : ByteArray} (h : key a = key b) : a = b := by
  unfold key at h
  cases a with | mk a =>
  cases b with | mk b =>
  congr 1
  exact Array.toList_inj.1 h
theorem met_nodup (fs : List ByteArray) (k : Nat) : (metTo fs k).Nodup := by
  have : ∀ (l acc : List ByteArray), acc.Nodup → (l.foldl addF acc).Nodup := by
    intro l
    induction l with
    | nil => exact fun acc h => h
    | cons a r ih =>
      intro acc h
      refine ih _ ?_
      unfold addF
      split
      · exact h
      split
      · exact h
      split
      · rename_i hc _
        rw [List.nodup_append]
        refine ⟨h, by simp, fun x hx y hy e => ?_⟩
        rw [List.mem_singleton.1 hy] at e
        subst e
        exact hc ((Lib.containsS_iff _ _).2 hx)
      · exact h
  exact this _ _ List.nodup_nil
def leK (x y : List UInt8) : Bool := decide (x ≤ y)
theorem sort_mem {M : List ByteArray} {x : ByteArray} : x ∈ sortF M ↔ x ∈ M := by
  unfold sortF
  constructor
  · intro h
    obtain ⟨b, hb, rfl⟩ := List.mem_map.1 h
    obtain ⟨m, hm, rfl⟩ := List.mem_map.1 ((List.mergeSort_perm _ _).mem_iff.1 hb)
    exact hm
  · intro h
    exact List.mem_map.2 ⟨key x, (List.mergeSort_perm _ _).mem_iff.2 (List.mem_map.2 ⟨x, h, rfl⟩), rfl⟩
theorem sort_rise {M : List ByteArray} (hM : M.Nodup) : (sortF M).Pairwise (fun a b => key a < key b) := by
  unfold sortF
  rw [List.pairwise_map]
  have h1 : ((M.map (·.data.toList)).mergeSort fun x y => decide (x ≤ y)).Pairwise (fun a b => decide (a ≤ b) = true) :=
    List.pairwise_mergeSort (le := fun x y : List UInt8 => decide (x ≤ y)) (fun a b c h1 h2 => by simp only [decide_eq_true_eq] at *; exact List.le_trans h1 h2) (fun a b => by
      simp only [Bool.or_eq_true, decide_eq_true_eq]
      exact List.le_total a b) _
  have h2 : ((M.map (·.data.toList)).mergeSort fun x y => decide (x ≤ y)).Nodup := by
    rw [(List.mergeSort_perm _ _).nodup_iff, List.nodup_iff_pairwise_ne, List.pairwise_map]
    exact (List.nodup_iff_pairwise_ne.1 hM).imp (fun hne e => hne (key_ext e))
  rw [List.nodup_iff_pairwise_ne] at h2
  refine (h1.and h2).imp (fun {a b} ⟨h3, h4⟩ => ?_)
  have h3' : a ≤ b := by simpa using h3
  show a < b
  refine List.not_le.1 (fun h5 => h4 (List.le_antisymm h3' h5))
/-- The least of those that are not out. -/
theorem choose_eq {M : List ByteArray} (hM : M.Nodup) {j : Nat} (hj : j < M.length) {x : ByteArray} (hx : x ∈ M) (hn : x ∉ (sortF M).take j) (hmin : ∀ y ∈ M, y ∉ (sortF M).take j → key x ≤ key y) : (sortF M)[j]? = some x := by
  have hr := sort_rise hM
  have hjl : j < (sortF M).length := by rw [sortF_len]; exact hj
  have hfresh : (sortF M)[j] ∉ (sortF M).take j := by
    intro hm
    obtain ⟨i, hi, e⟩ := List.mem_iff_getElem.1 hm
    rw [List.length_take] at hi
    rw [List.getElem_take] at e
    have := List.pairwise_iff_getElem.1 hr i j (by omega) hjl (by omega)
    rw [e] at this
    exact List.lt_irrefl _ this
  have h1 := hmin _ (sort_mem.1 (List.getElem_mem hjl)) hfresh
  obtain ⟨i, hi, e⟩ := List.mem_iff_getElem.1 (sort_mem.2 hx)
  have hij : ¬ i < j := by
    intro h
    exact hn (List.mem_iff_getElem.2 ⟨i, by rw [List.length_take]; omega, by rw [List.getElem_take]; exact e⟩)
  by_cases hlt : j < i
  · have := List.pairwise_iff_getElem.1 hr j i hjl hi hlt
    rw [e] at this
    exact absurd this (List.not_lt.2 h1)
  · have : i = j := by omega
    subst this
    rw [List.getElem?_eq_getElem hjl, e]
theorem left_over {M : List ByteArray} (hM : M.Nodup) {j : Nat} (hj : j < M.length) : ∃ y ∈ M, y ∉ (sortF M).take j := by
  have hr := sort_rise hM
  have hjl : j < (sortF M).length := by rw [sortF_len]; exact hj
  refine ⟨(sortF M)[j], sort_mem.1 (List.getElem_mem hjl), fun hm => ?_⟩
  obtain ⟨i, hi, e⟩ := List.mem_iff_getElem.1 hm
  rw [List.length_take] at hi
  rw [List.getElem_take] at e
  have := List.pairwise_iff_getElem.1 hr i j (by omega) hjl (by omega)
  rw [e] at this
  exact List.lt_irrefl _ this
/-- What is chosen among the first ones. -/
def Sel (M out : List ByteArray) (i : Nat) (q : Int) : Prop :=
  (q = -1 ∧ ∀ (t : Nat) (y : ByteArray), t < i → M[t]? = some y → y ∈ out) ∨
  (∃ (k : Nat) (x : ByteArray), q = k ∧ k < i ∧ M[k]? = some x ∧ x ∉ out ∧ ∀ (t : Nat) (y : ByteArray), t < i → M[t]? = some y → y ∉ out → key x ≤ key y)
theorem Sel.zero (M out : List ByteArray) : Sel M out 0 (-1) := .inl ⟨rfl, fun t y h => absurd h (Nat.not_lt_zero t)⟩
section
variable {M out : List ByteArray} {i : Nat} {q : Int} {x : ByteArray}
theorem Sel.skip (h : Sel M out i q) (hx : M[i]? = some x) (ho : x ∈ out) : Sel M out (i + 1) q := by
  rcases h with ⟨h1, h2⟩ | ⟨k, y, h1, h2, h3, h4, h5⟩
  · refine .inl ⟨h1, fun t z ht hz => ?_⟩
    by_cases e : t = i
    · subst e; rw [hx] at hz; injection hz with hz; rw [← hz]; exact ho
    · exact h2 t z (by omega) hz
  · refine .inr ⟨k, y, h1, by omega, h3, h4, fun t z ht hz hn => ?_⟩
    by_cases e : t = i
    · subst e; rw [hx] at hz; injection hz with hz; rw [← hz] at hn; exact absurd ho hn
    · exact h5 t z (by omega) hz hn
theorem Sel.first (h : Sel M out i (-1)) (hx : M[i]? = some x) (ho : x ∉ out) : Sel M out (i + 1) i := by
  rcases h with ⟨h1, h2⟩ | ⟨k, y, h1, _⟩
  · refine .inr ⟨i, x, rfl, by omega, hx, ho, fun t z ht hz hn => ?_⟩
    by_cases e : t = i
    · subst e; rw [hx] at hz; injection hz with hz; rw [← hz]; exact List.le_refl _
    · exact absurd (h2 t z (by omega) hz) hn
  · omega
theorem Sel.less {k : Nat} {y : ByteArray} (h : Sel M out i k) (hy : M[k]? = some y) (hx : M[i]? = some x) (ho : x ∉ out) (hl : key x < key y) : Sel M out (i + 1) i := by
  rcases h with ⟨h1, _⟩ | ⟨k', y', h1, h2, h3, h4, h5⟩
  · omega
  · have e : k' = k := by omega
    subst e
    rw [hy] at h3
    injection h3 with h3
    subst h3
    refine .inr ⟨i, x, rfl, by omega, hx, ho, fun t z ht hz hn => ?_⟩
    by_cases e : t = i
    · subst e; rw [hx] at hz; injection hz with hz; rw [← hz]; exact List.le_refl _
    · exact List.le_trans (List.le_of_lt hl) (h5 t z (by omega) hz hn)
theorem Sel.stay {k : Nat} {y : ByteArray} (h : Sel M out i k) (hy : M[k]? = some y) (hx : M[i]? = some x) (ho : x ∉ out) (hl : ¬ key x < key y) : Sel M out (i + 1) k := by
  rcases h with ⟨h1, _⟩ | ⟨k', y', h1, h2, h3, h4, h5⟩
  · omega
  · have e : k' = k := by omega
    subst e
    rw [hy] at h3
    injection h3 with h3
    subst h3
    refine .inr ⟨k', y, rfl, by omega, hy, h4, fun t z ht hz hn => ?_⟩
    by_cases e : t = i
    · subst e; rw [hx] at hz; injection hz with hz; rw [← hz]; exact List.not_lt.1 hl
    · exact h5 t z (by omega) hz hn
theorem Sel.done (hM : M.Nodup) {j : Nat} (hj : j < M.length) (h : Sel M ((sortF M).take j) M.length q) : ∃ (k : Nat) (x : ByteArray), q = k ∧ k < M.length ∧ M[k]? = some x ∧ (sortF M)[j]? = some x := by
  rcases h with ⟨_, h2⟩ | ⟨k, x, h1, h2, h3, h4, h5⟩
  · obtain ⟨y, hy, hn⟩ := left_over hM hj
    obtain ⟨t, ht⟩ := List.getElem?_of_mem hy
    exact absurd (h2 t y (List.getElem?_eq_some_iff.1 ht).1 ht) hn
  · refine ⟨k, x, h1, h2, h3, choose_eq hM hj (List.mem_of_getElem? h3) h4 (fun y hy hn => ?_)⟩
    obtain ⟨t, ht⟩ := List.getElem?_of_mem hy
    exact h5 t y (List.getElem?_eq_some_iff.1 ht).1 ht hn
theorem Sel.cases (h : Sel M out i q) : q = -1 ∨ ∃ (k : Nat) (y : ByteArray), q = k ∧ k < i ∧ M[k]? = some y := by
  rcases h with ⟨h1, _⟩ | ⟨k, y, h1, h2, h3, _⟩
  · exact .inl h1
  · exact .inr ⟨k, y, h1, h2, h3⟩
end

/-- in: is a string one of a row's? -/
theorem rin_calls {B : Nat} {w : World} {v : Value} {fs : List ByteArray} (h : Fl B w v fs) (x : ByteArray) (hl : fs.length ≤ 1000000) :
    Calls Tryd.prog 57 #[.string x, v] w fun e w' => e = .returned (.bool (Lib.containsS fs x)) ∧ w = w' := by
  obtain ⟨A, c, rfl, hlc, hr⟩ := h
  have HR := Aside0.mk hr.now
  clear hr
  go_enter Tryd.func57, Tryd.ntmps57
  go_wp2_with fail
  go_loop [5] (fun i => ∃ k : Nat, k ≤ fs.length ∧ i = .int .i64 k ∧ Aside0 (x ∉ fs.take k)) (fun i => fs.length - (intOf i).toNat)
  case atStart => exact ⟨0, Nat.zero_le _, rfl, ⟨by simp⟩⟩
  case round =>
    obtain ⟨k, hk, rfl, HN⟩ := hrel
    by_cases hlt : k < fs.length
    · obtain ⟨ad, f, rfl, hx, hcell⟩ := str_at HR.out k hlt
      have HX := Lib.hid hx
      clear hx
      cases he : f.toList == x.toList with
      | true =>
        have HE := Lib.hid (show f = x from bytes_ext (by simpa using he))
        go_wp2_with fail
        go_ret
        refine ⟨?_, rfl⟩
        rw [show Lib.containsS fs x = true from (Lib.containsS_iff _ _).2 (by rw [← HE.out]; exact List.mem_of_getElem? HX.out)]
        rfl
      | false =>
        have HE := Lib.hid (show f ≠ x from fun e => by subst e; simp at he)
        go_wp2_with fail
        go_round
        case measure => simp [intOf]; omega
        case rel =>
          refine ⟨k + 1, by omega, by go_num, ⟨?_⟩⟩
          rw [take_snoc HX.out]
          intro hm
          rcases List.mem_append.1 hm with hm | hm
          · exact HN.out hm
          · exact HE.out (List.mem_singleton.1 hm).symm
    · have hks : k = fs.length := by omega
      subst hks
      have hno : Lib.containsS fs x = false := by
        cases hc : Lib.containsS fs x with
        | false => rfl
        | true =>
          have := HN.out
          rw [List.take_length] at this
          exact absurd ((Lib.containsS_iff _ _).1 hc) this
      have HNO := Lib.hid hno
      clear hno
      go_wp2_with fail
      go_ret
      exact ⟨by rw [HNO.out]; rfl, rfl⟩

def lenOf : Value → Nat
  | .slice _ n _ => n
  | _ => 0
theorem rin_q {w : World} {base : Nat} {v : Value} {fs : List ByteArray} (h : SRow w base v fs) (x : ByteArray) (hl : fs.length ≤ 1000000) (n : Nat) :
    Calls Tryd.prog 57 #[.string x, v] (w.drewN n) fun e w' => e = .returned (.bool (Lib.containsS fs x)) ∧ w' = w.drewN n :=
  (rin_calls ((h.below (pw_below_drewN (Below.refl _ _) n)).fl 0) x hl).mono fun _ _ ⟨he, hw⟩ => ⟨he, hw.symm⟩
theorem orow_low3 {α : Type} {R : α → List Value → Prop} {e size base b : Nat} {w : World} {v : Value} {ps : List α} (h : OwnRow R e size w base v ps) (hb : b ≤ base) : OwnRow R e size w b v ps := by
  obtain ⟨inner, ⟨h1, h2⟩, hr⟩ := h
  refine ⟨inner, ⟨h1, ?_⟩, hr⟩
  rcases h2 with h2 | ⟨g, cap, cur, hv, hg, h3⟩
  · exact .inl h2
  · exact .inr ⟨g, cap, cur, hv, Nat.le_trans hb hg, h3⟩
theorem rin_qb {w : World} {base : Nat} {v : Value} {fs : List ByteArray} {x : ByteArray} {b : Bool} (h : SRow w base v fs) (hl : fs.length ≤ 1000000) (hb : Lib.containsS fs x = b) (n : Nat) :
    Calls Tryd.prog 57 #[.string x, v] (w.drewN n) fun e w' => e = .returned (.bool b) ∧ w' = w.drewN n := by
  rw [← hb]
  exact rin_q h x hl n
theorem SRow.at_ {w : World} {base n c : Nat} {A : Option Addr} {fs : List ByteArray} (h : SRow w base (.slice A n c) fs) (hne : 0 < fs.length) : ∃ ad, A = some ad ∧ ∀ (j : Nat) (y : ByteArray), fs[j]? = some y → w.cell? (ad.add j) = some (.string y) := by
  obtain ⟨A', c', e, _, hr⟩ := h.fl 0
  injection e with e1 _ _
  subst e1
  obtain ⟨ad, _, rfl, _⟩ := str_at hr.now 0 hne
  refine ⟨ad, rfl, fun j y hj => ?_⟩
  obtain ⟨ad', f, e, hf, hc⟩ := str_at hr.now j (List.getElem?_eq_some_iff.1 hj).1
  injection e with e
  subst e
  rw [hj] at hf
  injection hf with hf
  rw [hf]
  exact hc
set_option maxRecDepth 100000 in
set_option maxHeartbeats 4000000 in
theorem rflags_calls (A : Option Addr) (c : Nat) (fs : List ByteArray) (w : World) (hr : Kd.C Kd.string w A fs.length fs) (hsm : ∀ f ∈ fs, f.size ≤ 140737488351232) :
    Calls Tryd.prog 45 #[.slice A fs.length c] w fun e w' => ∃ v : Value, e = .returned v ∧ SRow w' w.heap.size v (flagsF fs) ∧ Below w.heap.size w w' := by
  have hmax := hr.2.1
  go_enter Tryd.func45, Tryd.ntmps45
  go_wp2
  go_loopw [3, 4] (fun v i wr => ∃ k : Nat, k ≤ fs.length ∧ i = .int .i64 k ∧ Aside0 (SRow wr w.heap.size v (metTo fs k)) ∧ Aside0 (Below w.heap.size w wr)) (fun _ i _ => fs.length - (intOf i).toNat)
  case atStart => exact ⟨0, Nat.zero_le _, rfl, ⟨OwnRow.none_ _ _ _ _ _⟩, ⟨Below.refl _ _⟩⟩
  case round =>
    obtain ⟨k, hk, rfl, HO, HB⟩ := hrel
    have HW := Aside0.mk HB.out.size
    by_cases hlt : k < fs.length
    · obtain ⟨ad, f, rfl, hx, hcell⟩ := str_at (Kd.C_below hr HB.out) k hlt
      have hsf := hsm f (List.mem_of_getElem? hx)
      have HX := Lib.hid hx
      clear hx
      go_wp2_with fail
      refine (rkept_calls f _ hsf).mono ?_
      rintro e w1 ⟨rfl, hb1⟩
      have HB1 := Aside0.mk hb1
      clear hb1
      obtain ⟨g, hg⟩ : ∃ g, g = keptF f := ⟨_, rfl⟩
      rw [← hg]
      have HG := Lib.hid hg
      clear hg
      cases he : g.toList.isEmpty with
      | true =>
        have HE := Aside0.mk he
        have he2 : g.toList = [] := by simpa using he
        go_wp2
        go_roundw
        case measure => simp [intOf]; omega
        case rel =>
          have ha : metTo fs (k + 1) = metTo fs k := by rw [metTo_succ HX.out]; unfold addF; rw [← HG.out, if_pos HE.out]
          exact ⟨k + 1, by omega, by go_num, ⟨by rw [ha]; exact HO.out.below HB1.out⟩, ⟨below_then HB.out HW.out HB1.out⟩⟩
      | false =>
        have HE := Aside0.mk he
        have hml : (metTo fs k).length ≤ 20 := metTo_len fs k
        go_wp2_with fail
        refine (rin_calls (B := w.heap.size) ((HO.out.below HB1.out).fl w.heap.size) g (by omega)).mono ?_
        rintro e w2 ⟨rfl, rfl⟩
        cases hcs : Lib.containsS (metTo fs k) g with
        | true =>
          have HC := Aside0.mk hcs
          go_wp2
          go_roundw
          case measure => simp [intOf]; omega
          case rel =>
            have ha : metTo fs (k + 1) = metTo fs k := by rw [metTo_succ HX.out]; unfold addF; rw [← HG.out, if_neg (by rw [HE.out]; simp), if_pos HC.out]
            exact ⟨k + 1, by omega, by go_num, ⟨by rw [ha]; exact HO.out.below HB1.out⟩, ⟨below_then HB.out HW.out HB1.out⟩⟩
        | false =>
          have HC := Aside0.mk hcs
          obtain ⟨Av, cv, hv, _⟩ := OwnRow.slice_ HO.out
          subst hv
          by_cases h20 : (metTo fs k).length < 20
          · go_wp2_with (at_builtin; (refine OwnRow.append (R := fun x cs => cs = [Value.string x]) (w0 := w1) w.heap.size rfl (.tmp 33) (.tmp 35) 31 9 _ 1 16 rfl Tryd.underlying31 info9 rfl (by decide) (by omega) _ (metTo fs k) g [.string g] rfl rfl rfl rfl (by intro u hu; rw [List.mem_singleton.1 hu]; rfl) ?ho (Below.refl _ _) ?hb (by omega) ?_); (case ho => exact HO.out.below HB1.out); (case hb => exact Nat.le_trans HW.out HB1.out.size); intro v1 w3 ho1 hb3 hg3 hat3)
            go_roundw
            case measure => simp [intOf]; omega
            case rel =>
              have ha : metTo fs (k + 1) = metTo fs k ++ [g] := by rw [metTo_succ HX.out]; unfold addF; rw [← HG.out, if_neg (by rw [HE.out]; simp), if_neg (by rw [HC.out]; simp), if_pos h20]
              exact ⟨k + 1, by omega, by go_num, ⟨by rw [ha]; exact ho1⟩, ⟨(below_then HB.out HW.out HB1.out).trans hb3⟩⟩
          · go_wp2
            go_roundw
            case measure => simp [intOf]; omega
            case rel =>
              have ha : metTo fs (k + 1) = metTo fs k := by rw [metTo_succ HX.out]; unfold addF; rw [← HG.out, if_neg (by rw [HE.out]; simp), if_neg (by rw [HC.out]; simp), if_neg (by omega)]
              exact ⟨k + 1, by omega, by go_num, ⟨by rw [ha]; exact HO.out.below HB1.out⟩, ⟨below_then HB.out HW.out HB1.out⟩⟩
    · have hks : k = fs.length := by omega
      subst hks
      have hme : metTo fs fs.length = metF fs := by unfold metTo; rw [List.take_length]; rfl
      rw [hme] at HO
      have HND : Aside0 (metF fs).Nodup := ⟨by rw [← hme]; exact met_nodup fs _⟩
      obtain ⟨M, hM⟩ : ∃ M, M = metF fs := ⟨_, rfl⟩
      rw [← hM] at HO HND
      have hMl : M.length ≤ 20 := by rw [hM]; exact metF_len fs
      have HMM := Lib.hid hM
      clear hM hme
      obtain ⟨Av, cv, hv, hcv⟩ := OwnRow.slice_ HO.out
      subst hv
      obtain ⟨N, hN⟩ : ∃ N, N = wr.heap.size := ⟨_, rfl⟩
      have HN : Aside0 (∀ k, (Value.slice Av M.length cv).ownBlock = some k → k < N) := ⟨fun k hk => by
        rw [hN]
        obtain ⟨_, cells, hc⟩ := orow_typed HO.out k hk
        exact lt_of_block hc⟩
      have HNW : Aside0 (N ≤ wr.heap.size) := ⟨by omega⟩
      have HWN : Aside0 (w.heap.size ≤ N) := ⟨by rw [hN]; exact HB.out.size⟩
      clear hN
      go_wp2_with fail
      go_loopw [6] (fun v wr => ∃ j : Nat, j ≤ M.length ∧ (∃ A6 c6, v = .slice A6 j c6) ∧ Aside0 (SRow wr N v ((sortF M).take j)) ∧ Aside0 (SRow wr w.heap.size (.slice Av M.length cv) M) ∧ Aside0 (Below w.heap.size w wr) ∧ Aside0 (N ≤ wr.heap.size)) (fun v _ => M.length - lenOf v)
      case atStart => exact ⟨0, Nat.zero_le _, ⟨none, 0, rfl⟩, ⟨OwnRow.none_ _ _ _ _ _⟩, HO, HB, HNW⟩
      case round =>
        clear HO HB HNW HW
        obtain ⟨j, hj, ⟨A6, c6, rfl⟩, HS, HO, HB, HNW⟩ := hrel
        obtain ⟨wp, rfl⟩ : ∃ wp : World, wp = wr := ⟨_, rfl⟩
        by_cases hlt : j < M.length
        · have hsl : ((sortF M).take j).length = j := by rw [List.length_take, sortF_len]; omega
          obtain ⟨out, hout⟩ : ∃ out, out = (sortF M).take j := ⟨_, rfl⟩
          rw [← hout] at HS hsl
          have HOUT := Lib.hid hout
          have HSL := Lib.hid hsl
          clear hout hsl
          go_wp2_with fail
          go_loopw [8, 7] (fun i q wr => ∃ (t nq : Nat) (k : Int), t ≤ M.length ∧ i = .int .i64 t ∧ q = .int .i64 k ∧ wr = wp.drewN nq ∧ Aside0 (Sel M out t k)) (fun i _ _ => M.length - (intOf i).toNat)
          case atStart => exact ⟨0, 0, -1, Nat.zero_le _, rfl, rfl, rfl, ⟨Sel.zero _ _⟩⟩
          case round =>
            obtain ⟨t, n0, k, ht, rfl, rfl, hwr, HSEL⟩ := hrel
            have HWR := Lib.hid hwr
            have hbq : Below wp.heap.size wp wr := by rw [hwr]; exact pw_below_drewN (Below.refl _ _) _
            have HS2 := Aside0.mk (HS.out.below hbq)
            have HO2 := Aside0.mk (HO.out.below hbq)
            have HB2 := Aside0.mk (HB.out.trans (hbq.mono HB.out.size))
            have HNW2 : Aside0 (N ≤ wr.heap.size) := ⟨Nat.le_trans HNW.out hbq.size⟩
            clear hwr hbq
            by_cases htl : t < M.length
            · obtain ⟨ad, hA, hcc⟩ := SRow.at_ HO2.out (by omega)
              obtain ⟨x, hx⟩ : ∃ x, M[t]? = some x := ⟨_, List.getElem?_eq_getElem htl⟩
              have hcx := hcc t x hx
              have hol : out.length ≤ 1000000 := by have := HSL.out; omega
              have HOL := Lib.hid hol
              have HX := Lib.hid hx
              subst hA
              clear hol hx
              cases hin : Lib.containsS out x with
              | true =>
                have HIN := Lib.hid ((Lib.containsS_iff _ _).1 hin)
                have HI := Lib.hid hin
                clear hcc hin
                go_wp2_with fail
                go_quiet ((go_at_call 57; exact Calls.quiet_of_same (rin_qb HS2.out HOL.out HI.out _)))
                go_wp2_with fail
                go_roundw
                case measure => simp [intOf]; omega
                case rel => exact ⟨t + 1, n0 + nq, k, by omega, by go_num, rfl, by rw [HWR.out, World.drewN_drewN], ⟨HSEL.out.skip HX.out HIN.out⟩⟩
              | false =>
                have HIN := Lib.hid (show x ∉ out from fun hm => by rw [(Lib.containsS_iff _ _).2 hm] at hin; cases hin)
                have HI := Lib.hid hin
                clear hin
                rcases HSEL.out.cases with rfl | ⟨kk, y, rfl, hkt, hy⟩
                · clear hcc
                  go_wp2_with fail
                  go_quiet ((go_at_call 57; exact Calls.quiet_of_same (rin_qb HS2.out HOL.out HI.out _)))
                  go_wp2_with fail
                  go_roundw
                  case measure => simp [intOf]; omega
                  case rel => exact ⟨t + 1, n0 + nq, t, by omega, by go_num, rfl, by rw [HWR.out, World.drewN_drewN], ⟨HSEL.out.first HX.out HIN.out⟩⟩
                · have hcy := hcc kk y hy
                  have HY := Lib.hid hy
                  have hkb : decide ((kk : Int) < 0) = false := by simp
                  have hkl : kk < M.length := by omega
                  clear hcc hy
                  cases hbl : Op.bytesLess x.toList y.toList with
                  | true =>
                    have HBL := Lib.hid (show key x < key y by rw [Go.Proofs.bytesLess_eq] at hbl; have := of_decide_eq_true hbl; rwa [Lib.toList_data, Lib.toList_data] at this)
                    go_wp2_with fail
                    go_quiet ((go_at_call 57; exact Calls.quiet_of_same (rin_qb HS2.out HOL.out HI.out _)))
                    go_wp2_with fail
                    go_roundw
                    case measure => simp [intOf]; omega
                    case rel => exact ⟨t + 1, n0 + nq, t, by omega, by go_num, rfl, by rw [HWR.out, World.drewN_drewN], ⟨HSEL.out.less HY.out HX.out HIN.out HBL.out⟩⟩
                  | false =>
                    have HBL := Lib.hid (show ¬ key x < key y by rw [Go.Proofs.bytesLess_eq] at hbl; have := of_decide_eq_false hbl; rwa [Lib.toList_data, Lib.toList_data] at this)
                    go_wp2_with fail
                    go_quiet ((go_at_call 57; exact Calls.quiet_of_same (rin_qb HS2.out HOL.out HI.out _)))
                    go_wp2_with fail
                    go_roundw
                    case measure => simp [intOf]; omega
                    case rel => exact ⟨t + 1, n0 + nq, kk, by omega, by go_num, rfl, by rw [HWR.out, World.drewN_drewN], ⟨HSEL.out.stay HY.out HX.out HIN.out HBL.out⟩⟩
            · have hts : t = M.length := by omega
              subst hts
              have HSEL2 := HSEL.out
              rw [HOUT.out] at HSEL2
              obtain ⟨kk, x, rfl, hkl, hx, hsx⟩ := HSEL2.done HND.out hlt
              obtain ⟨ad, hA, hcc⟩ := SRow.at_ HO2.out (by omega)
              have hcx := hcc kk x hx
              subst hA
              have HSX := Lib.hid hsx
              clear hcc hx hsx HSEL2 HSEL
              go_wp2_with (at_builtin; (refine OwnRow.append (R := fun x cs => cs = [Value.string x]) (w0 := wr) N rfl (.tmp 71) (.tmp 76) 31 9 _ 1 16 rfl Tryd.underlying31 info9 rfl (by decide) (by omega) _ out x [.string x] rfl rfl rfl rfl (by intro u hu; rw [List.mem_singleton.1 hu]; rfl) ?ho (Below.refl _ _) ?hb ?hl ?_); (case ho => exact HS2.out); (case hb => exact HNW2.out); (case hl => (have := HSL.out; omega)); intro v1 w3 ho1 hb3 hg3 hat3)
              obtain ⟨A7, c7, hv7, _⟩ := OwnRow.slice_ ho1
              have hl7 : (out ++ [x]).length = j + 1 := by have := HSL.out; simp; omega
              rw [hl7] at hv7
              subst hv7
              have hno : (sortF M).take (j + 1) = out ++ [x] := by rw [take_snoc HSX.out, HOUT.out]
              have HNO := Lib.hid hno
              clear hl7 hno
              go_roundw
              case measure => simp [lenOf]; omega
              case rel => exact ⟨j + 1, by omega, ⟨A7, c7, rfl⟩, ⟨by rw [HNO.out]; exact ho1⟩, ⟨orow_move HO2.out (fun k hk => hb3.block k (HN.out k hk)) (fun _ _ hp => hp)⟩, ⟨HB2.out.trans (hb3.mono HWN.out)⟩, ⟨Nat.le_trans HNW2.out hb3.size⟩⟩
        · have hjs : j = M.length := by omega
          subst hjs
          go_wp2_with fail
          go_ret
          refine ⟨_, rfl, ?_, HB.out⟩
          have := HS.out
          rw [List.take_of_length_le (by rw [sortF_len]; exact Nat.le_refl _)] at this
          unfold flagsF
          rw [← HMM.out]
          exact orow_low3 this HWN.out
end Go.Proofs.YtnenlkojecicfaaDoor.V
