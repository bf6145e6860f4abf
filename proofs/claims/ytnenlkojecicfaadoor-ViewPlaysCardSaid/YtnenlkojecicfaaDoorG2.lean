/- The looks of a view: Count, UID, Max, UIDs. -/
import Derived.Test.YtnenlkojecicfaaDoorG0
set_option linter.unusedVariables false
set_option linter.unusedSimpArgs false
namespace Go.Proofs.YtnenlkojecicfaaDoor.V
open Go.RowKit Go.Proofs.YtnenlkojecicfaaDoorW.PrintWords Go.Proofs.YtnenlkojecicfaaDoor.P

/-- Place k of a row of places: its cells. -/
theorem place_at {tp B base : Nat} {w : World} {lv : Value} {S : List S74} (h : OwnRow (PlaceAt B w) tp 2 w base lv S) {k : Nat} {p : S74} (hp : S[k]? = some p) :
    ∃ g cap v, lv = .slice (some ⟨g, 0, none⟩) S.length cap ∧ w.cell? ⟨g, k * 2, none⟩ = some (.int .i64 p.f0) ∧ w.cell? ⟨g, k * 2 + 1, none⟩ = some v ∧ Fl B w v p.f1 ∧ S.length ≤ cap ∧ cap ≤ 9223372036854775807 := by
  obtain ⟨inner, ho, hr⟩ := h
  have hk := (List.getElem?_eq_some_iff.1 hp).1
  obtain ⟨g, cap, hv, _, _⟩ := ho.form (by omega)
  subst hv
  obtain ⟨v, hc, hf⟩ := hr.2 k p hp
  have hl := hr.1
  have h0 : inner[k * 2]? = some (.int .i64 p.f0) := by
    have := congrArg (fun l => l[0]?) hc
    simpa [List.getElem?_take, List.getElem?_drop] using this
  have h1 : inner[k * 2 + 1]? = some v := by
    have := congrArg (fun l => l[1]?) hc
    simpa [List.getElem?_take, List.getElem?_drop] using this
  refine ⟨g, cap, v, rfl, ?_, ?_, hf, ?_⟩
  · have := ho.cells (g := g) rfl _ _ h0
    rwa [add_plain] at this
  · have := ho.cells (g := g) rfl _ _ h1
    rwa [add_plain] at this
  · rcases ho.2 with ⟨he, _⟩ | ⟨g', cap', cur, he, _, _, h1, h2, _⟩
    · cases he
    · injection he with _ _ e3
      subst e3
      exact ⟨h1, by simpa [maxLen] using h2⟩

section
variable {B g : Nat} {w : World} {lv : Value} {S : List S74} {top : Int}
set_option maxRecDepth 100000 in
theorem pcount_calls (hv : ViewAt 70 74 B w g lv S top) : Calls Tryd.prog 48 #[.pointer (some ⟨g, 0, none⟩)] w fun e w' => e = .returned (.int .i64 S.length) ∧ w = w' := by
  obtain ⟨A, c, rfl, _⟩ := hv.slice
  have h0 := hv.c0
  clear hv
  go_enter Tryd.func48, Tryd.ntmps48
  go_wp2
  go_ret
  exact ⟨rfl, rfl⟩
set_option maxRecDepth 100000 in
theorem count_calls (hv : ViewAt 70 74 B w g lv S top) : Calls Tryd.prog 25 #[.pointer (some ⟨g, 0, none⟩)] w fun e w' => e = .returned (.int .i64 S.length) ∧ w = w' := by
  have HV := Aside0.mk hv
  clear hv
  go_enter Tryd.func25, Tryd.ntmps25
  go_wp2_with (go_at_call 48; refine (pcount_calls HV.out).mono ?_; rintro e w' ⟨rfl, rfl⟩)
  go_ret
  exact ⟨rfl, rfl⟩
/-- The UID of a place, 0 without it. -/
def uidOf (S : List S74) (n : Int) : Int := if 1 ≤ n ∧ n ≤ S.length then (S.getD (n - 1).toNat z74).f0 else 0
set_option maxRecDepth 100000 in
theorem puid_calls (hv : ViewAt 70 74 B w g lv S top) (n : Int) (hn : -9223372036854775808 ≤ n ∧ n ≤ 9223372036854775807) : Calls Tryd.prog 49 #[.pointer (some ⟨g, 0, none⟩), .int .i64 n] w fun e w' => e = .returned (.int .i64 (uidOf S n)) ∧ w = w' := by
  obtain ⟨A, c, hlv, _⟩ := hv.slice
  have h0 := hv.c0
  rw [hlv] at h0
  have HV := Aside0.mk hv
  have HL := Lib.hid hlv
  clear hv hlv
  by_cases h1 : 1 ≤ n
  · by_cases h2 : n ≤ S.length
    · obtain ⟨k, rfl⟩ : ∃ k : Nat, n = k + 1 := ⟨(n - 1).toNat, by omega⟩
      have hk : k < S.length := by omega
      have hp : S[k]? = some (S[k]) := List.getElem?_eq_getElem hk
      obtain ⟨b, cap, v, hv2, hc, _⟩ := place_at HV.out.row hp
      have hA : A = some ⟨b, 0, none⟩ := by
        rw [HL.out] at hv2
        injection hv2
      subst hA
      clear hv2
      go_enter Tryd.func49, Tryd.ntmps49
      go_wp2
      go_ret
      refine ⟨?_, rfl⟩
      unfold uidOf
      rw [if_pos (by omega)]
      have e : ((k : Int) + 1 - 1).toNat = k := by omega
      rw [e, List.getD_eq_getElem?_getD, hp]
      rfl
    · go_enter Tryd.func49, Tryd.ntmps49
      go_wp2
      go_ret
      exact ⟨by unfold uidOf; rw [if_neg (by omega)]; rfl, rfl⟩
  · go_enter Tryd.func49, Tryd.ntmps49
    go_wp2
    go_ret
    exact ⟨by unfold uidOf; rw [if_neg (by omega)]; rfl, rfl⟩
set_option maxRecDepth 100000 in
theorem uid_calls (hv : ViewAt 70 74 B w g lv S top) (n : Int) (hn : -9223372036854775808 ≤ n ∧ n ≤ 9223372036854775807) : Calls Tryd.prog 26 #[.pointer (some ⟨g, 0, none⟩), .int .i64 n] w fun e w' => e = .returned (.int .i64 (uidOf S n)) ∧ w = w' := by
  have HV := Aside0.mk hv
  have HN := Aside0.mk hn
  clear hv hn
  go_enter Tryd.func26, Tryd.ntmps26
  go_wp2_with (go_at_call 49; refine (puid_calls HV.out n HN.out).mono ?_; rintro e w' ⟨rfl, rfl⟩)
  go_ret
  exact ⟨rfl, rfl⟩
set_option maxRecDepth 100000 in
theorem pmax_calls (hv : ViewAt 70 74 B w g lv S top) (hl : S.length ≤ 1000000) : Calls Tryd.prog 37 #[.pointer (some ⟨g, 0, none⟩)] w fun e w' => e = .returned (.int .i64 (uidOf S S.length)) ∧ w = w' := by
  obtain ⟨A, c, hlv, _⟩ := hv.slice
  have h0 := hv.c0
  rw [hlv] at h0
  have HV := Aside0.mk hv
  have HL := Lib.hid hlv
  clear hv hlv
  go_enter Tryd.func37, Tryd.ntmps37
  go_wp2_with (go_at_call 49; refine (puid_calls HV.out _ (by omega)).mono ?_; rintro e w' ⟨rfl, rfl⟩)
  go_ret
  exact ⟨rfl, rfl⟩
set_option maxRecDepth 100000 in
theorem max_calls (hv : ViewAt 70 74 B w g lv S top) (hl : S.length ≤ 1000000) : Calls Tryd.prog 13 #[.pointer (some ⟨g, 0, none⟩)] w fun e w' => e = .returned (.int .i64 (uidOf S S.length)) ∧ w = w' := by
  have HV := Aside0.mk hv
  clear hv
  go_enter Tryd.func13, Tryd.ntmps13
  go_wp2_with (go_at_call 37; refine (pmax_calls HV.out hl).mono ?_; rintro e w' ⟨rfl, rfl⟩)
  go_ret
  exact ⟨rfl, rfl⟩
end
/-- Numbers in a row of one's own. -/
def IRow (w : World) (base : Nat) (v : Value) (ns : List Int) : Prop := OwnRow (fun x cs => cs = [Value.int .i64 x]) 3 1 w base v ns
theorem IRow.below {w w1 : World} {base : Nat} {v : Value} {ns : List Int} (h : IRow w base v ns) (hb : Below w.heap.size w w1) : IRow w1 base v ns := OwnRow.below h hb
section
variable {B g : Nat} {w : World} {lv : Value} {S : List S74} {top : Int}
set_option maxRecDepth 100000 in
set_option maxHeartbeats 2000000 in
theorem puids_calls (hv : ViewAt 70 74 B w g lv S top) (hl : S.length ≤ 1000000) : Calls Tryd.prog 38 #[.pointer (some ⟨g, 0, none⟩)] w fun e w' => ∃ v : Value, e = .returned v ∧ IRow w' w.heap.size v (S.map (·.f0)) ∧ Below w.heap.size w w' := by
  obtain ⟨A, c, hlv, _⟩ := hv.slice
  have h0 := hv.c0
  rw [hlv] at h0
  have HV := Aside0.mk hv
  have HL := Lib.hid hlv
  clear hv hlv
  go_enter Tryd.func38, Tryd.ntmps38
  go_wp2
  clear h0
  go_loopw [3, 11] (fun v i wr => ∃ k : Nat, k ≤ S.length ∧ i = .int .i64 k ∧ Aside0 (IRow wr w.heap.size v ((S.take k).map (·.f0))) ∧ Aside0 (Below w.heap.size w wr)) (fun _ i _ => S.length - (intOf i).toNat)
  case atStart => exact ⟨0, Nat.zero_le _, rfl, ⟨OwnRow.none_ _ _ _ _ _⟩, ⟨Below.refl _ _⟩⟩
  case round =>
    obtain ⟨k, hk, rfl, HO, HB⟩ := hrel
    have HW := Aside0.mk HB.out.size
    by_cases hlt : k < S.length
    · have hp : S[k]? = some (S[k]) := List.getElem?_eq_getElem hlt
      obtain ⟨b, cap, v2, hv2, hc, hc2, hf2, _⟩ := place_at (HV.out.below HB.out).row hp
      have hA : A = some ⟨b, 0, none⟩ := by
        rw [HL.out] at hv2
        injection hv2
      subst hA
      clear hv2
      obtain ⟨p, hpp⟩ : ∃ p, p = S[k] := ⟨_, rfl⟩
      rw [← hpp] at hc hf2
      have HP := Lib.hid hpp
      clear hpp hp
      obtain ⟨Af, cf, rfl, _⟩ := hf2
      go_wp2_with (at_builtin; (refine app_plain (fun x cs => cs = [Value.int .i64 x]) w.heap.size rfl (.tmp 15) (.tmp 18) 34 3 _ 1 8 rfl Tryd.underlying34 info3 rfl (by decide) (by omega) _ ((S.take k).map (·.f0)) p.f0 [.int .i64 p.f0] rfl _ rfl ?hm rfl rfl (by intro u hu; rw [List.mem_singleton.1 hu]; rfl) ?ho ?hb ?hl ?_); (case hm => simp); (case ho => exact HO.out.below (below_alloc (Below.refl _ _) _)); (case hb => (have := HW.out; simp; omega)); (case hl => (simp; omega)); intro v1 w3 ho1 ht3 hat3)
      go_roundw
      case measure => simp [intOf]; omega
      case rel =>
        have ha : (S.take (k + 1)).map (·.f0) = (S.take k).map (·.f0) ++ [p.f0] := by rw [List.take_succ_eq_append_getElem hlt, List.map_append, HP.out]; rfl
        exact ⟨k + 1, by omega, by go_num, ⟨by rw [ha]; exact ho1⟩, ⟨HB.out.trans ((((Tr.refl _ wr).alloc _).trans ht3 (fun _ _ h => h)).below (fun j hj he => by have := orow_base HO.out j he; omega) HW.out)⟩⟩
    · have hks : k = S.length := by omega
      subst hks
      go_wp2
      go_ret
      refine ⟨_, rfl, ?_, HB.out⟩
      have := HO.out
      rwa [List.take_length] at this
set_option maxRecDepth 100000 in
theorem uids_calls (hv : ViewAt 70 74 B w g lv S top) (hl : S.length ≤ 1000000) : Calls Tryd.prog 14 #[.pointer (some ⟨g, 0, none⟩)] w fun e w' => ∃ v : Value, e = .returned v ∧ IRow w' w.heap.size v (S.map (·.f0)) ∧ Below w.heap.size w w' := by
  have HV := Aside0.mk hv
  clear hv
  go_enter Tryd.func14, Tryd.ntmps14
  go_wp2_with (go_at_call 38; refine (puids_calls HV.out hl).mono ?_; rintro e w' ⟨v, rfl, ho, hb⟩; have HO := Aside0.mk ho; have HB := Aside0.mk hb; clear ho hb)
  go_ret
  exact ⟨_, rfl, HO.out, HB.out⟩
end
end Go.Proofs.YtnenlkojecicfaaDoor.V
