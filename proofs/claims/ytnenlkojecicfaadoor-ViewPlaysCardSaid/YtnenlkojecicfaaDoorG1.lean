/- (*View).grow: those that are new come behind. -/
import Derived.Test.YtnenlkojecicfaaDoorG0
import Derived.Deep.RegionLaw
import Derived.Deep.RegionHeld3
import Derived.StillTailTactics
set_option linter.unusedVariables false
set_option linter.unusedSimpArgs false
namespace Go.Proofs.YtnenlkojecicfaaDoor.V
open Go.RowKit Go.Proofs.YtnenlkojecicfaaDoorW.PrintWords Go.Proofs.YtnenlkojecicfaaDoor.P

set_option maxRecDepth 100000 in
set_option maxHeartbeats 4000000 in
theorem grow_calls (B g : Nat) (lv : Value) (S : List S74) (top : Int) (A : Option Addr) (c : Nat) (ms : List S43) (w : World) (hB : B ≤ w.heap.size) (hv : ViewAt 70 74 B w g lv S top)
    (hr : Mails B w A ms.length ms) (hsm : ∀ m ∈ ms, ∀ f ∈ m.f1, f.size ≤ 140737488351232) (hlen : S.length + ms.length ≤ 1000000) :
    Calls Tryd.prog 35 #[.pointer (some ⟨g, 0, none⟩), .slice A ms.length c] w fun e w' => ∃ lv' : Value, e = .returned (.bool (decide (S.length < (growF S top ms).1.length))) ∧
      ViewAt 70 74 B w' g lv' (growF S top ms).1 (growF S top ms).2 ∧ Tr (VX g lv) w w' ∧ (lv'.ownBlock = lv.ownBlock ∨ ∃ b, lv'.ownBlock = some b ∧ w.heap.size ≤ b) := by
  have hBB := Aside0.mk hB
  have HV0 := Aside0.mk hv
  obtain ⟨Al, cl, hlv, _⟩ := hv.slice
  have hc0 := hv.c0
  rw [hlv] at hc0
  have HLV := Lib.hid hlv
  clear hB hv hlv
  go_enter Tryd.func35, Tryd.ntmps35
  go_wp2
  clear hc0
  go_loopw [16] (fun i wr => ∃ (k : Nat) (lvr : Value), k ≤ ms.length ∧ i = .int .i64 k ∧ Aside0 (ViewAt 70 74 B wr g lvr (growTo S top ms k).1 (growTo S top ms k).2) ∧ Aside0 (Tr (VX g lv) w wr) ∧ Aside0 (lvr.ownBlock = lv.ownBlock ∨ ∃ b, lvr.ownBlock = some b ∧ w.heap.size ≤ b)) (fun i _ => ms.length - (intOf i).toNat)
  case atStart => exact ⟨0, lv, Nat.zero_le _, rfl, HV0, ⟨Tr.refl _ _⟩, ⟨.inl rfl⟩⟩
  case round =>
    obtain ⟨k, lvr, hk, rfl, HV, HT, HA⟩ := hrel
    have HW := Aside0.mk HT.out.size
    have hc0 := HV.out.c0
    have hc1 := HV.out.c1
    by_cases hlt : k < ms.length
    · have hrw := hr.step (HV0.out.sk HT.out (T := [9, 43]) (by simp) (by simp))
      obtain ⟨ad, vf, x, rfl, hx, ⟨h0, h1, h2, h3, h4, h5, h6, h7, h8, h9, h10, h11⟩, hf⟩ := mail_at hrw k hlt
      have hmx := hsm x (List.mem_of_getElem? hx)
      have HX := Lib.hid hx
      clear hx
      have HF := Aside0.mk hf
      obtain ⟨Af, cf, rfl, _, hfr⟩ := hf
      have HFR := Aside0.mk hfr
      clear hfr
      clear hrw
      obtain ⟨T, hT⟩ : ∃ T, T = (growTo S top ms k).2 := ⟨_, rfl⟩
      rw [← hT] at hc1
      have HTT := Lib.hid hT
      clear hT
      have hc0b : ∀ ob, (wr.alloc ob).cell? ⟨g, 0, none⟩ = some lvr := fun ob => pw_cell_below (below_alloc (Below.refl _ _) ob) hc0
      have hc1b : ∀ ob, (wr.alloc ob).cell? ⟨g, 1, none⟩ = some (.int .i64 T) := fun ob => pw_cell_below (below_alloc (Below.refl _ _) ob) hc1
      have hf1b : ∀ ob, (wr.alloc ob).frozen? ⟨g, 1, none⟩ = false := fun ob => (HV.out.below (below_alloc (Below.refl _ _) ob)).fz 1
      have hf0b : ∀ ob, (wr.alloc ob).frozen? ⟨g, 0, none⟩ = false := fun ob => (HV.out.below (below_alloc (Below.refl _ _) ob)).fz 0
      by_cases c1 : T < x.f0
      · have c1b : decide (T < x.f0) = true := by simpa using c1
        go_wp2
        go_quiet (fail)
        go_wp2
        generalize hW0 : World.setCell _ _ _ = W0
        have hbel0 : Below wr.heap.size wr ((wr.alloc (.cells #[.int .i64 x.f0, .slice Af x.f1.length cf, .int .i64 x.f2.f0, .int .i64 x.f2.f1, .int .i64 x.f2.f2, .int .i64 x.f2.f3, .int .i64 x.f2.f4, .int .i64 x.f2.f5, .int .i64 x.f2.f6, .string x.f3, .int .i64 x.f4, .int .i64 x.f5] 43)).drewN nq) := pw_below_drewN (below_alloc (Below.refl _ _) _) _
        have hb0 : ((wr.alloc (.cells #[.int .i64 x.f0, .slice Af x.f1.length cf, .int .i64 x.f2.f0, .int .i64 x.f2.f1, .int .i64 x.f2.f2, .int .i64 x.f2.f3, .int .i64 x.f2.f4, .int .i64 x.f2.f5, .int .i64 x.f2.f6, .string x.f3, .int .i64 x.f4, .int .i64 x.f5] 43)).drewN nq).heap[wr.heap.size]? = some (.cells #[.int .i64 x.f0, .slice Af x.f1.length cf, .int .i64 x.f2.f0, .int .i64 x.f2.f1, .int .i64 x.f2.f2, .int .i64 x.f2.f3, .int .i64 x.f2.f4, .int .i64 x.f2.f5, .int .i64 x.f2.f6, .string x.f3, .int .i64 x.f4, .int .i64 x.f5] 43) := heap_alloc_new wr _
        have hgne : g ≠ wr.heap.size := Nat.ne_of_lt (HV.out.lt g (.inl rfl))
        have HVW : ViewAt 70 74 B W0 g lvr (growTo S top ms k).1 x.f0 := by rw [← hW0]; exact (HV.out.below hbel0).setTop (by decide) (by decide) _
        have HTW : Tr (VX g lv) w W0 := by rw [← hW0]; exact (HT.out.then_below hbel0).setCell (.inl (.inl rfl)) _
        have hx0 : W0.heap[wr.heap.size]? = some (.cells #[.int .i64 x.f0, .slice Af x.f1.length cf, .int .i64 x.f2.f0, .int .i64 x.f2.f1, .int .i64 x.f2.f2, .int .i64 x.f2.f3, .int .i64 x.f2.f4, .int .i64 x.f2.f5, .int .i64 x.f2.f6, .string x.f3, .int .i64 x.f4, .int .i64 x.f5] 43) := by
          rw [← hW0, Below.heap_setCell _ _ _ _ (fun e => hgne e.symm)]
          exact hb0
        have HFW : Rd [9] B Kd.string W0 Af x.f1.length x.f1 := by
          refine (HFR.out.below hbel0).step ?_
          rw [← hW0]
          exact SK.of_tr (Tr.setCell (Tr.refl (fun k => k = g) _) (.inl rfl) _) (fun k hk => by
            subst hk
            exact not_sol HV.out.hB (HV.out.below hbel0).blk (by simp))
        clear hW0 hb0 hbel0 hc0b hc1b hf1b hf0b h0 h1 h2 h3 h4 h5 h6 h7 h8 h9 h10 h11 hc0 hc1
        have hq0 : W0.cell? ⟨wr.heap.size, 0, none⟩ = some (.int .i64 x.f0) := by simp [World.cell?, hx0]
        have hq1 : W0.cell? ⟨wr.heap.size, 1, none⟩ = some (.slice Af x.f1.length cf) := by simp [World.cell?, hx0]
        have hv0 := HVW.c0
        have hvf := HVW.fz 0
        have HHV := Aside0.mk HVW
        have HHF := Aside0.mk HFW
        have HHT := Aside0.mk HTW
        have HHX := Lib.hid hx0
        clear hx0 HVW HFW HTW
        generalize hbx : wr.heap.size = bx at *
        clear hbx
        go_region_law (first | (go_simp; go_at_call 39; refine (flags_calls _ _ x.f1 _ (Kd.C_below HHF.out.now (below_drew (Below.refl _ _))) hmx).mono ?_; rintro e w1 ⟨vf, rfl, hs1, hb1⟩; obtain ⟨Avf, cvf, hvv, _⟩ := OwnRow.slice_ hs1; subst hvv; have e0 : w1.cell? ⟨bx, 0, none⟩ = some (.int .i64 x.f0) := pw_cell_below hb1 hq0; have e1 : w1.cell? ⟨bx, 1, none⟩ = some (.slice Af x.f1.length cf) := pw_cell_below hb1 hq1; have e2 : w1.cell? ⟨g, 0, none⟩ = some lvr := pw_cell_below hb1 hv0; have e5 : ∀ ob, (w1.alloc ob).cell? ⟨g, 0, none⟩ = some lvr := fun ob => pw_cell_below (below_alloc (Below.refl _ _) ob) e2) | ((refine app_step (PlaceAt B) B B (by rfl) (.tmp 37) (.tmp 44) 66 74 _ 2 32 (by rfl) Tryd.underlying66 info74 rfl (by decide) (by omega) lvr (growTo S top ms k).1 ⟨x.f0, flagsF x.f1⟩ [.int .i64 x.f0, .slice Avf (flagsF x.f1).length cvf] (by rfl) _ (by rfl) ?hm ?hp rfl ?h1 ?ho ?hb (Nat.le_refl _) (by simp) ?hl (fun _ hsk _ _ hm => hm.step hsk) ?_); (case hm => rfl); (case hp => exact ⟨_, rfl, hs1.fl B⟩); (case h1 => (intro u hu; simp only [List.mem_cons, List.mem_nil_iff, or_false] at hu; rcases hu with rfl | rfl <;> rfl)); (case ho => exact ((HHV.out.below (below_drew (Below.refl _ _))).below hb1).row); (case hb => (have := hb1.size; have := HHT.out.size; have := hBB.out; simp at *; omega)); (case hl => (have := growTo_len S top ms k; omega)); intro v1 w3 ho1 ht1 hat1; obtain ⟨Av1, cv1, hvv1, _⟩ := OwnRow.slice_ ho1; subst hvv1; obtain ⟨e3, e4, hv3, ht3⟩ := ((HHV.out.below (below_drew (Below.refl _ _))).below hb1).setRow (by decide) (by decide) ht1 ho1))
        all_goals
          go_wp2
          go_roundw
          case measure => simp [intOf]; omega
          case rel =>
            have ha : growTo S top ms (k + 1) = ((growTo S top ms k).1 ++ [⟨x.f0, flagsF x.f1⟩], x.f0) := by rw [growTo_succ HX.out]; unfold growS; rw [if_pos (by rw [← HTT.out]; exact c1)]
            simp only [List.length_append, List.length_singleton] at hv3 ht3 hat1
            refine ⟨k + 1, _, by omega, by go_num, ⟨by rw [ha]; exact hv3⟩, ⟨?_⟩, ⟨?_⟩⟩
            · exact ((HHT.out.drew).then_below hb1).trans ht3 (fun i hi hx => VX_old HA.out hi hx)
            · exact own_chain HA.out hat1 (Nat.le_trans HHT.out.size hb1.size)
      · have c1b : decide (T < x.f0) = false := by simpa using c1
        go_wp2
        go_quiet (fail)
        go_wp2
        go_roundw
        case measure => simp [intOf]; omega
        case rel =>
          have ha : growTo S top ms (k + 1) = growTo S top ms k := by rw [growTo_succ HX.out]; unfold growS; rw [if_neg (by rw [← HTT.out]; omega)]
          refine ⟨k + 1, lvr, by omega, by go_num, ⟨?_⟩, ⟨?_⟩, HA⟩
          · rw [ha]
            exact HV.out.below (by repeat (first | exact Below.refl _ _ | apply below_alloc | apply pw_below_drewN | apply below_drew))
          · exact HT.out.then_below (by repeat (first | exact Below.refl _ _ | apply below_alloc | apply pw_below_drewN | apply below_drew))
    · have hks : k = ms.length := by omega
      subst hks
      obtain ⟨Al2, cl2, hlv2, _⟩ := HV.out.slice
      rw [hlv2] at hc0
      have HLV2 := Lib.hid hlv2
      clear hlv2
      go_wp2
      go_ret
      have e : growTo S top ms ms.length = growF S top ms := by unfold growTo growF; rw [List.take_length]
      refine ⟨lvr, ?_, by rw [← e]; exact HV.out, HT.out, HA.out⟩
      rw [← e]
      simp
end Go.Proofs.YtnenlkojecicfaaDoor.V
