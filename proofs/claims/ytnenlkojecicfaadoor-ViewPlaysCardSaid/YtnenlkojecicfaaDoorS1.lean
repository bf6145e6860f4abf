/- (*View).Sync: the walk. -/
import Derived.Test.YtnenlkojecicfaaDoorS1c
import Derived.Deep.RegionLaw
import Derived.Deep.RegionHeld3
import Derived.Deep.DeepCutAuto
import Derived.StillTailTactics
set_option linter.unusedVariables false
set_option linter.unusedSimpArgs false
namespace Go.Proofs.YtnenlkojecicfaaDoor.V
open Go.RowKit Go.Proofs.YtnenlkojecicfaaDoorW.PrintWords Go.Proofs.YtnenlkojecicfaaDoor.P

set_option maxRecDepth 100000 in
set_option maxHeartbeats 4000000 in
theorem sync_calls (B g : Nat) (lv : Value) (S : List S74) (top : Int) (q : Bool) (A : Option Addr) (c : Nat) (ms : List S43) (w : World) (hB : B ≤ w.heap.size) (hv : ViewAt 70 74 B w g lv S top)
    (hr : Mails B w A ms.length ms) (hsm : ∀ m ∈ ms, ∀ f ∈ m.f1, f.size ≤ 140737488351232) (hwf : ∀ m ∈ ms, (Lit.int .i64 m.f0).wf = true) (hwS : ∀ p ∈ S, (Lit.int .i64 p.f0).wf = true) (hlen : S.length + ms.length ≤ 100000) :
    Calls Tryd.prog 17 #[.pointer (some ⟨g, 0, none⟩), .bool q, .slice A ms.length c] w fun e w' => ∃ lv' vo : Value, e = .returned vo ∧
      ViewAt 70 74 B w' g lv' (syncS q S top (risingF [] ms)) (syncG q S top (risingF [] ms)).2 ∧ TRow B w' w.heap.size vo (syncO q S top (risingF [] ms)) ∧ Tr (VX g lv) w w' ∧ (lv'.ownBlock = lv.ownBlock ∨ ∃ b, lv'.ownBlock = some b ∧ w.heap.size ≤ b) := by
  have hmm := @run_makeMap Tryd.prog
  have HB := Aside0.mk hB
  have HV := Aside0.mk hv
  have HR := Aside0.mk hr
  have HSM := Aside0.mk hsm
  have HWF := Aside0.mk hwf
  have HWS := Aside0.mk hwS
  clear hB hv hr hsm hwf hwS
  go_enter Tryd.func17, Tryd.ntmps17
  go_wp2_with fail
  refine (rising_calls B A c ms _ HB.out HR.out (by omega)).mono ?_
  rintro e w1 ⟨v, rfl, ho1, hb1⟩
  have HB1 := Aside0.mk hb1
  obtain ⟨l, hl⟩ : ∃ l, l = risingF [] ms := ⟨_, rfl⟩
  rw [← hl] at ho1
  have hll : l.length ≤ ms.length := by rw [hl]; exact rising_len ms
  have HL := Lib.hid hl
  obtain ⟨Av, cv, hv, hm1⟩ := ho1.mails
  subst hv
  have HM1 := Aside0.mk hm1
  clear ho1 hm1 hb1 hl
  go_wp2_with fail
  generalize hW0 : (w1.alloc (.map #[] 0)).alloc (.map #[] 0) = W0
  generalize h9 : w1.heap.size + 1 = b9
  generalize h8 : w1.heap.size = b8
  have HF0 : Aside0 (FMap B W0 b8 []) := by
    refine ⟨?_⟩
    rw [← hW0, ← h8]
    refine FMap.below (w := w1.alloc (.map #[] 0)) ⟨[], MapAt.made w1, rfl, fun j m h => by simp at h⟩ (below_alloc (Below.refl _ _) _)
  have HT0 : Aside0 (TMap W0 b9 []) := by
    refine ⟨?_⟩
    have := MapAt.made (w1.alloc (.map #[] 0))
    rw [hW0, show (w1.alloc (.map #[] 0)).heap.size = w1.heap.size + 1 by simp, h9] at this
    exact this
  have HM0 : Aside0 (Mails B W0 Av l.length l) := ⟨by rw [← hW0]; exact (HM1.out.below (below_alloc (Below.refl _ _) _)).below (below_alloc (Below.refl _ _) _)⟩
  have HB0 : Aside0 (Below w.heap.size w W0) := ⟨by rw [← hW0]; exact HB1.out.trans ((below_alloc (below_alloc (Below.refl _ _) _) _).mono HB1.out.size)⟩
  have HX0 : Aside0 (w.heap.size ≤ b8 ∧ w.heap.size ≤ b9) := ⟨by have := HB1.out.size; omega⟩
  have HNE : Aside0 (b8 ≠ b9) := ⟨by omega⟩
  have HRI : Aside0 (Rise l) := ⟨by rw [HL.out]; exact rise_rising ms⟩
  have HWL : Aside0 (∀ m ∈ l, (Lit.int .i64 m.f0).wf = true) := ⟨fun m hm => by
    rw [HL.out] at hm
    rcases mem_risingF [] m hm with h | h
    · cases h
    · exact HWF.out m h⟩
  have HSL : Aside0 (∀ m ∈ l, ∀ f ∈ m.f1, f.size ≤ 140737488351232) := ⟨by rw [HL.out]; exact rising_small HSM.out⟩
  clear hW0 h8 h9 HM1 HB1
  go_loopw [24] (fun i wr => ∃ (k : Nat), k ≤ l.length ∧ i = .int .i64 k ∧ Aside0 (FMap B wr b8 (l.take k)) ∧ Aside0 (TMap wr b9 (l.take k)) ∧ Aside0 (Below w.heap.size w wr) ∧ Aside0 (Mails B wr Av l.length l)) (fun i _ => l.length - (intOf i).toNat)
  case atStart => exact ⟨0, Nat.zero_le _, rfl, HF0, HT0, HB0, HM0⟩
  case round =>
    obtain ⟨k, hk, rfl, HF, HT, HBr, HM⟩ := hrel
    by_cases hlt : k < l.length
    · obtain ⟨ad, vf, x, rfl, hx, ⟨h0, h1, h2, h3, h4, h5, h6, h7, h8, h9, h10, h11⟩, hf⟩ := mail_at HM.out k hlt
      have HX := Lib.hid hx
      have hmx := HSL.out x (List.mem_of_getElem? hx)
      have HWx := Aside0.mk (HWL.out x (List.mem_of_getElem? hx))
      clear hx
      have HFx := Aside0.mk hf
      obtain ⟨Af, cf, rfl, _, hfr⟩ := hf
      have HFR := Aside0.mk hfr
      clear hfr
      go_upto_region 9 with fail
      have hx0 : (wr.alloc (.cells #[.int .i64 x.f0, .slice Af x.f1.length cf, .int .i64 x.f2.f0, .int .i64 x.f2.f1, .int .i64 x.f2.f2, .int .i64 x.f2.f3, .int .i64 x.f2.f4, .int .i64 x.f2.f5, .int .i64 x.f2.f6, .string x.f3, .int .i64 x.f4, .int .i64 x.f5] 43)).heap[wr.heap.size]? = some (.cells #[.int .i64 x.f0, .slice Af x.f1.length cf, .int .i64 x.f2.f0, .int .i64 x.f2.f1, .int .i64 x.f2.f2, .int .i64 x.f2.f3, .int .i64 x.f2.f4, .int .i64 x.f2.f5, .int .i64 x.f2.f6, .string x.f3, .int .i64 x.f4, .int .i64 x.f5] 43) := heap_alloc_new wr _
      have hbel : Below wr.heap.size wr (wr.alloc (.cells #[.int .i64 x.f0, .slice Af x.f1.length cf, .int .i64 x.f2.f0, .int .i64 x.f2.f1, .int .i64 x.f2.f2, .int .i64 x.f2.f3, .int .i64 x.f2.f4, .int .i64 x.f2.f5, .int .i64 x.f2.f6, .string x.f3, .int .i64 x.f4, .int .i64 x.f5] 43)) := below_alloc (Below.refl _ _) _
      generalize wr.alloc _ = W1 at *
      replace hbel : Below wr.heap.size wr W1.drew := below_drew hbel
      have HF1 := Aside0.mk (HF.out.below hbel)
      have HT1 : Aside0 (TMap W1.drew b9 (l.take k)) := ⟨MapAt.below HT.out hbel⟩
      have HM1 := Aside0.mk (HM.out.below hbel)
      have HR1 := Aside0.mk (HFR.out.below hbel)
      have HB1 : Aside0 (Below w.heap.size w W1.drew) := ⟨HBr.out.trans (hbel.mono HBr.out.size)⟩
      have H8 : Aside0 (b8 ≠ wr.heap.size ∧ b9 ≠ wr.heap.size) := ⟨by have := HF.out.lt; have := MapAt.lt HT.out; omega⟩
      generalize wr.heap.size = bx at *
      have HXB := Lib.hid hx0
      have q0 : W1.cell? ⟨bx, 0, none⟩ = some (.int .i64 x.f0) := by simp [World.cell?, hx0]
      have q1 : W1.cell? ⟨bx, 1, none⟩ = some (.slice Af x.f1.length cf) := by simp [World.cell?, hx0]
      clear hx0 hbel HF HT HM HFR HFx HBr h0 h1 h2 h3 h4 h5 h6 h7 h8 h9 h10 h11
      go_region_held3 (fun w' => w'.cell? ⟨bx, 0, none⟩ = some (.int .i64 x.f0) ∧ w'.cell? ⟨bx, 1, none⟩ = some (.slice Af x.f1.length cf)) (first | exact ⟨q0, q1⟩ | exact p2 | exact p3 | exact p4 | exact p5 | trace_state)
        (first | (go_at_call 39; refine (flags_calls _ _ x.f1 _ HR1.out.now hmx).mono ?_; rintro e w2 ⟨vf, rfl, hs1, hb1⟩; obtain ⟨Avf, cvf, hvv, _⟩ := OwnRow.slice_ hs1; subst hvv; obtain ⟨st, w3, w4, w5, r3, r4, r5, t3, t4, t5, s5, f5, m5⟩ := fill (x := x) (k := k) (HF1.out.below hb1) (show TMap w2 b9 (l.take k) from MapAt.below HT1.out hb1) HX.out HRI.out HWx.out (Nat.le_trans HB.out HX0.out.1) (Nat.le_trans HB.out HX0.out.2) HNE.out (hs1.fl B); have p2 : w2.cell? ⟨bx, 0, none⟩ = some (.int .i64 x.f0) ∧ w2.cell? ⟨bx, 1, none⟩ = some (.slice Af x.f1.length cf) := ⟨pw_cell_below hb1 q0, pw_cell_below hb1 q1⟩; have p3 : w3.cell? ⟨bx, 0, none⟩ = some (.int .i64 x.f0) ∧ w3.cell? ⟨bx, 1, none⟩ = some (.slice Af x.f1.length cf) := ⟨Tr.cell t3 p2.1 (fun e => H8.out.1 e.symm), Tr.cell t3 p2.2 (fun e => H8.out.1 e.symm)⟩; have p4 : w4.cell? ⟨bx, 0, none⟩ = some (.int .i64 x.f0) ∧ w4.cell? ⟨bx, 1, none⟩ = some (.slice Af x.f1.length cf) := ⟨Tr.cell t4 p2.1 (fun e => H8.out.1 e.symm), Tr.cell t4 p2.2 (fun e => H8.out.1 e.symm)⟩; have p5 : w5.cell? ⟨bx, 0, none⟩ = some (.int .i64 x.f0) ∧ w5.cell? ⟨bx, 1, none⟩ = some (.slice Af x.f1.length cf) := ⟨Tr.cell t5 p2.1 (fun e => e.elim (fun e => H8.out.1 e.symm) (fun e => H8.out.2 e.symm)), Tr.cell t5 p2.2 (fun e => e.elim (fun e => H8.out.1 e.symm) (fun e => H8.out.2 e.symm))⟩))
      all_goals
        go_wp2
        go_roundw
        case measure => simp [intOf]; omega
        case rel => exact ⟨k + 1, by omega, by go_num, ⟨f5⟩, ⟨m5⟩, ⟨(HB1.out.trans (hb1.mono HB1.out.size)).trans (t5.below (fun k hk e => by have := HX0.out; rcases e with e | e <;> omega) (by have := HB1.out.size; have := hb1.size; omega))⟩, ⟨(HM1.out.below hb1).step s5⟩⟩
    · have hks : k = l.length := by omega
      subst hks
      rw [List.take_length] at HF HT
      have HV1 := HV.out.below HBr.out
      obtain ⟨Al, cl, hlv, _⟩ := HV1.slice
      have hc0 := HV1.c0
      rw [hlv] at hc0
      have HS : Aside0 (SyncAt B w g lv b8 b9 Av l wr lv S top (.slice none 0 0) []) := ⟨⟨HB.out, HX0.out⟩, HV1, OwnRow.none_ _ _ _ _ _, HF.out, HT.out, HM.out, Tr.of_below HBr.out _, .inl rfl⟩
      have HLV := Lib.hid hlv
      clear HV HBr HF0 HT0 HM0 HB0 hmm HF HT HM hlv HV1 HX0 HB HR
      go_upto_block 2 with fail
      go_cut [12, 13] from 47 to 85 (fun s12 s13 wx => ∃ lv2 : Value, Aside0 (SyncAt B w g lv b8 b9 Av l wx lv2 (syncS1 q l S) top s12 (syncO1 q l S)))
      case first =>
        clear hc0
        go_wp2_with fail
        go_loopw [13, 12] (fun i o wr => ∃ (k : Nat) (lvr : Value), k ≤ S.length ∧ i = .int .i64 ((k : Int) - 1) ∧ Aside0 (SyncAt B w g lv b8 b9 Av l wr lvr (S.take k ++ stayF l (S.drop k)) top o (goneF l k (S.drop k))) ∧ (q = true → k = S.length)) (fun i _ _ => (intOf i + 1).toNat)
        case atStart =>
          refine ⟨S.length, lv, Nat.le_refl _, rfl, ⟨?_⟩, fun _ => rfl⟩
          rw [show S.take S.length ++ stayF l (S.drop S.length) = S by simp [stayF], show goneF l S.length (S.drop S.length) = [] by simp [goneF]]
          exact HS.out
        case round =>
          obtain ⟨k, lvr, hk, rfl, HS2, hq⟩ := hrel
          rcases Nat.eq_zero_or_pos k with rfl | hk0
          · have e0 : ((0 : Nat) : Int) - 1 = -1 := rfl
            rw [e0]
            go_wp2
            go_meet
            case rel =>
              refine ⟨lvr, ⟨?_⟩⟩
              have h := HS2.out
              rw [List.take_zero, List.nil_append, List.drop_zero] at h
              cases q with
              | false => exact h
              | true =>
                have e : S = [] := List.length_eq_zero_iff.1 (hq rfl).symm
                subst e
                exact h
          · obtain ⟨j, rfl⟩ : ∃ j, k = j + 1 := ⟨k - 1, by omega⟩
            have e0 : ((j + 1 : Nat) : Int) - 1 = (j : Int) := by omega
            rw [e0]
            clear e0
            rcases Bool.eq_false_or_eq_true q with rfl | rfl
            · go_wp2
              go_meet
              case rel =>
                refine ⟨lvr, ⟨?_⟩⟩
                have h := HS2.out
                rw [hq trivial, List.take_length, List.drop_length] at h
                rw [show S ++ stayF l [] = S by simp [stayF]] at h
                exact h
            · have hjl : j < S.length := by omega
              obtain ⟨p, hp⟩ : ∃ p, S[j]? = some p := ⟨_, List.getElem?_eq_getElem hjl⟩
              have hp2 := hp
              rw [← cut_at (l := l) hjl] at hp2
              have hjc : j < (S.take (j + 1) ++ stayF l (S.drop (j + 1))).length := (List.getElem?_eq_some_iff.1 hp2).1
              have hS3 : (S.take (j + 1) ++ stayF l (S.drop (j + 1))).length ≤ S.length := cut_len _
              obtain ⟨S', hS'⟩ : ∃ S', S' = S.take (j + 1) ++ stayF l (S.drop (j + 1)) := ⟨_, rfl⟩
              rw [← hS'] at HS2 hp2 hjc hS3
              have HSS := Lib.hid hS'
              clear hS'
              obtain ⟨bl, cap, vpf, hlv2, hpc, _⟩ := place_at HS2.out.view.row hp2
              have hc0 := HS2.out.view.c0
              have hwp := HWS.out p (List.mem_of_getElem? hp)
              have hlk := TMap.lookup HS2.out.tm hwp
              have HP := Lib.hid hp
              clear hp hp2 hwp
              subst hlv2
              cases hth : thereF l p.f0 with
              | true =>
                rw [hth] at hlk
                have HTH := Lib.hid hth
                clear hth
                go_wp2
                go_roundw
                case measure => simp [intOf]
                case rel =>
                  refine ⟨j, .slice (some ⟨bl, 0, none⟩) S'.length cap, by omega, rfl, ⟨?_⟩, fun h => by simp at h⟩
                  obtain ⟨e1, e2⟩ := cut_yes HP.out HTH.out
                  rw [← e1, e2, ← HSS.out]
                  exact HS2.out
              | false =>
                rw [hth] at hlk
                have HTH := Lib.hid hth
                clear hth
                go_wp2_with fail
                refine (delete_calls B _ S' j wr (Nat.le_trans HS2.out.hb.1 HS2.out.oB) HS2.out.view.row hjc (by omega)).mono ?_
                rintro e w2 ⟨v', rfl, hown, ho2, ht2⟩
                have HOW := Lib.hid hown
                obtain ⟨Av', cv', hvv, _⟩ := OwnRow.slice_ ho2
                obtain ⟨f1, f2, hv3, ht3⟩ := HS2.out.view.setRow (by decide) (by decide) ht2 ho2
                clear hown
                have HS3 := Aside0.mk (HS2.out.view_to ht3 hv3 (.inl HOW.out))
                clear hv3 ht3 ho2 ht2
                subst hvv
                have e1 := HSS.out
                obtain ⟨e2, e3⟩ := cut_no HP.out HTH.out
                rw [← HSS.out] at e2
                have E2 := Lib.hid e2
                have E3 := Lib.hid e3
                have hgl := gone_len (l := l) (S := S) (j + 1)
                clear e1 e2 e3
                go_wp2_with (at_builtin; (refine app_row (ToldAt B) w.heap.size B rfl (.tmp 80) (.tmp 84) 36 65 _ 3 40 rfl Tryd.underlying36 info65 rfl (by decide) (by omega) u12 (goneF l (j + 1) (S.drop (j + 1))) ⟨1, (j : Int) + 1, []⟩ [.int .i64 1, .int .i64 ((j : Int) + 1), .slice none 0 0] rfl _ rfl ?hm ?hp rfl ?h1 ?ho ?hb ?hBb (by simp) ?hl (fun w1 hsk p c hm => hm.step hsk) ?_); (case hm => simp [World.setCell]); (case hp => exact ⟨_, rfl, Fl.nil _ _⟩); (case h1 => exact told_one ⟨1, (j : Int) + 1, []⟩ rfl); (case ho => exact HS3.out.out); (case hb => exact HS3.out.oB); (case hBb => exact HS3.out.hb.1); (case hl => omega); intro v1 w3 ho1 ht1 hat1)
                go_roundw
                case measure => simp [intOf]
                case rel =>
                  refine ⟨j, .slice Av' (S'.eraseIdx j).length cv', by omega, rfl, ⟨?_⟩, fun h => by simp at h⟩
                  rw [E3.out, ← E2.out]
                  exact HS3.out.out_to ht1 ho1
      case rest =>
        obtain ⟨lv2, HS2⟩ := hcut
        clear HS hc0
        have hS1 : (syncS1 q l S).length ≤ S.length := by
          unfold syncS1
          split
          · exact Nat.le_refl _
          · exact stayF_len _ _
        have hO1 : (syncO1 q l S).length ≤ S.length := by
          unfold syncO1
          split
          · simp
          · exact goneF_len _ _ _
        go_wp2_with fail
        refine (grow_calls B g lv2 (syncS1 q l S) top Av cv l wc (Nat.le_trans HS2.out.hb.1 HS2.out.oB) HS2.out.view HS2.out.mails HSL.out (by omega)).mono ?_
        rintro e w2 ⟨lv3, rfl, hv3, ht3, hat3⟩
        have HS3 : Aside0 (SyncAt B w g lv b8 b9 Av l w2 lv3 (syncG q S top l).1 (syncG q S top l).2 u12 (syncO1 q l S)) := ⟨HS2.out.view_to ht3 hv3 hat3⟩
        clear hv3 ht3 hat3
        have hG : (syncG q S top l).1.length ≤ S.length + l.length := by
          have := growF_len (syncS1 q l S) top l
          unfold syncG
          omega
        have HB3 : Aside0 ((decide ((syncS1 q l S).length < (growF (syncS1 q l S) top l).1.length)) = decide ((syncS1 q l S).length < (syncG q S top l).1.length)) := ⟨rfl⟩
        rw [HB3.out]
        go_upto_if 88 with fail
        clear HB3
        have hc0 := HS3.out.view.c0
        obtain ⟨A3, c3, hlv3, _⟩ := HS3.out.view.slice
        rw [hlv3] at hc0
        have HLV3 := Lib.hid hlv3
        clear hlv3
        go_cut [12] (fun s12 wx => Aside0 (SyncAt B w g lv b8 b9 Av l wx lv3 (syncG q S top l).1 (syncG q S top l).2 s12 (syncO1 q l S ++ syncO2 q S top l)))
        case first =>
          by_cases hgr : (syncS1 q l S).length < (syncG q S top l).1.length
          · have hgb : decide ((syncS1 q l S).length < (syncG q S top l).1.length) = true := by simpa using hgr
            have e2 : Hid (syncO2 q S top l = [⟨2, ((syncG q S top l).1.length : Int), []⟩]) := Lib.hid (show _ by unfold syncO2; rw [if_pos hgr])
            go_wp2_with (at_builtin; (refine app_row (ToldAt B) w.heap.size B rfl (.tmp 89) (.tmp 97) 36 65 _ 3 40 rfl Tryd.underlying36 info65 rfl (by decide) (by omega) u12 (syncO1 q l S) ⟨2, ((syncG q S top l).1.length : Int), []⟩ [.int .i64 2, .int .i64 ((syncG q S top l).1.length : Int), .slice none 0 0] rfl _ rfl ?hm ?hp rfl ?h1 ?ho ?hb ?hBb (by simp) ?hl (fun w1 hsk p c hm => hm.step hsk) ?_); (case hm => rfl); (case hp => exact ⟨_, rfl, Fl.nil _ _⟩); (case h1 => exact told_one ⟨2, ((syncG q S top l).1.length : Int), []⟩ rfl); (case ho => exact HS3.out.out); (case hb => exact HS3.out.oB); (case hBb => exact HS3.out.hb.1); (case hl => omega); intro v1 w3 ho1 ht1 hat1)
            go_meet
            case rel =>
              rw [e2.out]
              exact ⟨HS3.out.out_to ht1 ho1⟩
          · have hgb : decide ((syncS1 q l S).length < (syncG q S top l).1.length) = false := by simpa using hgr
            have e2 : Hid (syncO2 q S top l = []) := Lib.hid (show _ by unfold syncO2; rw [if_neg hgr])
            go_wp2
            go_meet
            case rel =>
              rw [e2.out, List.append_nil]
              exact HS3
        case rest =>
          have HS4 := hcut
          clear hcut HS3 HS2 hc0
          obtain ⟨G, hGG⟩ : ∃ G, G = (syncG q S top l).1 := ⟨_, rfl⟩
          obtain ⟨T, hTT⟩ : ∃ T, T = (syncG q S top l).2 := ⟨_, rfl⟩
          obtain ⟨O, hOO⟩ : ∃ O, O = syncO1 q l S ++ syncO2 q S top l := ⟨_, rfl⟩
          have hOl : O.length ≤ S.length + 1 := by
            rw [hOO, List.length_append]
            have : (syncO2 q S top l).length ≤ 1 := by unfold syncO2; split <;> simp
            omega
          have hl3 := HLV3.out
          rw [← hGG] at hl3 hG
          rw [← hGG, ← hTT, ← hOO] at HS4
          have HGG := Lib.hid hGG
          have HTT := Lib.hid hTT
          have HOO := Lib.hid hOO
          clear hGG hTT hOO HLV3
          subst hl3
          have hc0 := HS4.out.view.c0
          go_wp2_with fail
          clear hc0
          have HWG : Aside0 (∀ p ∈ G, (Lit.int .i64 p.f0).wf = true) := ⟨by rw [HGG.out]; exact syncG_wf HWS.out HWL.out⟩
          have hGl : G.length ≤ 100000 := by omega
          clear hG
          go_loopw [105, 12] (fun i o wr => ∃ (k : Nat), k ≤ G.length ∧ i = .int .i64 k ∧ Aside0 (SyncAt B w g lv b8 b9 Av l wr (.slice A3 G.length c3) ((G.take k).map (flagP l) ++ G.drop k) T o (O ++ flagsO l 0 (G.take k)))) (fun i _ _ => G.length - (intOf i).toNat)
          case atStart =>
            refine ⟨0, Nat.zero_le _, rfl, ⟨?_⟩⟩
            rw [show (G.take 0).map (flagP l) ++ G.drop 0 = G by simp, show O ++ flagsO l 0 (G.take 0) = O by simp [flagsO]]
            exact HS4.out
          case round =>
            obtain ⟨k, hk, rfl, HS5⟩ := hrel
            by_cases hlt : k < G.length
            · obtain ⟨p, hp⟩ : ∃ p, G[k]? = some p := ⟨_, List.getElem?_eq_getElem hlt⟩
              have hp2 := at_map (f := flagP l) hp
              have hSl : ((G.take k).map (flagP l) ++ G.drop k).length = G.length := map_len (by omega)
              have hOl5 : (O ++ flagsO l 0 (G.take k)).length ≤ S.length + 1 + k := by
                rw [List.length_append]
                have := flagsO_len l (G.take k) 0
                have : (G.take k).length ≤ k := List.length_take_le _ _
                omega
              obtain ⟨Sk, hSk⟩ : ∃ Sk, Sk = (G.take k).map (flagP l) ++ G.drop k := ⟨_, rfl⟩
              obtain ⟨Ok, hOk⟩ : ∃ Ok, Ok = O ++ flagsO l 0 (G.take k) := ⟨_, rfl⟩
              rw [← hSk] at HS5 hp2 hSl
              rw [← hOk] at HS5 hOl5
              have HSk := Lib.hid hSk
              have HOk := Lib.hid hOk
              obtain ⟨bl, cap, vpf, hlv2, hpc, hpv, hpf, hcap, _⟩ := place_at HS5.out.view.row hp2
              injection hlv2 with e1 e2 e3
              subst e1 e3
              have hwp := HWG.out p (List.mem_of_getElem? hp)
              obtain ⟨Ap, cp, rfl, _, hpr⟩ := hpf
              have HPR := Aside0.mk hpr
              have HP := Lib.hid hp
              have HP2 := Lib.hid hp2
              have HSL2 := Lib.hid hSl
              have HWP := Lib.hid hwp
              clear hp hp2 hSk hOk hSl hwp hpr e2
              have HBX : Aside0 (bl < wr.heap.size) := ⟨HS5.out.view.lt bl (.inr rfl)⟩
              go_upto_region 23 with fail
              have hx0 : (wr.alloc (.cells #[.int .i64 p.f0, .slice Ap p.f1.length cp] 74)).heap[wr.heap.size]? = some (.cells #[.int .i64 p.f0, .slice Ap p.f1.length cp] 74) := heap_alloc_new wr _
              have hbel : Below wr.heap.size wr (wr.alloc (.cells #[.int .i64 p.f0, .slice Ap p.f1.length cp] 74)) := below_alloc (Below.refl _ _) _
              generalize wr.alloc _ = W1 at *
              have HS6 := Aside0.mk (HS5.out.below hbel)
              have HPR1 := Aside0.mk (HPR.out.below hbel)
              generalize wr.heap.size = bx at *
              have hq0 : W1.cell? ⟨bx, 0, none⟩ = some (.int .i64 p.f0) := by simp [World.cell?, hx0]
              have hq1 : W1.cell? ⟨bx, 1, none⟩ = some (.slice Ap p.f1.length cp) := by simp [World.cell?, hx0]
              have hlk := TMap.lookup HS6.out.tm HWP.out
              clear hx0 hbel HS5 HPR hpc hpv
              cases hth : thereF l p.f0 with
              | false =>
                rw [hth] at hlk
                have HTH := Lib.hid hth
                clear hth
                go_wp2
                go_roundw
                case measure => simp [intOf]; omega
                case rel =>
                  have hno : ¬ (thereF l p.f0 = true ∧ p.f1 ≠ look l p.f0) := fun h => by rw [HTH.out] at h; cases h.1
                  obtain ⟨e1, e2⟩ := flagP_no hno k
                  refine ⟨k + 1, by omega, by go_num, ⟨?_⟩⟩
                  rw [← same_map HP.out e1, flagsO_snoc HP.out, e2, List.append_nil, ← HSk.out, ← HOk.out]
                  exact HS6.out
              | true =>
                rw [hth] at hlk
                obtain ⟨Ak, ck, hfl, hfk⟩ := HS6.out.fm.lookup HWP.out hth
                have HTH := Lib.hid hth
                have HFK := Aside0.mk hfk
                clear hth hfk
                go_wp2_with fail
                refine (equal_calls (B := B) (w := W1) (xs := p.f1) (ys := look l p.f0) ⟨Ap, cp, rfl, by omega, HPR1.out⟩ HFK.out).mono ?_
                rintro e w2 ⟨rfl, qn, rfl⟩
                by_cases heq : p.f1 = look l p.f0
                · have hd : decide (p.f1 = look l p.f0) = true := by simpa using heq
                  rw [hd]
                  have HEQ := Lib.hid heq
                  clear hd heq
                  go_wp2
                  go_roundw
                  case measure => simp [intOf]; omega
                  case rel =>
                    have hno : ¬ (thereF l p.f0 = true ∧ p.f1 ≠ look l p.f0) := fun h => h.2 HEQ.out
                    obtain ⟨e1, e2⟩ := flagP_no hno k
                    refine ⟨k + 1, by omega, by go_num, ⟨?_⟩⟩
                    rw [← same_map HP.out e1, flagsO_snoc HP.out, e2, List.append_nil, ← HSk.out, ← HOk.out]
                    exact HS6.out.below (pw_below_drewN (Below.refl _ _) _)
                · have hd : decide (p.f1 = look l p.f0) = false := by simpa using heq
                  rw [hd]
                  have HEQ := Lib.hid heq
                  clear hd heq
                  go_upto_region 24 with fail
                  have hq0b : (W1.drewN qn).cell? ⟨bx, 0, none⟩ = some (.int .i64 p.f0) := pw_cell_below (pw_below_drewN (Below.refl _ _) _) hq0
                  have hbel2 : Below W1.heap.size W1 (W1.drewN qn) := pw_below_drewN (Below.refl _ _) _
                  generalize W1.drewN qn = W2 at *
                  have hbel3 : Below W1.heap.size W1 W2.drew := below_drew hbel2
                  have HS7 := Aside0.mk (HS6.out.below hbel3)
                  have HFK2 := Aside0.mk (HFK.out.step (SK.of_below hbel3))
                  have hc0 : W2.cell? ⟨g, 0, none⟩ = some (.slice (some ⟨bl, 0, none⟩) G.length c3) := HS7.out.view.c0
                  obtain ⟨_, _, vp3, hlv3, hpc3, hpv3, _⟩ := place_at HS7.out.view.row HP2.out
                  injection hlv3 with e1 e2 e3
                  injection e1 with e1
                  injection e1 with e1
                  subst e1 e3
                  have hpv4 : W2.cell? ⟨bl, k * 2 + 1, none⟩ = some vp3 := hpv3
                  have hfz4 : W2.frozen? ⟨bl, k * 2 + 1, none⟩ = false := HS7.out.view.frow _
                  obtain ⟨Ak2, ck2, hfl2, hfk2⟩ := HS7.out.fm.lookup HWP.out HTH.out
                  have HFL2 := Aside0.mk hfk2
                  clear hfk2
                  clear hq0 hq1 hlk hfl hbel2 hbel3 hpv3 hpc3 e2
                  go_region
                  have hq0c : ((W2.setCell ⟨bl, k * 2 + 1, none⟩ (.slice Ak2 (look l p.f0).length ck2)).drew).cell? ⟨bx, 0, none⟩ = some (.int .i64 p.f0) :=
                    Tr.cell ((Tr.setCell (Tr.refl (fun i => i = bl) W2) (.inl rfl) _).drew) hq0b (fun e => by have := HBX.out; simp only at e; omega)
                  obtain ⟨hv8, ht8⟩ := HS7.out.view.setFlags HSL2.out.symm HP2.out HFL2.out (by decide) (by decide)
                  have HS8 : Aside0 (SyncAt B w g lv b8 b9 Av l (W2.setCell ⟨bl, k * 2 + 1, none⟩ (.slice Ak2 (look l p.f0).length ck2)).drew (.slice (some ⟨bl, 0, none⟩) G.length c3) (Sk.set k ⟨p.f0, look l p.f0⟩) T u12 Ok) := ⟨HS7.out.view_to ht8 hv8 (.inl rfl)⟩
                  clear hv8 ht8 hq0b hc0 hpv4 hfz4 hfl2 HFL2
                  generalize (W2.setCell ⟨bl, k * 2 + 1, none⟩ (.slice Ak2 (look l p.f0).length ck2)).drew = W3 at *
                  obtain ⟨Ak3, ck3, hfl3, hfk3⟩ := HS8.out.fm.lookup HWP.out HTH.out
                  have HFL3 := Aside0.mk hfk3
                  clear hfk3
                  go_wp2_with fail
                  refine (clone_calls HFL3.out (by have := look_len l p.f0; omega)).mono ?_
                  rintro e w4 ⟨v4, rfl, hf4, hb4⟩
                  have HS9 := Aside0.mk (HS8.out.below hb4)
                  have HF4 := Aside0.mk hf4
                  obtain ⟨A4, c4, rfl, _⟩ := hf4
                  clear hb4 hfl3 hq0c
                  go_wp2_with (at_builtin; (refine app_row (ToldAt B) w.heap.size B rfl (.tmp 136) (.tmp 145) 36 65 _ 3 40 rfl Tryd.underlying36 info65 rfl (by decide) (by omega) u12 Ok ⟨3, (k : Int) + 1, look l p.f0⟩ [.int .i64 3, .int .i64 ((k : Int) + 1), .slice A4 (look l p.f0).length c4] rfl _ rfl ?hm ?hp rfl ?h1 ?ho ?hb ?hBb (by simp) ?hl (fun w1 hsk p c hm => hm.step hsk) ?_); (case hm => rfl); (case hp => exact ⟨_, rfl, HF4.out⟩); (case h1 => exact told_one ⟨3, (k : Int) + 1, look l p.f0⟩ rfl); (case ho => exact HS9.out.out); (case hb => exact HS9.out.oB); (case hBb => exact HS9.out.hb.1); (case hl => omega); intro v1 w5 ho1 ht1 hat1)
                  go_roundw
                  case measure => simp [intOf]; omega
                  case rel =>
                    obtain ⟨e1, e2⟩ := flagP_yes ⟨HTH.out, HEQ.out⟩ k
                    refine ⟨k + 1, by omega, by go_num, ⟨?_⟩⟩
                    rw [← set_map HP.out, e1, flagsO_snoc HP.out, e2, ← HSk.out, ← List.append_assoc, ← HOk.out]
                    exact HS9.out.out_to ht1 ho1
            · have hks : k = G.length := by omega
              subst hks
              go_wp2_with fail
              go_ret
              have hfin := HS5.out
              rw [List.take_length, List.drop_length, List.append_nil] at hfin
              refine ⟨_, u12, rfl, ?_, ?_, hfin.tr, hfin.own⟩
              · have := hfin.view
                rw [← HL.out]
                rw [show syncS q S top l = G.map (flagP l) by unfold syncS; rw [← HGG.out], ← HTT.out]
                exact this
              · have := hfin.out
                rw [HOO.out, HGG.out] at this
                rw [← HL.out]
                exact this
end Go.Proofs.YtnenlkojecicfaaDoor.V
