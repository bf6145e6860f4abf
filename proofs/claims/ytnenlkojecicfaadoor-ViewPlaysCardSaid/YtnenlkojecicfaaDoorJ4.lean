/- The reference's Sync: the walk. -/
import Derived.Test.YtnenlkojecicfaaDoorJ5
import Derived.Deep.RegionLaw
import Derived.Deep.RegionHeld3
import Derived.Deep.DeepCutAuto
set_option linter.unusedVariables false
set_option linter.unusedSimpArgs false
namespace Go.Proofs.YtnenlkojecicfaaDoor.V
open Go.RowKit Go.Proofs.YtnenlkojecicfaaDoorW.PrintWords Go.Proofs.YtnenlkojecicfaaDoor.P

def cutS (q : Bool) (l : List S43) (S : List S74) (k : Nat) : List S74 := if q then S else S.take k ++ stayF l (S.drop k)
def cutO (q : Bool) (l : List S43) (S : List S74) (k : Nat) : List S65 := if q then [] else goneF l k (S.drop k)
theorem cutS_all (q : Bool) (l : List S43) (S : List S74) : cutS q l S S.length = S := by unfold cutS; split <;> simp [stayF]
theorem cutO_all (q : Bool) (l : List S43) (S : List S74) : cutO q l S S.length = [] := by unfold cutO; split <;> simp [goneF]
theorem cutS_zero (q : Bool) (l : List S43) (S : List S74) : cutS q l S 0 = syncS1 q l S := by unfold cutS syncS1; split <;> simp
theorem cutO_zero (q : Bool) (l : List S43) (S : List S74) : cutO q l S 0 = syncO1 q l S := by unfold cutO syncO1; split <;> simp
theorem cutS_len (q : Bool) (l : List S43) (S : List S74) (k : Nat) : (cutS q l S k).length ≤ S.length := by
  unfold cutS
  split
  · exact Nat.le_refl _
  · exact cut_len k
theorem cutO_len (q : Bool) (l : List S43) (S : List S74) (k : Nat) : (cutO q l S k).length ≤ S.length := by
  unfold cutO
  split
  · simp
  · exact gone_len k
theorem cutS_at {q : Bool} {l : List S43} {S : List S74} {j : Nat} (hj : j < S.length) : (cutS q l S (j + 1))[j]? = S[j]? := by
  unfold cutS
  split
  · rfl
  · exact cut_at hj
theorem cut_skip {q : Bool} {l : List S43} {S : List S74} {j : Nat} {p : S74} (hp : S[j]? = some p) (h : q = true ∨ thereF l p.f0 = true) : cutS q l S (j + 1) = cutS q l S j ∧ cutO q l S j = cutO q l S (j + 1) := by
  unfold cutS cutO
  split
  · exact ⟨rfl, rfl⟩
  · rename_i hq
    rcases h with h | h
    · exact absurd h hq
    · exact cut_yes hp h
theorem cut_out {l : List S43} {S : List S74} {j : Nat} {p : S74} (hp : S[j]? = some p) (h : thereF l p.f0 = false) : (cutS false l S (j + 1)).eraseIdx j = cutS false l S j ∧ cutO false l S j = cutO false l S (j + 1) ++ [⟨1, (j : Int) + 1, []⟩] := cut_no hp h
theorem fl_now {B : Nat} {w : World} {A : Option Addr} {n c : Nat} {fs : List ByteArray} (h : Fl B w (.slice A n c) fs) : Kd.C Kd.string w A fs.length fs := by
  obtain ⟨A', c', e, _, hr⟩ := h
  injection e with e _ _
  subst e
  exact hr.now
set_option maxRecDepth 100000 in
set_option maxHeartbeats 4000000 in
theorem rsync_calls (B g : Nat) (lv : Value) (S : List S74) (top : Int) (q : Bool) (A : Option Addr) (c : Nat) (ms : List S43) (w : World) (hB : B ≤ w.heap.size) (hv : RV B w g lv S top)
    (hr : Mails B w A ms.length ms) (hsm : ∀ m ∈ ms, ∀ f ∈ m.f1, f.size ≤ 140737488351232) (hlen : S.length + ms.length ≤ 100000) :
    Calls Tryd.prog 22 #[.pointer (some ⟨g, 0, none⟩), .bool q, .slice A ms.length c] w fun e w' => ∃ lv' vo : Value, e = .returned vo ∧
      RV B w' g lv' (syncS q S top (risingF [] ms)) (syncG q S top (risingF [] ms)).2 ∧ TRow B w' w.heap.size vo (syncO q S top (risingF [] ms)) ∧ Tr (VX g lv) w w' ∧ (lv'.ownBlock = lv.ownBlock ∨ ∃ b, lv'.ownBlock = some b ∧ w.heap.size ≤ b) := by
  have HB := Aside0.mk hB
  have HV := Aside0.mk hv
  have HR := Aside0.mk hr
  have HSM := Aside0.mk hsm
  clear hB hv hr hsm
  go_enter Tryd.func22, Tryd.ntmps22
  go_wp2_with fail
  refine (rrising_calls B A c ms _ HB.out HR.out (by omega)).mono ?_
  rintro e w1 ⟨v, rfl, ho1, hb1⟩
  obtain ⟨l, hl⟩ : ∃ l, l = risingF [] ms := ⟨_, rfl⟩
  rw [← hl] at ho1
  have hll : l.length ≤ ms.length := by rw [hl]; exact rising_len ms
  have HL := Lib.hid hl
  obtain ⟨Av, cv, hv, hm1⟩ := ho1.mails
  subst hv
  have HRI : Aside0 (Rise l) := ⟨by rw [HL.out]; exact rise_rising ms⟩
  have HSL : Aside0 (∀ m ∈ l, ∀ f ∈ m.f1, f.size ≤ 140737488351232) := ⟨by rw [HL.out]; exact rising_small HSM.out⟩
  have hv1 := HV.out.below hb1
  obtain ⟨Al, cl, hlv, _⟩ := hv1.slice
  have hc0 := hv1.c0
  rw [hlv] at hc0
  have HS : Aside0 (RsAt B w g lv Av l w1 lv S top (.slice none 0 0) []) := ⟨⟨HB.out, hv1, OwnRow.none_ _ _ _ _ _, hm1, Tr.of_below hb1 _, .inl rfl⟩⟩
  clear ho1 hm1 hb1 hl HSM HV HR hv1 hlv
  go_wp2_with fail
  clear hc0
  go_loopw [9, 8] (fun i o wr => ∃ (k : Nat) (lvr : Value), k ≤ S.length ∧ i = .int .i64 ((k : Int) - 1) ∧ Aside0 (RsAt B w g lv Av l wr lvr (cutS q l S k) top o (cutO q l S k))) (fun i _ _ => (intOf i + 1).toNat)
  case atStart => exact ⟨S.length, lv, Nat.le_refl _, rfl, ⟨by rw [cutS_all, cutO_all]; exact HS.out⟩⟩
  case round =>
    clear HS
    obtain ⟨k, lvr, hk, rfl, HS2⟩ := hrel
    rcases Nat.eq_zero_or_pos k with rfl | hk0
    · have e0 : ((0 : Nat) : Int) - 1 = -1 := rfl
      rw [e0]
      have HS3 : Aside0 (RsAt B w g lv Av l wr lvr (syncS1 q l S) top u8 (syncO1 q l S)) := ⟨by have := HS2.out; rwa [cutS_zero, cutO_zero] at this⟩
      clear HS2 e0
      have hS1 : (syncS1 q l S).length ≤ S.length := by
        unfold syncS1
        split
        · exact Nat.le_refl _
        · exact stayF_len _ _
      have hO1 : (syncO1 q l S).length ≤ S.length := by
        unfold syncO1
        split
        · simp
        · exact goneF_len _ _ _
      go_wp2_with fail
      refine (rgrow_calls B g lvr (syncS1 q l S) top Av cv l wr (Nat.le_trans HS3.out.hb HS3.out.oB) HS3.out.view HS3.out.mails HSL.out (by omega)).mono ?_
      rintro e w2 ⟨lv3, rfl, hv3, ht3, hat3⟩
      have HS4 : Aside0 (RsAt B w g lv Av l w2 lv3 (syncG q S top l).1 (syncG q S top l).2 u8 (syncO1 q l S)) := ⟨HS3.out.view_to ht3 hv3 hat3⟩
      clear hv3 ht3 hat3 HS3
      have hG : (syncG q S top l).1.length ≤ S.length + l.length := by
        have := growF_len (syncS1 q l S) top l
        unfold syncG
        omega
      have hge : (syncS1 q l S).length ≤ (syncG q S top l).1.length := by
        have := growTo_ge (syncS1 q l S) top l l.length
        unfold growTo at this
        rw [List.take_length] at this
        exact this
      have HB3 : Aside0 (((growF (syncS1 q l S) top l).1.length : Int) - (syncS1 q l S).length = ((syncG q S top l).1.length : Int) - (syncS1 q l S).length) := ⟨rfl⟩
      rw [HB3.out]
      clear HB3
      obtain ⟨df, hdf⟩ : ∃ df : Int, df = ((syncG q S top l).1.length : Int) - (syncS1 q l S).length := ⟨_, rfl⟩
      rw [← hdf]
      have HDF := Lib.hid hdf
      obtain ⟨A3, c3, hlv3, _⟩ := HS4.out.view.slice
      have hc0 := HS4.out.view.c0
      rw [hlv3] at hc0
      have HLV3 := Lib.hid hlv3
      clear hdf hlv3
      go_upto_if 68 with fail
      go_cut [8] (fun s8 wx => Aside0 (RsAt B w g lv Av l wx lv3 (syncG q S top l).1 (syncG q S top l).2 s8 (syncO1 q l S ++ syncO2 q S top l)))
      case first =>
        by_cases hgr : (syncS1 q l S).length < (syncG q S top l).1.length
        · have hgb : 0 < df := by have := HDF.out; omega
          have e2 : Hid (syncO2 q S top l = [⟨2, ((syncG q S top l).1.length : Int), []⟩]) := Lib.hid (show _ by unfold syncO2; rw [if_pos hgr])
          go_wp2_with (at_builtin; (refine app_row (ToldAt B) w.heap.size B rfl (.tmp 69) (.tmp 76) 36 65 _ 3 40 rfl Tryd.underlying36 info65 rfl (by decide) (by omega) u8 (syncO1 q l S) ⟨2, ((syncG q S top l).1.length : Int), []⟩ [.int .i64 2, .int .i64 ((syncG q S top l).1.length : Int), .slice none 0 0] rfl _ rfl ?hm ?hp rfl ?h1 ?ho ?hb ?hBb (by simp) ?hl (fun w1 hsk p c hm => hm.step hsk) ?_); (case hm => rfl); (case hp => exact ⟨_, rfl, Fl.nil _ _⟩); (case h1 => exact told_one ⟨2, ((syncG q S top l).1.length : Int), []⟩ rfl); (case ho => exact HS4.out.out); (case hb => exact HS4.out.oB); (case hBb => exact HS4.out.hb); (case hl => omega); intro v1 w3 ho1 ht1 hat1)
          go_meet
          case rel =>
            rw [e2.out]
            exact ⟨HS4.out.out_to ht1 ho1⟩
        · have hgb : df ≤ 0 := by have := HDF.out; omega
          have e2 : Hid (syncO2 q S top l = []) := Lib.hid (show _ by unfold syncO2; rw [if_neg hgr])
          go_wp2
          go_meet
          case rel =>
            rw [e2.out, List.append_nil]
            exact HS4
      case rest =>
        have HS5 := hcut
        clear hcut HS4 hc0
        obtain ⟨G, hGG⟩ : ∃ G, G = (syncG q S top l).1 := ⟨_, rfl⟩
        obtain ⟨T, hTT⟩ : ∃ T, T = (syncG q S top l).2 := ⟨_, rfl⟩
        obtain ⟨O, hOO⟩ : ∃ O, O = syncO1 q l S ++ syncO2 q S top l := ⟨_, rfl⟩
        have hOl : O.length ≤ S.length + 1 := by
          rw [hOO, List.length_append]
          have : (syncO2 q S top l).length ≤ 1 := by unfold syncO2; split <;> simp
          omega
        rw [← hGG] at hG
        rw [← hGG, ← hTT, ← hOO] at HS5
        have HGG := Lib.hid hGG
        have HTT := Lib.hid hTT
        have HOO := Lib.hid hOO
        clear hGG hTT hOO HLV3 hge HDF
        go_wp2_with fail
        have hGl : G.length ≤ 100000 := by omega
        clear hG
        go_loopw [10, 8] (fun i o wr => ∃ (k : Nat) (lvr : Value), k ≤ G.length ∧ i = .int .i64 k ∧ Aside0 (RsAt B w g lv Av l wr lvr ((G.take k).map (flagP l) ++ G.drop k) T o (O ++ flagsO l 0 (G.take k)))) (fun i _ _ => G.length - (intOf i).toNat)
        case atStart =>
          refine ⟨0, lv3, Nat.zero_le _, rfl, ⟨?_⟩⟩
          rw [show (G.take 0).map (flagP l) ++ G.drop 0 = G by simp, show O ++ flagsO l 0 (G.take 0) = O by simp [flagsO]]
          exact HS5.out
        case round =>
          clear HS5
          obtain ⟨k, lvr, hk, rfl, HS5⟩ := hrel
          have hSl : ((G.take k).map (flagP l) ++ G.drop k).length = G.length := map_len (by omega)
          by_cases hlt : k < G.length
          · obtain ⟨p, hp⟩ : ∃ p, G[k]? = some p := ⟨_, List.getElem?_eq_getElem hlt⟩
            have hp2 := at_map (f := flagP l) hp
            have hOl5 : (O ++ flagsO l 0 (G.take k)).length ≤ S.length + 1 + k := by
              rw [List.length_append]
              have := flagsO_len l (G.take k) 0
              have : (G.take k).length ≤ k := List.length_take_le _ _
              omega
            obtain ⟨Sk, hSk⟩ : ∃ Sk, Sk = (G.take k).map (flagP l) ++ G.drop k := ⟨_, rfl⟩
            obtain ⟨Ok, hOk⟩ : ∃ Ok, Ok = O ++ flagsO l 0 (G.take k) := ⟨_, rfl⟩
            rw [← hSk] at HS5 hp2 hSl
            rw [← hOk] at HS5 hOl5
            have HSk := Lib.hid hSk
            have HOk := Lib.hid hOk
            obtain ⟨bl, cap, vpf, hlv2, hpc, hpv, hpf, hcap, _⟩ := place_at HS5.out.view.row hp2
            have hc0 := HS5.out.view.c0
            rw [hSl] at hlv2
            have HP := Lib.hid hp
            have HP2 := Lib.hid hp2
            have HSL2 := Lib.hid hSl
            have HPF := Aside0.mk hpf
            obtain ⟨Ap, cp, rfl, _, _⟩ := hpf
            clear hp hp2 hSk hOk hSl
            subst hlv2
            go_wp2_with fail
            refine (rfind_calls (B := B) HS5.out.mails (by omega) p.f0).mono ?_
            rintro e w2 ⟨qf, rfl, hfd, rfl⟩
            have hft := hfd.there
            have HFD := Lib.hid hfd
            clear hfd
            cases hth : thereF l p.f0 with
            | false =>
              rw [hth] at hft
              have hft2 : decide (qf < 0) = true := hft
              have HTH := Lib.hid hth
              clear hth hft
              go_wp2_with fail
              go_roundw
              case measure => simp [intOf]; omega
              case rel =>
                have hno : ¬ (thereF l p.f0 = true ∧ p.f1 ≠ look l p.f0) := fun h => by rw [HTH.out] at h; cases h.1
                obtain ⟨e1, e2⟩ := flagP_no hno k
                refine ⟨k + 1, .slice (some ⟨bl, 0, none⟩) G.length cap, by omega, by go_num, ⟨?_⟩⟩
                rw [← same_map HP.out e1, flagsO_snoc HP.out, e2, List.append_nil, ← HSk.out, ← HOk.out]
                exact HS5.out
            | true =>
              rw [hth] at hft
              obtain ⟨kk, m, rfl, hkl, hm, hmu⟩ : ∃ (kk : Nat) (m : S43), qf = kk ∧ kk < l.length ∧ l[kk]? = some m ∧ m.f0 = p.f0 := by
                rcases HFD.out with ⟨e, _⟩ | h
                · rw [e] at hft; cases hft
                · exact h
              have hft2 : decide ((kk : Int) < 0) = false := hft
              have hlk : look l p.f0 = flagsF m.f1 := by rw [← hmu]; exact look_eq HRI.out (List.mem_of_getElem? hm)
              have HLK := Lib.hid hlk
              have HTH := Lib.hid hth
              have hms := HSL.out m (List.mem_of_getElem? hm)
              have HM := Lib.hid hm
              obtain ⟨ad, vf, x, hAv, hx, ⟨_, h1, _⟩, hf⟩ := mail_at HS5.out.mails kk hkl
              rw [hm] at hx
              injection hx with hx
              subst hx
              subst hAv
              have HF := Aside0.mk hf
              obtain ⟨Af, cf, rfl, _, _⟩ := hf
              clear hth hft hlk hm hmu
              go_wp2_with fail
              refine (rflags_calls Af cf m.f1 _ (fl_now HF.out) hms).mono ?_
              rintro e w4 ⟨v4, rfl, hs4, hb4⟩
              have HS8 := Aside0.mk (HS5.out.below hb4)
              have HF4 := Aside0.mk (hs4.fl B)
              have HPF4 := Aside0.mk (HPF.out.step (SK.of_below hb4))
              have hc4 := HS8.out.view.c0
              have hpv4 : w4.cell? ⟨bl, k * 2 + 1, none⟩ = some (.slice Ap p.f1.length cp) := pw_cell_below hb4 hpv
              obtain ⟨A4, c4, hv4, _⟩ := OwnRow.slice_ hs4
              have hfl : (flagsF m.f1).length ≤ 20 := flagsF_len _
              subst hv4
              clear hs4 hb4 hc0 hpv h1 hpc HF HS5 HPF
              go_wp2_with fail
              refine (same16_calls (B := B) HF4.out HPF4.out (by omega)).mono ?_
              rintro e w5 ⟨rfl, hb5⟩
              have HS9 := Aside0.mk (HS8.out.below hb5)
              have HF5 := Aside0.mk (HF4.out.step (SK.of_below hb5))
              have hc5 := HS9.out.view.c0
              have hpv5 : w5.cell? ⟨bl, k * 2 + 1, none⟩ = some (.slice Ap p.f1.length cp) := pw_cell_below hb5 hpv4
              have hfz5 := HS9.out.view.frow (k * 2 + 1)
              clear hb5 HS8 HF4 HPF4 hc4 hpv4
              by_cases heq : flagsF m.f1 = p.f1
              · have hd : decide (flagsF m.f1 = p.f1) = true := by simpa using heq
                rw [hd]
                have HEQ := Lib.hid heq
                clear hd heq
                go_wp2_with fail
                go_roundw
                case measure => simp [intOf]; omega
                case rel =>
                  have hno : ¬ (thereF l p.f0 = true ∧ p.f1 ≠ look l p.f0) := fun h => h.2 (by rw [HLK.out]; exact HEQ.out.symm)
                  obtain ⟨e1, e2⟩ := flagP_no hno k
                  refine ⟨k + 1, .slice (some ⟨bl, 0, none⟩) G.length cap, by omega, by go_num, ⟨?_⟩⟩
                  rw [← same_map HP.out e1, flagsO_snoc HP.out, e2, List.append_nil, ← HSk.out, ← HOk.out]
                  exact HS9.out
              · have hd : decide (flagsF m.f1 = p.f1) = false := by simpa using heq
                rw [hd]
                have HEQ := Lib.hid heq
                clear hd heq
                obtain ⟨hv8, ht8⟩ := HS9.out.view.setFlags HSL2.out.symm HP2.out HF5.out (by decide) (by decide)
                have HS10 := Aside0.mk (HS9.out.view_to ht8 hv8 (.inl rfl))
                have HF10 := Aside0.mk (HF5.out.step (HS9.out.view.sk ht8 (T := [9]) (by decide) (by decide)))
                have hFl : flagsF m.f1 = look l p.f0 := HLK.out.symm
                have HFL := Lib.hid hFl
                clear hv8 ht8 hFl
                go_upto_region 19 with fail
                generalize w5.setCell _ _ = W6 at *
                clear hc5 hpv5 hfz5 HS9 HF5
                go_wp2_with (at_builtin; (refine app_row (ToldAt B) w.heap.size B rfl (.tmp 124) (.tmp 129) 36 65 _ 3 40 rfl Tryd.underlying36 info65 rfl (by decide) (by omega) u8 Ok ⟨3, (k : Int) + 1, flagsF m.f1⟩ [.int .i64 3, .int .i64 ((k : Int) + 1), .slice A4 (flagsF m.f1).length c4] rfl _ rfl ?hm ?hp rfl ?h1 ?ho ?hb ?hBb (by simp) ?hl (fun w1 hsk p c hm => hm.step hsk) ?_); (case hm => rfl); (case hp => exact ⟨_, rfl, HF10.out⟩); (case h1 => exact told_one ⟨3, (k : Int) + 1, flagsF m.f1⟩ rfl); (case ho => exact HS10.out.out); (case hb => exact HS10.out.oB); (case hBb => exact HS10.out.hb); (case hl => omega); intro v1 w7 ho1 ht1 hat1)
                go_roundw
                case measure => simp [intOf]; omega
                case rel =>
                  obtain ⟨e1, e2⟩ := flagP_yes ⟨HTH.out, fun e => HEQ.out (by rw [HFL.out, e])⟩ k
                  refine ⟨k + 1, .slice (some ⟨bl, 0, none⟩) G.length cap, by omega, by go_num, ⟨?_⟩⟩
                  rw [← set_map HP.out, e1, flagsO_snoc HP.out, e2, ← HSk.out, ← List.append_assoc, ← HOk.out, ← HFL.out]
                  exact HS10.out.out_to ht1 ho1
          · have hks : k = G.length := by omega
            subst hks
            have hc0 := HS5.out.view.c0
            obtain ⟨Al2, cl2, hlv2, _⟩ := HS5.out.view.slice
            rw [hSl] at hlv2
            rw [hlv2] at hc0
            have HLV2 := Lib.hid hlv2
            clear hlv2 hSl
            go_wp2_with fail
            go_ret
            have hfin := HS5.out
            rw [List.take_length, List.drop_length, List.append_nil] at hfin
            refine ⟨_, u8, rfl, ?_, ?_, hfin.tr, hfin.own⟩
            · have := hfin.view
              rw [← HL.out]
              rw [show syncS q S top l = G.map (flagP l) by unfold syncS; rw [← HGG.out], ← HTT.out]
              exact this
            · have := hfin.out
              rw [HOO.out, HGG.out] at this
              rw [← HL.out]
              exact this
    · obtain ⟨j, rfl⟩ : ∃ j, k = j + 1 := ⟨k - 1, by omega⟩
      have e0 : ((j + 1 : Nat) : Int) - 1 = (j : Int) := by omega
      rw [e0]
      clear e0
      have hjl : j < S.length := by omega
      obtain ⟨p, hp⟩ : ∃ p, S[j]? = some p := ⟨_, List.getElem?_eq_getElem hjl⟩
      rcases Bool.eq_false_or_eq_true q with rfl | rfl
      · have HP := Lib.hid hp
        clear hp
        go_wp2_with fail
        go_roundw
        case measure => simp [intOf]
        case rel =>
          obtain ⟨e1, e2⟩ := cut_skip (l := l) HP.out (.inl rfl)
          exact ⟨j, lvr, by omega, rfl, ⟨by rw [← e1, e2]; exact HS2.out⟩⟩
      · have hp2 := hp
        rw [← cutS_at (q := false) (l := l) hjl] at hp2
        have hjc : j < (cutS false l S (j + 1)).length := (List.getElem?_eq_some_iff.1 hp2).1
        have hS3 : (cutS false l S (j + 1)).length ≤ S.length := cutS_len _ _ _ _
        have hO3 : (cutO false l S (j + 1)).length ≤ S.length := cutO_len _ _ _ _
        obtain ⟨S', hS'⟩ : ∃ S', S' = cutS false l S (j + 1) := ⟨_, rfl⟩
        obtain ⟨O', hO'⟩ : ∃ O', O' = cutO false l S (j + 1) := ⟨_, rfl⟩
        rw [← hS'] at HS2 hp2 hjc hS3
        rw [← hO'] at HS2 hO3
        have HSS := Lib.hid hS'
        have HOO := Lib.hid hO'
        clear hS' hO'
        obtain ⟨bl, cap, vpf, hlv2, hpc, _, _, hcap, _⟩ := place_at HS2.out.view.row hp2
        have hc0 := HS2.out.view.c0
        have HP := Lib.hid hp
        clear hp hp2
        subst hlv2
        go_wp2_with fail
        refine (rfind_calls (B := B) HS2.out.mails (by omega) p.f0).mono ?_
        rintro e w2 ⟨qf, rfl, hfd, rfl⟩
        have hft := hfd.there
        have HFD := Lib.hid hfd
        clear hfd
        cases hth : thereF l p.f0 with
        | true =>
          rw [hth] at hft
          have hft2 : decide (qf < 0) = false := hft
          have HTH := Lib.hid hth
          clear hth hft
          go_wp2_with fail
          go_roundw
          case measure => simp [intOf]
          case rel =>
            obtain ⟨e1, e2⟩ := cut_skip (q := false) (l := l) HP.out (.inr HTH.out)
            exact ⟨j, .slice (some ⟨bl, 0, none⟩) S'.length cap, by omega, rfl, ⟨by rw [← e1, e2, ← HSS.out, ← HOO.out]; exact HS2.out⟩⟩
        | false =>
          rw [hth] at hft
          have hft2 : decide (qf < 0) = true := hft
          have HTH := Lib.hid hth
          clear hth hft
          go_upto_region 7 with fail
          have HSd := Aside0.mk (HS2.out.below (below_drew (Below.refl _ _)))
          obtain ⟨v3, w3, v4, w4, hx3, hx4, hb3, hb4, ho4, bn, hbn, hbnl⟩ := take_out (W := wr.drew) (Nat.le_trans HSd.out.hb HSd.out.oB) HSd.out.view.row rfl hjc (by omega)
          obtain ⟨f1, f2, hv5, ht5⟩ := HSd.out.view.setRow (by decide) (by decide) (Tr.of_below hb4 (fun k => (Value.slice (some ⟨bl, 0, none⟩) S'.length cap).ownBlock = some k)) ho4
          obtain ⟨A4, c4, hv4, _⟩ := OwnRow.slice_ ho4
          subst hv4
          have HBN : Aside0 (∃ b, (Value.slice A4 (S'.eraseIdx j).length c4).ownBlock = some b ∧ wr.heap.size ≤ b) := ⟨⟨bn, hbn, hbnl⟩⟩
          have HV5 := Aside0.mk hv5
          have HT5 := Aside0.mk ht5
          have g1 : ∀ o, (wr.alloc o).cell? ⟨g, 0, none⟩ = some (.slice (some ⟨bl, 0, none⟩) S'.length cap) := fun o => pw_cell_below (below_alloc (Below.refl _ _) o) hc0
          have g3 : w3.cell? ⟨g, 0, none⟩ = some (.slice (some ⟨bl, 0, none⟩) S'.length cap) := pw_cell_below (w := wr.drew) hb3 hc0
          have hjw : IntKind.i64.wrap ((j : Int) + 1) = (j : Int) + 1 := by rw [IntKind.wrap_i64]; omega
          have hj1 : (0 : Int) ≤ (j : Int) + 1 := by omega
          have hj2 : (j : Int) + 1 ≤ (S'.length : Int) := by omega
          have hj3 : ((j : Int) + 1).toNat = j + 1 := by omega
          have hj4 : (j : Int) ≤ (cap : Int) := by omega
          have HX4 := Aside0.mk hx4
          have HX3 : Aside0 ((Builtin.append_ #[78, 78] 78 #[.slice (some ⟨wr.heap.size, 0, none⟩) 0 0, .slice (some ⟨bl, 0, none⟩) j cap]).run Tryd.prog (wr.alloc (.cells #[] 84)).drew = .ok v3 w3) := ⟨hx3⟩
          clear hx3 hx4 hb3 hb4 ho4 hbn hbnl hv5 ht5
          have HRS : Aside0 (RsAt B w g lv Av l (w4.setCell ⟨g, 0, none⟩ (.slice A4 (S'.eraseIdx j).length c4)) (.slice A4 (S'.eraseIdx j).length c4) (S'.eraseIdx j) top u8 O') := ⟨HSd.out.view_to HT5.out HV5.out (.inr HBN.out)⟩
          clear HV5 HT5 HBN
          go_cut [] from 40 to 58 (fun wx => Aside0 (RsAt B w g lv Av l wx (.slice A4 (S'.eraseIdx j).length c4) (S'.eraseIdx j) top u8 O'))
          case first =>
            by_cases hcj : cap = j + 1
            · subst hcj
              have hx4 := HX4.out
              rw [if_pos rfl, Nat.sub_self, show S'.length - (j + 1) = 0 by omega] at hx4
              have HX5 := Aside0.mk hx4
              have hj5 : (j : Int) ≤ (j : Int) + 1 := by omega
              clear hx4
              go_region_law (first | (refine rows_step (by rfl) (.tmp 41) (.tmp 47) 78 (by rfl) (by rfl) (by rfl) HX3.out ?_) | (refine rows_step (by rfl) (.tmp 48) (.tmp 55) 78 (by rfl) (by rfl) (by rfl) HX5.out ?_))
              all_goals
                go_wp2
                go_meet
                case rel => first | exact HRS | exact ⟨HRS.out.below (below_drew (Below.refl _ _))⟩
            · have hx4 := HX4.out
              rw [if_neg hcj] at hx4
              have HX5 := Aside0.mk hx4
              clear hx4
              go_region_law (first | (refine rows_step (by rfl) (.tmp 41) (.tmp 47) 78 (by rfl) (by rfl) (by rfl) HX3.out ?_) | (refine rows_step (by rfl) (.tmp 48) (.tmp 55) 78 (by rfl) (by rfl) (by rfl) HX5.out ?_))
              all_goals
                go_wp2
                go_meet
                case rel => first | exact HRS | exact ⟨HRS.out.below (below_drew (Below.refl _ _))⟩
          case rest =>
            have HS6 := hcut
            clear hcut HRS HX3 HX4 g1 g3 f1 f2 hc0 hpc HSd hjw hj1 hj2 hj3 hj4
            go_wp2_with (at_builtin; (refine app_row (ToldAt B) w.heap.size B rfl (.tmp 59) (.tmp 63) 36 65 _ 3 40 rfl Tryd.underlying36 info65 rfl (by decide) (by omega) u8 O' ⟨1, (j : Int) + 1, []⟩ [.int .i64 1, .int .i64 ((j : Int) + 1), .slice none 0 0] rfl _ rfl ?hm ?hp rfl ?h1 ?ho ?hb ?hBb (by simp) ?hl (fun w1 hsk p c hm => hm.step hsk) ?_); (case hm => rfl); (case hp => exact ⟨_, rfl, Fl.nil _ _⟩); (case h1 => exact told_one ⟨1, (j : Int) + 1, []⟩ rfl); (case ho => exact HS6.out.out); (case hb => exact HS6.out.oB); (case hBb => exact HS6.out.hb); (case hl => omega); intro v8 w8 ho8 ht8 hat8)
            go_roundw
            case measure => simp [intOf]
            case rel =>
              obtain ⟨e1, e2⟩ := cut_out HP.out HTH.out
              exact ⟨j, _, by omega, rfl, ⟨by rw [← e1, e2, ← HSS.out, ← HOO.out]; exact HS6.out.out_to ht8 ho8⟩⟩
end Go.Proofs.YtnenlkojecicfaaDoor.V
