/- The reference's Rising: the messages by rising UID. -/
import Derived.Test.YtnenlkojecicfaaDoorV1
set_option linter.unusedVariables false
set_option linter.unusedSimpArgs false
namespace Go.Proofs.YtnenlkojecicfaaDoor.V
open Go.RowKit Go.Proofs.YtnenlkojecicfaaDoorW.PrintWords Go.Proofs.YtnenlkojecicfaaDoor.P

theorem mails_uid {B n k : Nat} {w : World} {ad : Addr} {ms : List S43} {x : S43} (h : Mails B w (some ad) n ms) (hx : ms[k]? = some x) : w.cell? (ad.add (k * 12)) = some (.int .i64 x.f0) := by
  have hk := (List.getElem?_eq_some_iff.1 hx).1
  obtain ⟨ad', _, x', e, hx', ⟨h0, _⟩, _⟩ := mail_at h k (by have := h.1.1; omega)
  injection e with e
  subst e
  rw [hx] at hx'
  injection hx' with hx'
  rw [hx']
  exact h0

set_option maxRecDepth 100000 in
set_option maxHeartbeats 2000000 in
theorem rrising_calls (B : Nat) (A : Option Addr) (c : Nat) (ms : List S43) (w : World) (hB : B ≤ w.heap.size) (hr : Mails B w A ms.length ms) (hm : ms.length ≤ 1000000) :
    Calls Tryd.prog 16 #[.slice A ms.length c] w fun e w' => ∃ v : Value, e = .returned v ∧ MRow B w' w.heap.size v (risingF [] ms) ∧ Below w.heap.size w w' := by
  have hBB := Aside0.mk hB
  clear hB
  go_enter Tryd.func16, Tryd.ntmps16
  go_wp2
  go_loopw [3, 4, 5] (fun v la i wr => ∃ (k : Nat) (last : Int), k ≤ ms.length ∧ i = .int .i64 k ∧ la = .int .i64 last ∧ Aside0 (last = lastUID (risingTo ms k)) ∧ Aside0 (MRow B wr w.heap.size v (risingTo ms k)) ∧ Aside0 (Below w.heap.size w wr)) (fun _ _ i _ => ms.length - (intOf i).toNat)
  case atStart => exact ⟨0, 0, Nat.zero_le _, rfl, rfl, ⟨rfl⟩, ⟨OwnRow.none_ _ _ _ _ _⟩, ⟨Below.refl _ _⟩⟩
  case round =>
    obtain ⟨k, last, hk, rfl, rfl, HL, HO, HB⟩ := hrel
    have HW := Aside0.mk HB.out.size
    by_cases hlt : k < ms.length
    · have hrw := hr.below HB.out
      obtain ⟨ad, vf, x, rfl, hx, ⟨h0, h1, h2, h3, h4, h5, h6, h7, h8, h9, h10, h11⟩, hf⟩ := mail_at hrw k hlt
      have HX := Lib.hid hx
      clear hx
      have HF := Aside0.mk hf
      obtain ⟨Af, cf, rfl, _⟩ := hf
      clear hrw
      by_cases c1 : last < x.f0
      · have c1b : decide (last < x.f0) = true := by simpa using c1
        go_wp2_with (at_builtin; (refine app_row (MailAt B) w.heap.size B rfl (.tmp 19) (.tmp 24) 22 43 _ 12 120 rfl Tryd.underlying22 info43 rfl (by decide) (by omega) _ (risingTo ms k) x (mcells x (.slice Af x.f1.length cf)) rfl _ rfl ?hm ?hp rfl (mcells_one x HF.out) ?ho ?hb hBB.out (by simp) ?hl (fun _ hsk _ _ hm => hm.step hsk) ?_); (case hm => rfl); (case hp => exact ⟨_, rfl, HF.out⟩); (case ho => exact HO.out); (case hb => exact HW.out); (case hl => have := risingTo_len ms k; omega); intro v1 w1 ho1 ht1 hat1; have hg0 : w1.cell? (ad.add (k * 12)) = some (.int .i64 x.f0) := mails_uid (hr.below (HB.out.trans (ht1.below (fun j hj he => by have := orow_base HO.out j he; omega) HW.out))) HX.out)
        go_roundw
        case measure => simp [intOf]; omega
        case rel =>
          refine ⟨k + 1, x.f0, by omega, by go_num, rfl, ⟨?_⟩, ⟨?_⟩, ⟨?_⟩⟩
          · rw [step_yes HX.out (by rw [← HL.out]; exact c1)]; simp [lastUID]
          · rw [step_yes HX.out (by rw [← HL.out]; exact c1)]; exact ho1
          · exact HB.out.trans (ht1.below (fun j hj he => by have := orow_base HO.out j he; omega) HW.out)
      · have c1b : decide (last < x.f0) = false := by simpa using c1
        go_wp2
        go_roundw
        case measure => simp [intOf]; omega
        case rel =>
          refine ⟨k + 1, last, by omega, by go_num, rfl, ⟨?_⟩, ⟨?_⟩, HB⟩
          · rw [step_no HX.out (by rw [← HL.out]; omega)]; exact HL.out
          · rw [step_no HX.out (by rw [← HL.out]; omega)]; exact HO.out
    · have hks : k = ms.length := by omega
      subst hks
      go_wp2
      go_ret
      refine ⟨_, rfl, ?_, HB.out⟩
      have := HO.out
      unfold risingTo at this
      rwa [List.take_length] at this
end Go.Proofs.YtnenlkojecicfaaDoor.V
