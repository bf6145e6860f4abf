/- view.rising and the reference's Rising: the messages by rising UID. The reference's Rising: the messages by rising UID. -/
import Derived.Test.YtnenlkojecicfaaDoorB
import Derived.Lib.Hide
import Derived.IntWalk
import Derived.Outline
import Derived.LoopTactic
set_option linter.unusedVariables false
set_option linter.unusedSimpArgs false
namespace Go.Proofs.YtnenlkojecicfaaDoor.V
open Go.RowKit Go.Proofs.YtnenlkojecicfaaDoorW.PrintWords Go.Proofs.YtnenlkojecicfaaDoor.P

def mcells (x : S43) (v1 : Value) : List Value := [.int .i64 x.f0, v1, .int .i64 x.f2.f0, .int .i64 x.f2.f1, .int .i64 x.f2.f2, .int .i64 x.f2.f3, .int .i64 x.f2.f4, .int .i64 x.f2.f5, .int .i64 x.f2.f6, .string x.f3, .int .i64 x.f4, .int .i64 x.f5]
/-- What the cells of a message say: its flags lie in blocks that nobody writes. -/
def MailAt (B : Nat) (w : World) (x : S43) (cs : List Value) : Prop := ∃ v1, cs = mcells x v1 ∧ Fl B w v1 x.f1
theorem MailAt.step {B : Nat} {w w1 : World} {x : S43} {cs : List Value} (h : MailAt B w x cs) (hk : SK [9] B w w1) : MailAt B w1 x cs := by
  obtain ⟨v1, e, hf⟩ := h
  exact ⟨v1, e, hf.step hk⟩
theorem mcells_one (x : S43) {B : Nat} {w : World} {v1 : Value} (h : Fl B w v1 x.f1) : ∀ u ∈ mcells x v1, u.oneCell' = true := by
  obtain ⟨A, c, rfl, _⟩ := h
  intro u hu
  simp only [mcells, List.mem_cons, List.mem_nil_iff, or_false] at hu
  rcases hu with rfl | rfl | rfl | rfl | rfl | rfl | rfl | rfl | rfl | rfl | rfl | rfl <;> rfl
/-- Messages that are read. -/
def Mails (B : Nat) (w : World) (A : Option Addr) (n : Nat) (ms : List S43) : Prop := Rw 43 B (MailAt B) 12 w A n ms
theorem Mails.step {B n : Nat} {w w1 : World} {A : Option Addr} {ms : List S43} (h : Mails B w A n ms) (hk : SK [9, 43] B w w1) : Mails B w1 A n ms :=
  Rw.step h hk (by simp) (fun _ _ hr => hr.step (hk.sub (by simp)))
theorem Mails.below {B n : Nat} {w w1 : World} {A : Option Addr} {ms : List S43} (h : Mails B w A n ms) (hb : Below w.heap.size w w1) : Mails B w1 A n ms := h.step (SK.of_below hb)
/-- Message k of a list that is read: its cells; its flags. -/
theorem mail_at {B n : Nat} {w : World} {A : Option Addr} {ms : List S43} (h : Mails B w A n ms) (k : Nat) (hk : k < n) :
    ∃ ad v1 x, A = some ad ∧ ms[k]? = some x ∧ (w.cell? (ad.add (k * 12)) = some (.int .i64 x.f0) ∧
      w.cell? ⟨(ad.add (k * 12)).block, (ad.add (k * 12)).off + 1, none⟩ = some v1 ∧
      w.cell? ⟨(ad.add (k * 12)).block, (ad.add (k * 12)).off + 2, none⟩ = some (.int .i64 x.f2.f0) ∧
      w.cell? ⟨(ad.add (k * 12)).block, (ad.add (k * 12)).off + 3, none⟩ = some (.int .i64 x.f2.f1) ∧
      w.cell? ⟨(ad.add (k * 12)).block, (ad.add (k * 12)).off + 4, none⟩ = some (.int .i64 x.f2.f2) ∧
      w.cell? ⟨(ad.add (k * 12)).block, (ad.add (k * 12)).off + 5, none⟩ = some (.int .i64 x.f2.f3) ∧
      w.cell? ⟨(ad.add (k * 12)).block, (ad.add (k * 12)).off + 6, none⟩ = some (.int .i64 x.f2.f4) ∧
      w.cell? ⟨(ad.add (k * 12)).block, (ad.add (k * 12)).off + 7, none⟩ = some (.int .i64 x.f2.f5) ∧
      w.cell? ⟨(ad.add (k * 12)).block, (ad.add (k * 12)).off + 8, none⟩ = some (.int .i64 x.f2.f6) ∧
      w.cell? ⟨(ad.add (k * 12)).block, (ad.add (k * 12)).off + 9, none⟩ = some (.string x.f3) ∧
      w.cell? ⟨(ad.add (k * 12)).block, (ad.add (k * 12)).off + 10, none⟩ = some (.int .i64 x.f4) ∧
      w.cell? ⟨(ad.add (k * 12)).block, (ad.add (k * 12)).off + 11, none⟩ = some (.int .i64 x.f5)) ∧
      Fl B w v1 x.f1 := by
  obtain ⟨⟨hl, _, h1⟩, _⟩ := h
  obtain ⟨ad, e, hc1⟩ := h1 (by omega)
  have hg : ms[k]? = some (ms[k]'(by omega)) := List.getElem?_eq_getElem (by omega)
  obtain ⟨c, _, ⟨v1, rfl, hf⟩, hc⟩ := hc1 k _ hg
  refine ⟨ad, v1, _, e, hg, ⟨hc 0 _ rfl, ?_, ?_, ?_, ?_, ?_, ?_, ?_, ?_, ?_, ?_, ?_⟩, hf⟩
  · rw [← add_field _ _ 1 (by omega)]; exact hc 1 _ rfl
  · rw [← add_field _ _ 2 (by omega)]; exact hc 2 _ rfl
  · rw [← add_field _ _ 3 (by omega)]; exact hc 3 _ rfl
  · rw [← add_field _ _ 4 (by omega)]; exact hc 4 _ rfl
  · rw [← add_field _ _ 5 (by omega)]; exact hc 5 _ rfl
  · rw [← add_field _ _ 6 (by omega)]; exact hc 6 _ rfl
  · rw [← add_field _ _ 7 (by omega)]; exact hc 7 _ rfl
  · rw [← add_field _ _ 8 (by omega)]; exact hc 8 _ rfl
  · rw [← add_field _ _ 9 (by omega)]; exact hc 9 _ rfl
  · rw [← add_field _ _ 10 (by omega)]; exact hc 10 _ rfl
  · rw [← add_field _ _ 11 (by omega)]; exact hc 11 _ rfl
/-- Messages in a row of one's own. -/
def MRow (B : Nat) (w : World) (base : Nat) (v : Value) (ms : List S43) : Prop := OwnRow (MailAt B w) 43 12 w base v ms
theorem MRow.below {B base : Nat} {w w1 : World} {v : Value} {ms : List S43} (h : MRow B w base v ms) (hb : Below w.heap.size w w1) : MRow B w1 base v ms :=
  (OwnRow.below h hb).imp_ (fun _ _ hm => hm.step (SK.of_below hb))

/-- The last UID of a list that rises, 0 without one. -/
def lastUID (l : List S43) : Int := (l.getLast?.map (·.f0)).getD 0
/-- By rising UID; others are passed over. -/
def risingF (acc : List S43) : List S43 → List S43
  | [] => acc
  | m :: r => risingF (if lastUID acc < m.f0 then acc ++ [m] else acc) r
def risingTo (l : List S43) (k : Nat) : List S43 := risingF [] (l.take k)
theorem risingF_snoc (acc l : List S43) (m : S43) : risingF acc (l ++ [m]) = (if lastUID (risingF acc l) < m.f0 then risingF acc l ++ [m] else risingF acc l) := by
  induction l generalizing acc with
  | nil => rfl
  | cons a r ih => exact ih _
theorem risingTo_succ (l : List S43) (k : Nat) (hk : k < l.length) : risingTo l (k + 1) = (if lastUID (risingTo l k) < (l.getD k z43).f0 then risingTo l k ++ [l.getD k z43] else risingTo l k) := by
  unfold risingTo
  rw [List.take_succ_eq_append_getElem hk, risingF_snoc]
  simp [List.getD, hk]
theorem risingF_len (acc l : List S43) : (risingF acc l).length ≤ acc.length + l.length := by
  induction l generalizing acc with
  | nil => simp [risingF]
  | cons a r ih =>
    have := ih (if lastUID acc < a.f0 then acc ++ [a] else acc)
    have h2 : (if lastUID acc < a.f0 then acc ++ [a] else acc).length ≤ acc.length + 1 := by split <;> simp
    unfold risingF
    rw [List.length_cons]
    omega
theorem risingTo_len (l : List S43) (k : Nat) : (risingTo l k).length ≤ k := by
  have := risingF_len [] (l.take k)
  simp [risingTo] at *
  omega


theorem last_ge (l : List S43) (k : Nat) (h : risingTo l k ≠ []) : 1 ≤ lastUID (risingTo l k) := by
  induction k with
  | zero => simp [risingTo, risingF] at h
  | succ k ih =>
    by_cases hk : k < l.length
    · rw [risingTo_succ l k hk] at h ⊢
      split
      · rename_i hc
        have : 0 ≤ lastUID (risingTo l k) := by
          by_cases e : risingTo l k = []
          · rw [e]; simp [lastUID]
          · have := ih e; omega
        simp [lastUID]
        simp [lastUID] at this hc
        omega
      · rename_i hc
        rw [if_neg hc] at h
        exact ih h
    · have e : risingTo l (k + 1) = risingTo l k := by
        unfold risingTo
        rw [List.take_of_length_le (by omega), List.take_of_length_le (by omega)]
      rw [e] at h ⊢
      exact ih h

theorem mrow_last {B base : Nat} {w : World} {v : Value} {ms : List S43} (h : MRow B w base v ms) {m : Nat} (hm : ms.length = m + 1) :
    ∃ g cap, v = .slice (some ⟨g, 0, none⟩) (m + 1) cap ∧ w.cell? ⟨g, m * 12, none⟩ = some (.int .i64 (lastUID ms)) := by
  obtain ⟨inner, ho, hr⟩ := h
  obtain ⟨g, cap, hv, _, _⟩ := ho.form (by omega)
  subst hv
  refine ⟨g, cap, by rw [hm], ?_⟩
  have hl : ms[m]? = some (ms[m]'(by omega)) := List.getElem?_eq_getElem (by omega)
  obtain ⟨v1, hc, _⟩ := hr.2 m _ hl
  have h0 : inner[m * 12]? = some (.int .i64 (ms[m]'(by omega)).f0) := by
    have := congrArg (fun l => l[0]?) hc
    simpa [mcells, List.getElem?_take, List.getElem?_drop] using this
  have := ho.cells (g := g) rfl _ _ h0
  rw [add_plain] at this
  rw [this]
  have e : lastUID ms = (ms[m]'(by omega)).f0 := by
    simp [lastUID, List.getLast?_eq_getElem?, hm]
  rw [e]

theorem step_yes {ms : List S43} {k : Nat} {x : S43} (hx : ms[k]? = some x) (h : lastUID (risingTo ms k) < x.f0) : risingTo ms (k + 1) = risingTo ms k ++ [x] := by
  have hk := (List.getElem?_eq_some_iff.1 hx).1
  rw [risingTo_succ ms k hk, List.getD_eq_getElem?_getD, hx]
  simp [h]
theorem step_no {ms : List S43} {k : Nat} {x : S43} (hx : ms[k]? = some x) (h : ¬ lastUID (risingTo ms k) < x.f0) : risingTo ms (k + 1) = risingTo ms k := by
  have hk := (List.getElem?_eq_some_iff.1 hx).1
  rw [risingTo_succ ms k hk, List.getD_eq_getElem?_getD, hx]
  simp [h]
/-- Behind an append: what the messages' cells say, in the world behind. -/
theorem mrow_grown {B base : Nat} {W w1 : World} {v v1 : Value} {ms ms1 : List S43} (ho : MRow B W base v ms) (hB : B ≤ base) (h : OwnRow (MailAt B W) 43 12 w1 base v1 ms1) (hg : W.grownBy w1 v.ownBlock) : MRow B w1 base v1 ms1 := by
  obtain ⟨inner, hown, _⟩ := ho
  exact h.imp_ (fun _ _ hm => hm.step (SK.of_grown hg hown hB (by simp)))

set_option maxRecDepth 100000 in
set_option maxHeartbeats 2000000 in
theorem rising_calls (B : Nat) (A : Option Addr) (c : Nat) (ms : List S43) (w : World) (hB : B ≤ w.heap.size) (hr : Mails B w A ms.length ms) (hm : ms.length ≤ 1000000) :
    Calls Tryd.prog 36 #[.slice A ms.length c] w fun e w' => ∃ v : Value, e = .returned v ∧ MRow B w' w.heap.size v (risingF [] ms) ∧ Below w.heap.size w w' := by
  have hBB := Aside0.mk hB
  clear hB
  go_enter Tryd.func36, Tryd.ntmps36
  go_wp2
  go_loopw [3, 8] (fun v i wr => ∃ k : Nat, k ≤ ms.length ∧ i = .int .i64 k ∧ Aside0 (MRow B wr w.heap.size v (risingTo ms k)) ∧ Aside0 (Below w.heap.size w wr)) (fun _ i _ => ms.length - (intOf i).toNat)
  case atStart => exact ⟨0, Nat.zero_le _, rfl, ⟨OwnRow.none_ _ _ _ _ _⟩, ⟨Below.refl _ _⟩⟩
  case round =>
    obtain ⟨k, hk, rfl, HO, HB⟩ := hrel
    have HW := Aside0.mk HB.out.size
    by_cases hlt : k < ms.length
    · have hrw := hr.below HB.out
      obtain ⟨ad, vf, x, rfl, hx, ⟨h0, h1, h2, h3, h4, h5, h6, h7, h8, h9, h10, h11⟩, hf⟩ := mail_at hrw k hlt
      have HX := Lib.hid hx
      clear hx
      have HF := Aside0.mk hf
      obtain ⟨Af, cf, rfl, _⟩ := hf
      clear hrw
      by_cases c1 : 1 ≤ x.f0
      · have c1b : decide (1 ≤ x.f0) = true := by simpa using c1
        by_cases c2 : risingTo ms k = []
        · have HC2 := Aside0.mk c2
          obtain ⟨Av, cv, hv, _⟩ := OwnRow.slice_ HO.out
          have hv2 : u3 = .slice Av 0 cv := by rw [hv, c2]; rfl
          subst hv2
          clear c2 hv
          go_wp2
          go_quiet (fail)
          go_wp2_with (at_builtin; (refine app_row (MailAt B) w.heap.size B rfl (.tmp 32) (.tmp 34) 22 43 _ 12 120 rfl Tryd.underlying22 info43 rfl (by decide) (by omega) _ (risingTo ms k) x (mcells x (.slice Af x.f1.length cf)) rfl _ rfl ?hm ?hp rfl (mcells_one x HF.out) ?ho ?hb hBB.out (by simp) ?hl (fun _ hsk _ _ hm => hm.step hsk) ?_); (case hm => simp); (case hp => exact ⟨_, rfl, HF.out.step (SK.of_below (by repeat (first | exact Below.refl _ _ | apply below_alloc | apply pw_below_drewN | apply below_drew)))⟩); (case ho => exact HO.out.below (by repeat (first | exact Below.refl _ _ | apply below_alloc | apply pw_below_drewN | apply below_drew))); (case hb => have := HW.out; simp; omega); (case hl => have := risingTo_len ms k; omega); intro v1 w1 ho1 ht1 hat1)
          go_roundw
          case measure => simp [intOf]; omega
          case rel =>
            refine ⟨k + 1, by omega, by go_num, ⟨?_⟩, ⟨?_⟩⟩
            · rw [step_yes HX.out (by rw [HC2.out]; simp [lastUID]; omega)]; exact ho1
            · exact HB.out.trans ((((Tr.refl _ wr).alloc _).drewN _ |>.trans ht1 (fun _ _ h => h)).below (fun j hj he => by have := orow_base HO.out j he; omega) HW.out)
        · obtain ⟨m, hm⟩ : ∃ m, (risingTo ms k).length = m + 1 := ⟨(risingTo ms k).length - 1, by have h0 : (risingTo ms k).length ≠ 0 := (by simpa using c2); omega⟩
          obtain ⟨g, cap, hv, hlast⟩ := mrow_last HO.out hm
          subst hv
          have hlast2 : ∀ ob, (wr.alloc ob).cell? ⟨g, m * 12, none⟩ = some (.int .i64 (lastUID (risingTo ms k))) := fun ob => pw_cell_below (below_alloc (Below.refl _ _) ob) hlast
          have hml : m ≤ 1000000 := by have := risingTo_len ms k; omega
          have hw1 : IntKind.i64.wrap (m : Int) = (m : Int) := IntWalk.i64_in _ (by omega)
          have hz1 : (((m : Int) + 1) == 0) = false := by simp; omega
          have hz2 : 0 ≤ (m : Int) := by omega
          have hz3 : (m : Int) < (m : Int) + 1 := by omega
          clear c2 hm
          by_cases c3 : lastUID (risingTo ms k) < x.f0
          · have c3b : decide (lastUID (risingTo ms k) < x.f0) = true := by simpa using c3
            go_wp2
            go_quiet (fail)
            go_wp2_with (at_builtin; (refine app_row (MailAt B) w.heap.size B rfl (.tmp 32) (.tmp 34) 22 43 _ 12 120 rfl Tryd.underlying22 info43 rfl (by decide) (by omega) _ (risingTo ms k) x (mcells x (.slice Af x.f1.length cf)) rfl _ rfl ?hm ?hp rfl (mcells_one x HF.out) ?ho ?hb hBB.out (by simp) ?hl (fun _ hsk _ _ hm => hm.step hsk) ?_); (case hm => simp); (case hp => exact ⟨_, rfl, HF.out.step (SK.of_below (by repeat (first | exact Below.refl _ _ | apply below_alloc | apply pw_below_drewN | apply below_drew)))⟩); (case ho => exact HO.out.below (by repeat (first | exact Below.refl _ _ | apply below_alloc | apply pw_below_drewN | apply below_drew))); (case hb => have := HW.out; simp; omega); (case hl => have := risingTo_len ms k; omega); intro v1 w1 ho1 ht1 hat1)
            go_roundw
            case measure => simp [intOf]; omega
            case rel =>
              refine ⟨k + 1, by omega, by go_num, ⟨?_⟩, ⟨?_⟩⟩
              · rw [step_yes HX.out c3]; exact ho1
              · exact HB.out.trans ((((Tr.refl _ wr).alloc _).drewN _ |>.trans ht1 (fun _ _ h => h)).below (fun j hj he => by have := orow_base HO.out j he; omega) HW.out)
          · have c3b : decide (lastUID (risingTo ms k) < x.f0) = false := by simpa using c3
            go_wp2
            go_quiet (fail)
            go_wp2
            go_roundw
            case measure => simp [intOf]; omega
            case rel =>
              refine ⟨k + 1, by omega, by go_num, ⟨?_⟩, ⟨?_⟩⟩
              · rw [step_no HX.out (by omega)]
                exact HO.out.below (by repeat (first | exact Below.refl _ _ | apply below_alloc | apply pw_below_drewN | apply below_drew))
              · exact below_then HB.out HW.out (by repeat (first | exact Below.refl _ _ | apply below_alloc | apply pw_below_drewN | apply below_drew))
      · have c1b : decide (1 ≤ x.f0) = false := by simpa using c1
        go_wp2
        go_quiet (fail)
        go_wp2
        go_roundw
        case measure => simp [intOf]; omega
        case rel =>
          refine ⟨k + 1, by omega, by go_num, ⟨?_⟩, ⟨?_⟩⟩
          · rw [step_no HX.out (fun hc => absurd c1 (by
              by_cases e : risingTo ms k = []
              · rw [e] at hc; simp [lastUID] at hc; omega
              · have := last_ge ms k e; omega))]
            exact HO.out.below (by repeat (first | exact Below.refl _ _ | apply below_alloc | apply pw_below_drewN | apply below_drew))
          · exact below_then HB.out HW.out (by repeat (first | exact Below.refl _ _ | apply below_alloc | apply pw_below_drewN | apply below_drew))
    · have hks : k = ms.length := by omega
      subst hks
      go_wp2
      go_ret
      refine ⟨_, rfl, ?_, HB.out⟩
      have := HO.out
      unfold risingTo at this
      rwa [List.take_length] at this
end Go.Proofs.YtnenlkojecicfaaDoor.V


namespace Go.Proofs.YtnenlkojecicfaaDoor.V
open Go.RowKit Go.Proofs.YtnenlkojecicfaaDoorW.PrintWords Go.Proofs.YtnenlkojecicfaaDoor.P

theorem mails_uid {B n k : Nat} {w : World} {ad : Addr} {ms : List S43} {x : S43} (h : Mails B w (some ad) n ms) (hx : ms[k]? = some x) : w.cell? (ad.add (k * 12)) = some (.int .i64 x.f0) := by
  have hk := (List.getElem?_eq_some_iff.1 hx).1
  obtain ⟨ad', _, x', e, hx', ⟨h0, _⟩, _⟩ := mail_at h k (by have := h.1.1; omega)
  injection e with e
  subst e
  rw [hx] at hx'
  injection hx' with hx'
  rw [hx']
  exact h0

set_option maxRecDepth 100000 in
set_option maxHeartbeats 2000000 in
theorem rrising_calls (B : Nat) (A : Option Addr) (c : Nat) (ms : List S43) (w : World) (hB : B ≤ w.heap.size) (hr : Mails B w A ms.length ms) (hm : ms.length ≤ 1000000) :
    Calls Tryd.prog 16 #[.slice A ms.length c] w fun e w' => ∃ v : Value, e = .returned v ∧ MRow B w' w.heap.size v (risingF [] ms) ∧ Below w.heap.size w w' := by
  have hBB := Aside0.mk hB
  clear hB
  go_enter Tryd.func16, Tryd.ntmps16
  go_wp2
  go_loopw [3, 4, 5] (fun v la i wr => ∃ (k : Nat) (last : Int), k ≤ ms.length ∧ i = .int .i64 k ∧ la = .int .i64 last ∧ Aside0 (last = lastUID (risingTo ms k)) ∧ Aside0 (MRow B wr w.heap.size v (risingTo ms k)) ∧ Aside0 (Below w.heap.size w wr)) (fun _ _ i _ => ms.length - (intOf i).toNat)
  case atStart => exact ⟨0, 0, Nat.zero_le _, rfl, rfl, ⟨rfl⟩, ⟨OwnRow.none_ _ _ _ _ _⟩, ⟨Below.refl _ _⟩⟩
  case round =>
    obtain ⟨k, last, hk, rfl, rfl, HL, HO, HB⟩ := hrel
    have HW := Aside0.mk HB.out.size
    by_cases hlt : k < ms.length
    · have hrw := hr.below HB.out
      obtain ⟨ad, vf, x, rfl, hx, ⟨h0, h1, h2, h3, h4, h5, h6, h7, h8, h9, h10, h11⟩, hf⟩ := mail_at hrw k hlt
      have HX := Lib.hid hx
      clear hx
      have HF := Aside0.mk hf
      obtain ⟨Af, cf, rfl, _⟩ := hf
      clear hrw
      by_cases c1 : last < x.f0
      · have c1b : decide (last < x.f0) = true := by simpa using c1
        go_wp2_with (at_builtin; (refine app_row (MailAt B) w.heap.size B rfl (.tmp 19) (.tmp 24) 22 43 _ 12 120 rfl Tryd.underlying22 info43 rfl (by decide) (by omega) _ (risingTo ms k) x (mcells x (.slice Af x.f1.length cf)) rfl _ rfl ?hm ?hp rfl (mcells_one x HF.out) ?ho ?hb hBB.out (by simp) ?hl (fun _ hsk _ _ hm => hm.step hsk) ?_); (case hm => rfl); (case hp => exact ⟨_, rfl, HF.out⟩); (case ho => exact HO.out); (case hb => exact HW.out); (case hl => have := risingTo_len ms k; omega); intro v1 w1 ho1 ht1 hat1; have hg0 : w1.cell? (ad.add (k * 12)) = some (.int .i64 x.f0) := mails_uid (hr.below (HB.out.trans (ht1.below (fun j hj he => by have := orow_base HO.out j he; omega) HW.out))) HX.out)
        go_roundw
        case measure => simp [intOf]; omega
        case rel =>
          refine ⟨k + 1, x.f0, by omega, by go_num, rfl, ⟨?_⟩, ⟨?_⟩, ⟨?_⟩⟩
          · rw [step_yes HX.out (by rw [← HL.out]; exact c1)]; simp [lastUID]
          · rw [step_yes HX.out (by rw [← HL.out]; exact c1)]; exact ho1
          · exact HB.out.trans (ht1.below (fun j hj he => by have := orow_base HO.out j he; omega) HW.out)
      · have c1b : decide (last < x.f0) = false := by simpa using c1
        go_wp2
        go_roundw
        case measure => simp [intOf]; omega
        case rel =>
          refine ⟨k + 1, last, by omega, by go_num, rfl, ⟨?_⟩, ⟨?_⟩, HB⟩
          · rw [step_no HX.out (by rw [← HL.out]; omega)]; exact HL.out
          · rw [step_no HX.out (by rw [← HL.out]; omega)]; exact HO.out
    · have hks : k = ms.length := by omega
      subst hks
      go_wp2
      go_ret
      refine ⟨_, rfl, ?_, HB.out⟩
      have := HO.out
      unfold risingTo at this
      rwa [List.take_length] at this
end Go.Proofs.YtnenlkojecicfaaDoor.V
