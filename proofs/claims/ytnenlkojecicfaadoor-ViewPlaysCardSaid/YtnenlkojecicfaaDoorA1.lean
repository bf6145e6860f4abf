/- haversacklaw18.alive: it is true. -/
import Derived.Test.YtnenlkojecicfaaDoorS1
import Derived.Test.YtnenlkojecicfaaDoorG3
import Derived.Test.YtnenlkojecicfaaDoorA0
import Derived.Test.YtnenlkojecicfaaDoorPx7
set_option linter.unusedVariables false
set_option linter.unusedSimpArgs false
namespace Go.Proofs.YtnenlkojecicfaaDoor.V
open Go.RowKit Go.Proofs.YtnenlkojecicfaaDoorW.PrintWords Go.Proofs.YtnenlkojecicfaaDoor.P

/-- A message with a UID alone. -/
def mailO (n : Int) : S43 := ⟨n, [], z41, ⟨#[]⟩, 0, 0⟩
theorem mail_calls (B : Nat) (n : Int) (w : World) : Calls Tryd.prog 34 #[.int .i64 n] w fun e w' => ∃ A c, e = .returned (.agg #[.int .i64 n, .slice A 0 c, .int .i64 0, .int .i64 0, .int .i64 0, .int .i64 0, .int .i64 0, .int .i64 0, .int .i64 0, .string ⟨#[]⟩, .int .i64 0, .int .i64 0]) ∧ Fl B w' (.slice A 0 c) [] ∧ Below w.heap.size w w' := by
  refine (haversacklaw18_mail.calls n n [] 0 0 0 0 0 0 0 ⟨#[]⟩ 0 0 w rfl).mono ?_
  rintro e w' ⟨v, rfl, hr, hb⟩
  obtain ⟨A, c, rfl, hl⟩ := OwnRow.slice_ hr.2
  exact ⟨A, c, rfl, ⟨A, c, rfl, Nat.zero_le _, Rd.of_R (xs := []) hr (by intro q hq; simpa [Kd.string, Kd.scalar] using hq)⟩, hb⟩
theorem mails_built {B : Nat} {w : World} {n1 n2 n3 : Int} {v1 v2 v3 : Value} (h1 : Fl B w v1 []) (h2 : Fl B w v2 []) (h3 : Fl B w v3 []) (hB : B ≤ w.heap.size) :
    Mails B (w.alloc (.cells (mcells (mailO n1) v1 ++ mcells (mailO n2) v2 ++ mcells (mailO n3) v3).toArray 43)) (some ⟨w.heap.size, 0, none⟩) 3 [mailO n1, mailO n2, mailO n3] := by
  have hb : ∀ {v}, Fl B w v [] → Fl B (w.alloc (.cells (mcells (mailO n1) v1 ++ mcells (mailO n2) v2 ++ mcells (mailO n3) v3).toArray 43)) v [] := fun h => h.step (SK.of_below (below_alloc (Below.refl _ _) _))
  have hR : Reps (MailAt B (w.alloc (.cells (mcells (mailO n1) v1 ++ mcells (mailO n2) v2 ++ mcells (mailO n3) v3).toArray 43))) 12 [mailO n1, mailO n2, mailO n3] (mcells (mailO n1) v1 ++ mcells (mailO n2) v2 ++ mcells (mailO n3) v3) := by
    have a := Reps.snoc (Reps.none (MailAt B _) 12) (p := mailO n1) ⟨v1, rfl, hb h1⟩ rfl
    have b := Reps.snoc a (p := mailO n2) ⟨v2, rfl, hb h2⟩ rfl
    exact Reps.snoc b (p := mailO n3) ⟨v3, rfl, hb h3⟩ rfl
  have h : OwnRow (MailAt B _) 43 12 _ B _ [mailO n1, mailO n2, mailO n3] := orow_built hR hB (by unfold maxLen; simp)
  obtain ⟨A, c, e, _, hr⟩ := Rw.of_own (R := MailAt B) h
  injection e with e _ _
  subst e
  exact hr
theorem mailO_small (ns : List Int) : ∀ m ∈ ns.map mailO, ∀ f ∈ m.f1, f.size ≤ 140737488351232 := by
  intro m hm f hf
  obtain ⟨n, _, rfl⟩ := List.mem_map.1 hm
  cases hf
theorem flagsF_nil : flagsF [] = [] := by simp [flagsF, metF, sortF]
theorem new123 : growF [] 0 (risingF [] [mailO 1, mailO 2, mailO 3]) = ([⟨1, []⟩, ⟨2, []⟩, ⟨3, []⟩], 3) := by
  simp [growF, growS, risingF, lastUID, mailO, flagsF_nil]
theorem rise135 : risingF [] [mailO 1, mailO 3, mailO 5] = [mailO 1, mailO 3, mailO 5] := by
  simp [risingF, lastUID, mailO]
theorem sync135 : syncG false [⟨1, []⟩, ⟨2, []⟩, ⟨3, []⟩] 3 [mailO 1, mailO 3, mailO 5] = ([⟨1, []⟩, ⟨3, []⟩, ⟨5, []⟩], 5) := by
  simp [syncG, syncS1, stayF, thereF, growF, growS, mailO, flagsF_nil]
theorem syncS135 : syncS false [⟨1, []⟩, ⟨2, []⟩, ⟨3, []⟩] 3 [mailO 1, mailO 3, mailO 5] = [⟨1, []⟩, ⟨3, []⟩, ⟨5, []⟩] := by
  unfold syncS
  rw [sync135]
  simp [flagP, thereF, look, mailO, flagsF_nil]
theorem syncO135 : syncO false [⟨1, []⟩, ⟨2, []⟩, ⟨3, []⟩] 3 [mailO 1, mailO 3, mailO 5] = [⟨1, 2, []⟩, ⟨2, 3, []⟩] := by
  unfold syncO syncO2
  rw [sync135]
  simp [syncO1, syncS1, stayF, goneF, flagsO, flagO, thereF, look, mailO, flagsF_nil]
set_option maxRecDepth 100000 in
set_option maxHeartbeats 4000000 in
theorem alive_calls (w : World) : Calls Tryd.prog 11 #[] w fun e w' => e = .returned (.bool true) ∧ Below w.heap.size w w' := by
  go_enter Tryd.func11, Tryd.ntmps11
  go_wp2_with fail
  refine (mail_calls w.heap.size 1 w).mono ?_
  rintro e w1 ⟨A1, c1, rfl, hf1, hb1⟩
  go_wp2_with fail
  refine (mail_calls w.heap.size 2 w1).mono ?_
  rintro e w2 ⟨A2, c2, rfl, hf2, hb2⟩
  have hf12 := hf1.step (SK.of_below hb2)
  have hb12 := hb1.trans (hb2.mono hb1.size)
  clear hf1 hb1 hb2
  go_wp2_with fail
  refine (mail_calls w.heap.size 3 w2).mono ?_
  rintro e w3 ⟨A3, c3, rfl, hf3, hb3⟩
  have hM := mails_built (n1 := 1) (n2 := 2) (n3 := 3) (hf12.step (SK.of_below hb3)) (hf2.step (SK.of_below hb3)) hf3 (Nat.le_trans hb12.size hb3.size)
  have HM := Aside0.mk hM
  have HB3 := Aside0.mk (hb12.trans (hb3.mono hb12.size))
  clear hf12 hf2 hf3 hb12 hb3 hM
  go_wp2_with fail
  refine (new_calls w.heap.size _ 3 [mailO 1, mailO 2, mailO 3] _ (by have := HB3.out.size; simp; omega) HM.out (mailO_small [1, 2, 3]) (by simp)).mono ?_
  rintro e w4 ⟨g, lv, rfl, hv, hn, hb4⟩
  rw [new123] at hv
  have HV := Aside0.mk hv
  have HB4 := Aside0.mk ((below_alloc HB3.out _).trans (hb4.mono (by have := HB3.out.size; simp; omega)))
  have HG := Aside0.mk (Nat.le_trans HB3.out.size (Nat.le_trans (by simp) (hn.out g (.inl rfl))))
  clear hv hn hb4 HB3 HM
  go_wp2_with fail
  refine (mail_calls w.heap.size 1 w4).mono ?_
  rintro e w1 ⟨A1, c1, rfl, hf1, hb1⟩
  have HV1 := Aside0.mk (HV.out.below hb1)
  have HB1 := Aside0.mk (HB4.out.trans (hb1.mono HB4.out.size))
  clear HV HB4 hb1
  go_wp2_with fail
  refine (mail_calls w.heap.size 3 w1).mono ?_
  rintro e w2 ⟨A2, c2, rfl, hf2, hb2⟩
  have hf12 := hf1.step (SK.of_below hb2)
  have HV2 := Aside0.mk (HV1.out.below hb2)
  have HB2 := Aside0.mk (HB1.out.trans (hb2.mono HB1.out.size))
  clear hf1 HV1 HB1 hb2
  go_wp2_with fail
  refine (mail_calls w.heap.size 5 w2).mono ?_
  rintro e w3 ⟨A3, c3, rfl, hf3, hb3⟩
  have hM := mails_built (n1 := 1) (n2 := 3) (n3 := 5) (hf12.step (SK.of_below hb3)) (hf2.step (SK.of_below hb3)) hf3 (Nat.le_trans HB2.out.size hb3.size)
  have HM := Aside0.mk hM
  have HV3 := Aside0.mk ((HV2.out.below hb3).below (below_alloc (Below.refl _ _) (.cells (mcells (mailO 1) (.slice A1 0 c1) ++ mcells (mailO 3) (.slice A2 0 c2) ++ mcells (mailO 5) (.slice A3 0 c3)).toArray 43)))
  have HB3 := Aside0.mk (below_alloc (HB2.out.trans (hb3.mono HB2.out.size)) (.cells (mcells (mailO 1) (.slice A1 0 c1) ++ mcells (mailO 3) (.slice A2 0 c2) ++ mcells (mailO 5) (.slice A3 0 c3)).toArray 43))
  clear hf12 hf2 hf3 hb3 hM HB2 HV2
  go_wp2_with fail
  refine (sync_calls w.heap.size g lv _ 3 false _ 3 [mailO 1, mailO 3, mailO 5] _ HB3.out.size HV3.out HM.out (mailO_small [1, 3, 5]) ?hwf ?hwS (by simp)).mono ?_
  case hwf => intro m hm; simp only [List.mem_cons, List.mem_nil_iff, or_false] at hm; rcases hm with rfl | rfl | rfl <;> decide
  case hwS => intro m hm; simp only [List.mem_cons, List.mem_nil_iff, or_false] at hm; rcases hm with rfl | rfl | rfl <;> decide
  rintro e w5 ⟨lv5, vo, rfl, hv5, ho5, ht5, _⟩
  rw [rise135, syncS135, sync135] at hv5
  rw [rise135, syncO135] at ho5
  have HV5 := Aside0.mk hv5
  have HO5 := Aside0.mk ho5
  have HB5 : Aside0 (Below w.heap.size w w5) := ⟨HB3.out.trans (ht5.below (fun k hk hx => by have := HV3.out.typed k hx; omega) HB3.out.size)⟩
  clear hv5 ho5 ht5 HV3 HM HB3
  go_wp2_with fail
  have hTC : TC (w5.alloc (.cells [.int .i64 1, .int .i64 2, .slice none 0 0, .int .i64 2, .int .i64 3, .slice none 0 0].toArray 65)) (.slice (some ⟨w5.heap.size, 0, none⟩) 2 2) [⟨1, 2, []⟩, ⟨2, 3, []⟩] := by
    have a := Reps.snoc (Reps.none (ToldAt w.heap.size (w5.alloc (.cells [.int .i64 1, .int .i64 2, .slice none 0 0, .int .i64 2, .int .i64 3, .slice none 0 0].toArray 65))) 3) (p := ⟨1, 2, []⟩) ⟨.slice none 0 0, rfl, Fl.nil _ _⟩ rfl
    have b := Reps.snoc a (p := ⟨2, 3, []⟩) ⟨.slice none 0 0, rfl, Fl.nil _ _⟩ rfl
    exact TRow.tc (base := w.heap.size) (orow_built b HB5.out.size (by unfold maxLen; simp))
  refine (same_calls (HO5.out.tc.below (below_alloc (Below.refl _ _) _)) hTC (by simp) 0 (by intro x hx; simp only [List.mem_cons, List.mem_nil_iff, or_false] at hx; rcases hx with rfl | rfl <;> simp) (by simp)).mono ?_
  rintro e w6 ⟨rfl, hb6⟩
  have hb56 : Below w5.heap.size w5 w6 := (below_alloc (Below.refl _ _) _).trans (hb6.mono (by simp))
  have HV6 := Aside0.mk (HV5.out.below hb56)
  have HB6 : Aside0 (Below w.heap.size w w6) := ⟨HB5.out.trans (hb56.mono HB5.out.size)⟩
  clear HV5 HB5 HO5 hTC hb6 hb56
  rw [show decide ((([⟨1, 2, []⟩, ⟨2, 3, []⟩] : List S65)) = [⟨1, 2, []⟩, ⟨2, 3, []⟩]) = true from decide_eq_true rfl]
  go_wp2_with fail
  refine (uids_calls HV6.out (by simp)).mono ?_
  rintro e w7 ⟨vi, rfl, hi7, hb7⟩
  have HV7 := Aside0.mk (HV6.out.below hb7)
  have HB7 : Aside0 (Below w.heap.size w w7) := ⟨HB6.out.trans (hb7.mono HB6.out.size)⟩
  have HI7 := Aside0.mk hi7
  clear HV6 HB6 hb7 hi7
  go_wp2_with fail
  have hIC : IC (w7.alloc (.cells [.int .i64 1, .int .i64 3, .int .i64 5].toArray 3)) (.slice (some ⟨w7.heap.size, 0, none⟩) 3 3) [1, 3, 5] := by
    have a := Reps.snoc (Reps.none (fun (x : Int) cs => cs = [Value.int .i64 x]) 1) (p := 1) rfl rfl
    have b := Reps.snoc a (p := 3) rfl rfl
    have c := Reps.snoc b (p := 5) rfl rfl
    exact IRow.ic (base := w.heap.size) (orow_built c HB7.out.size (by unfold maxLen; simp))
  refine (ints_calls (HI7.out.ic.below (below_alloc (Below.refl _ _) _)) hIC (by simp)).mono ?_
  rintro e w8 ⟨rfl, hb8⟩
  have hb78 : Below w7.heap.size w7 w8 := (below_alloc (Below.refl _ _) _).trans (hb8.mono (by simp))
  have HV8 := Aside0.mk (HV7.out.below hb78)
  have HB8 : Aside0 (Below w.heap.size w w8) := ⟨HB7.out.trans (hb78.mono HB7.out.size)⟩
  clear HV7 HB7 HI7 hIC hb8 hb78
  rw [show decide (List.map (fun (x : S74) => x.f0) [⟨1, []⟩, ⟨3, []⟩, ⟨5, []⟩] = [1, 3, 5]) = true from decide_eq_true rfl]
  go_wp2_with fail
  refine (count_calls HV8.out).mono ?_
  rintro e w9 ⟨rfl, rfl⟩
  go_wp2_with fail
  refine (place_calls HV8.out (by simp) (by simp) 5).mono ?_
  rintro e w9 ⟨rfl, hb9⟩
  rw [show placeB [⟨1, []⟩, ⟨3, []⟩, ⟨5, []⟩] 5 = 3 by decide]
  have HV9 := Aside0.mk (HV8.out.below hb9)
  have HB9 : Aside0 (Below w.heap.size w w9) := ⟨HB8.out.trans (hb9.mono HB8.out.size)⟩
  clear HV8 HB8 hb9
  go_wp2_with fail
  refine (uid_calls HV9.out 2 (by omega)).mono ?_
  rintro e w10 ⟨rfl, rfl⟩
  rw [show uidOf [⟨1, []⟩, ⟨3, []⟩, ⟨5, []⟩] 2 = 3 by decide]
  go_wp2_with fail
  refine (max_calls HV9.out (by simp)).mono ?_
  rintro e w10 ⟨rfl, rfl⟩
  rw [show uidOf [⟨1, []⟩, ⟨3, []⟩, ⟨5, []⟩] (([⟨1, []⟩, ⟨3, []⟩, ⟨5, []⟩] : List S74).length : Nat) = 5 by decide]
  go_wp2
  go_ret
  exact ⟨rfl, HB9.out⟩
end Go.Proofs.YtnenlkojecicfaaDoor.V
