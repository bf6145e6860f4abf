/- ViewTells: the walk. -/
import Derived.Test.YtnenlkojecicfaaDoorW1
import Derived.Test.YtnenlkojecicfaaDoorPx6
import Derived.Test.YtnenlkojecicfaaDoorA1
set_option linter.unusedVariables false
set_option linter.unusedSimpArgs false
namespace Go.Proofs.YtnenlkojecicfaaDoor.V
open Go.RowKit Go.Proofs.YtnenlkojecicfaaDoorW.PrintWords Go.Proofs.YtnenlkojecicfaaDoor.P

theorem wrap_id {x : Int} (h : -9223372036854775808 ≤ x ∧ x ≤ 9223372036854775807) : wrap64 x = x := by unfold wrap64; omega
theorem follow_l1 (l : List S65) (i : Int) (r : List Int × Bool) : ∀ (n : Nat) (own fresh : List Int), n ≤ fresh.length → own.length + n ≤ 1000000 →
    (∃ k, haversackref18_Follow.l0 k (fresh.drop n) l (own ++ fresh.take n) (wrap64 (i + 1)) = some r) → ∃ k, haversackref18_Follow.l1 k fresh l own i ((own.length : Int) + n) = some r := by
  intro n
  induction n with
  | zero =>
    intro own fresh _ _ h
    obtain ⟨k, hk⟩ := h
    refine ⟨k + 1, ?_⟩
    unfold haversackref18_Follow.l1
    rw [if_neg (by omega)]
    simpa using hk
  | succ n ih =>
    intro own fresh hn hb h
    obtain ⟨a, fr, rfl⟩ : ∃ a fr, fresh = a :: fr := by
      cases fresh with
      | nil => simp at hn
      | cons a fr => exact ⟨a, fr, rfl⟩
    simp only [List.length_cons] at hn
    obtain ⟨k, hk⟩ := ih (own ++ [a]) fr (by omega) (by simp; omega) (by
      obtain ⟨k, hk⟩ := h
      exact ⟨k, by simpa using hk⟩)
    refine ⟨k + 1, ?_⟩
    unfold haversackref18_Follow.l1
    rw [if_pos (by omega), if_pos (by first | (simp; done) | (simp; omega)), if_pos (by omega), if_pos (by first | (simp; done) | (simp; omega))]
    have e : ((own ++ [a]).length : Int) + (n : Int) = (own.length : Int) + ((n + 1 : Nat) : Int) := by simp; omega
    rw [e] at hk
    have er : rd (a :: fr) 0 = a := rfl
    rw [er]
    simpa using hk
theorem follow_l (l : List S65) (hr : ∀ t ∈ l, -9223372036854775808 ≤ t.f1 ∧ t.f1 ≤ 9223372036854775807) (hl : l.length ≤ 500000) : ∀ (n i : Nat) (own fresh : List Int), i + n = l.length → own.length + fresh.length ≤ 500000 →
    ∃ k, haversackref18_Follow.l0 k fresh l own i = some (followF own fresh (l.drop i)) := by
  intro n
  induction n with
  | zero =>
    intro i own fresh hi _
    refine ⟨1, ?_⟩
    unfold haversackref18_Follow.l0
    rw [if_neg (by omega), List.drop_eq_nil_of_le (by omega)]
    rfl
  | succ n ih =>
    intro i own fresh hi hb
    have hil : i < l.length := by omega
    obtain ⟨t, ht⟩ : ∃ t, l[i]? = some t := ⟨_, List.getElem?_eq_getElem hil⟩
    have hrt := hr t (List.mem_of_getElem? ht)
    have et : rd_T65 l i = t := by unfold rd_T65; simp [List.getD, ht]
    rw [drop_at ht]
    have hw : wrap64 ((i : Int) + 1) = ((i + 1 : Nat) : Int) := wrap_nat (by omega)
    -- the three steps, in one
    have step : ∀ k, haversackref18_Follow.l0 (k + 2) fresh l own i = haversackref18_Follow.j2 k fresh l own i t.f1 (decide (1 ≤ t.f1 ∧ t.f1 ≤ own.length)) (decide (t.f0 = 1 ∧ 1 ≤ t.f1 ∧ t.f1 ≤ own.length)) := by
      intro k
      unfold haversackref18_Follow.l0
      rw [if_pos (by omega), if_pos (by omega), et]
      have e : (if t.f1 ≥ 1 then haversackref18_Follow.j1 (k + 1) fresh l own i t.f1 (decide (t.f1 ≤ (own.length : Int))) else haversackref18_Follow.j1 (k + 1) fresh l own i t.f1 false) = haversackref18_Follow.j1 (k + 1) fresh l own i t.f1 (decide (1 ≤ t.f1 ∧ t.f1 ≤ own.length)) := by
        by_cases h : 1 ≤ t.f1
        · rw [if_pos h]; simp [h]
        · rw [if_neg h]; simp [h]
      rw [e]
      unfold haversackref18_Follow.j1
      rw [if_pos (by omega), if_pos (by omega), et]
      by_cases h : t.f0 = 1
      · rw [if_pos h]; simp [h]
      · rw [if_neg h]; simp [h]
    by_cases hA : t.f0 = 1 ∧ 1 ≤ t.f1 ∧ t.f1 ≤ own.length
    · obtain ⟨j, hj⟩ : ∃ j : Nat, t.f1 = (j : Int) + 1 := ⟨(t.f1 - 1).toNat, by omega⟩
      have hjl : j < own.length := by omega
      rw [followF_del hA.1 hj hjl]
      have hel : (own.eraseIdx j).length = own.length - 1 := by rw [List.length_eraseIdx, if_pos hjl]
      obtain ⟨k, hk⟩ := ih (i + 1) (own.eraseIdx j) fresh (by omega) (by omega)
      refine ⟨k + 3, ?_⟩
      rw [step (k + 1), decide_eq_true hA]
      unfold haversackref18_Follow.j2
      have ew : wrap64 (t.f1 - 1) = (j : Int) := by rw [wrap_id (by omega)]; omega
      have e1 : (t.f1).toNat = j + 1 := by omega
      rw [if_pos rfl, ew, e1, Int.toNat_natCast]
      simp only [Option.bind_some, List.nil_append]
      rw [if_pos (by omega), if_pos (by omega), if_pos (by simp; omega), if_pos (by omega), if_pos (by omega), if_pos (by simp; omega), hw, ← List.eraseIdx_eq_take_drop_succ]
      exact hk
    · have hc : decide (t.f0 = 1 ∧ 1 ≤ t.f1 ∧ t.f1 ≤ own.length) = false := decide_eq_false hA
      have step2 : ∀ k, haversackref18_Follow.l0 (k + 3) fresh l own i = haversackref18_Follow.j3 k fresh l own i t.f1 (decide (1 ≤ t.f1 ∧ t.f1 ≤ own.length)) (decide (t.f0 = 2 ∧ own.length ≤ t.f1 ∧ t.f1 - own.length ≤ fresh.length)) := by
        intro k
        rw [step (k + 1), hc]
        unfold haversackref18_Follow.j2
        rw [if_neg (by simp), if_pos (by omega), if_pos (by omega), et]
        by_cases h2 : t.f0 = 2
        · rw [if_pos h2]
          by_cases h3 : (own.length : Int) ≤ t.f1
          · rw [if_pos h3, wrap_id (by omega)]; simp [h2, h3]
          · rw [if_neg h3]; simp [h2, h3]
        · rw [if_neg h2]; simp [h2]
      by_cases hB : t.f0 = 2 ∧ own.length ≤ t.f1 ∧ t.f1 - own.length ≤ fresh.length
      · obtain ⟨m, hm⟩ : ∃ m : Nat, t.f1 = (own.length : Int) + m := ⟨(t.f1 - own.length).toNat, by omega⟩
        have hml : m ≤ fresh.length := by omega
        rw [followF_app hB.1 hm hml]
        obtain ⟨k, hk⟩ := follow_l1 l i (followF (own ++ fresh.take m) (fresh.drop m) (l.drop (i + 1))) m own fresh hml (by omega) (by
          rw [hw]
          exact ih (i + 1) _ _ (by omega) (by simp; omega))
        refine ⟨k + 4, ?_⟩
        rw [step2 (k + 1), decide_eq_true hB]
        unfold haversackref18_Follow.j3
        rw [if_pos rfl, hm]
        exact hk
      · by_cases hC : t.f0 = 3 ∧ 1 ≤ t.f1 ∧ t.f1 ≤ own.length
        · rw [followF_flag hC.1 hC.2.1 hC.2.2]
          obtain ⟨k, hk⟩ := ih (i + 1) own fresh (by omega) hb
          refine ⟨k + 4, ?_⟩
          rw [step2 (k + 1), decide_eq_false hB]
          unfold haversackref18_Follow.j3
          rw [if_neg (by simp), if_pos (by omega), if_pos (by omega), et, if_pos hC.1, if_pos (decide_eq_true hC.2), hw]
          exact hk
        · rw [followF_bad hA hB hC]
          refine ⟨4, ?_⟩
          rw [step2 1, decide_eq_false hB]
          unfold haversackref18_Follow.j3
          rw [if_neg (by simp), if_pos (by omega), if_pos (by omega), et]
          by_cases h3 : t.f0 = 3
          · rw [if_pos h3, if_neg (by intro h; exact hC ⟨h3, of_decide_eq_true h⟩)]
          · rw [if_neg h3]
theorem follow_eq (own fresh : List Int) (l : List S65) (hr : ∀ t ∈ l, -9223372036854775808 ≤ t.f1 ∧ t.f1 ≤ 9223372036854775807) (hlen : own.length + fresh.length + l.length ≤ 500000) :
    ∃ k, haversackref18_Follow.f k own fresh l = some (followF own fresh l) := by
  obtain ⟨k, hk⟩ := follow_l l hr (by omega) l.length 0 own fresh (by omega) (by omega)
  refine ⟨k, ?_⟩
  unfold haversackref18_Follow.f
  simp only [Option.bind_some, List.nil_append]
  rw [if_pos (by simp; omega)]
  exact hk
end Go.Proofs.YtnenlkojecicfaaDoor.V

set_option linter.unusedVariables false
set_option linter.unusedSimpArgs false
namespace Go.Proofs.YtnenlkojecicfaaDoor.V
open Go.RowKit Go.Proofs.YtnenlkojecicfaaDoorW.PrintWords Go.Proofs.YtnenlkojecicfaaDoor.P

theorem followF_len : ∀ (l : List S65) (own fresh : List Int), (followF own fresh l).1.length ≤ own.length + fresh.length := by
  intro l
  induction l with
  | nil => intro own fresh; simp [followF]
  | cons t r ih =>
    intro own fresh
    rw [followF]
    split
    · have h := ih (own.eraseIdx (t.f1 - 1).toNat) fresh
      have h2 : (own.eraseIdx (t.f1 - 1).toNat).length ≤ own.length := by rw [List.length_eraseIdx]; split <;> omega
      omega
    · split
      · have h := ih (own ++ fresh.take (t.f1 - own.length).toNat) (fresh.drop (t.f1 - own.length).toNat)
        simp only [List.length_append, List.length_take, List.length_drop] at h
        omega
      · split
        · exact ih own fresh
        · simp
theorem rfollow_calls (v0 v1 v2 : Value) (own fresh : List Int) (l : List S65) (w : World) (h0 : IC w v0 own) (h1 : IC w v1 fresh) (h2 : TC w v2 l) (hlen : own.length + fresh.length + l.length ≤ 500000)
    (hr : ∀ t ∈ l, -9223372036854775808 ≤ t.f1 ∧ t.f1 ≤ 9223372036854775807) :
    Calls Tryd.prog 31 #[v0, v1, v2] w fun e w' => ∃ vr, e = .returned (.tuple #[vr, .bool (followF own fresh l).2]) ∧ IC w' vr (followF own fresh l).1 ∧ Below w.heap.size w w' := by
  obtain ⟨A0, c0, rfl, l0, hc0⟩ := h0
  obtain ⟨A1, c1, rfl, l1, hc1⟩ := h1
  obtain ⟨A2, c2, rfl, l2, hc2⟩ := h2
  obtain ⟨k, hk⟩ := follow_eq own fresh l hr hlen
  refine (haversackref18_Follow.calls k A0 c0 own _ A1 c1 fresh A2 c2 l _ _ w hc0 l0 (Kd.V_mk l1 (Kd.C_F (Kd.heap_int .i64) hc1)) hc2 l2 hk).mono ?_
  rintro e w' ⟨v, he, hR, hb⟩
  exact ⟨v, he, Kd.R_reads hR, hb⟩
set_option maxRecDepth 100000 in
set_option maxHeartbeats 2000000 in
theorem viewTells_calls (v0 v1 v2 : Value) (own fresh : List Int) (l : List S65) (w : World) (h0 : IC w v0 own) (h1 : IC w v1 fresh) (h2 : TC w v2 l)
    (hr : ∀ t ∈ l, -9223372036854775808 ≤ t.f1 ∧ t.f1 ≤ 9223372036854775807) :
    Calls Tryd.prog 7 #[v0, v1, v2] w fun e w' => e = .returned (.bool true) ∧ Below w.heap.size w w' := by
  have H0 := Aside0.mk h0
  have H1 := Aside0.mk h1
  have H2 := Aside0.mk h2
  have HR := Aside0.mk hr
  obtain ⟨A0, c0, rfl, _⟩ := h0
  obtain ⟨A1, c1, rfl, _⟩ := h1
  obtain ⟨A2, c2, rfl, _⟩ := h2
  clear hr
  go_enter Tryd.func7, Tryd.ntmps7
  by_cases p0 : 60 < own.length
  · have p0b : decide (60 < own.length) = true := by simpa using p0
    go_wp2_with fail
    refine (alive_calls w).mono ?_
    rintro e w1 ⟨rfl, hb⟩
    go_wp2
    go_ret
    exact ⟨rfl, hb⟩
  by_cases p1 : 60 < fresh.length
  · have p0b : decide (60 < own.length) = false := by simpa using p0
    have p1b : decide (60 < fresh.length) = true := by simpa using p1
    go_wp2_with fail
    refine (alive_calls w).mono ?_
    rintro e w1 ⟨rfl, hb⟩
    go_wp2
    go_ret
    exact ⟨rfl, hb⟩
  by_cases p2 : 60 < l.length
  · have p0b : decide (60 < own.length) = false := by simpa using p0
    have p1b : decide (60 < fresh.length) = false := by simpa using p1
    have p2b : decide (60 < l.length) = true := by simpa using p2
    go_wp2_with fail
    refine (alive_calls w).mono ?_
    rintro e w1 ⟨rfl, hb⟩
    go_wp2
    go_ret
    exact ⟨rfl, hb⟩
  have p0b : decide (60 < own.length) = false := by simpa using p0
  have p1b : decide (60 < fresh.length) = false := by simpa using p1
  have p2b : decide (60 < l.length) = false := by simpa using p2
  have hlen : own.length + fresh.length + l.length ≤ 500000 := by omega
  go_wp2_with fail
  refine (follow_calls _ _ _ own fresh l w H0.out H1.out H2.out hlen HR.out).mono ?_
  rintro e w1 ⟨va, rfl, hia, hb1⟩
  have HA1 := Aside0.mk hia
  have HB1 := Aside0.mk hb1
  clear hia hb1
  go_wp2_with fail
  refine (rfollow_calls _ _ _ own fresh l w1 (H0.out.below HB1.out) (H1.out.below HB1.out) (H2.out.below HB1.out) hlen HR.out).mono ?_
  rintro e w2 ⟨vb, rfl, hib, hb2⟩
  have HA2 := Aside0.mk (HA1.out.below hb2)
  have HI2 := Aside0.mk hib
  have HB2 : Aside0 (Below w.heap.size w w2) := ⟨HB1.out.trans (hb2.mono HB1.out.size)⟩
  have hfl : (followF own fresh l).1.length ≤ 1000000 := by
    have := followF_len l own fresh
    omega
  clear hib hb2
  go_wp2_with fail
  refine (ints_calls HA2.out HI2.out hfl).mono ?_
  rintro e w3 ⟨rfl, hb3⟩
  have HB3 : Aside0 (Below w.heap.size w w3) := ⟨HB2.out.trans (hb3.mono HB2.out.size)⟩
  rw [show decide ((followF own fresh l).1 = (followF own fresh l).1) = true from decide_eq_true rfl]
  clear hb3
  go_wp2_with fail
  refine (alive_calls w3).mono ?_
  rintro e w4 ⟨rfl, hb4⟩
  go_wp2
  go_ret
  exact ⟨rfl, HB3.out.trans (hb4.mono HB3.out.size)⟩
end Go.Proofs.YtnenlkojecicfaaDoor.V
