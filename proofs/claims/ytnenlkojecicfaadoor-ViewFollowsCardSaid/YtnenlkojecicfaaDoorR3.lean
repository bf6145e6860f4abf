/- ViewFollows: the walk. -/
import Derived.Test.YtnenlkojecicfaaDoorW3
import Derived.Test.YtnenlkojecicfaaDoorA1
import Derived.Deep.RegionHeld3
import Derived.Deep.DeepCutAuto
set_option linter.unusedVariables false
set_option linter.unusedSimpArgs false
namespace Go.Proofs.YtnenlkojecicfaaDoor.V
open Go.RowKit Go.Proofs.YtnenlkojecicfaaDoorW.PrintWords Go.Proofs.YtnenlkojecicfaaDoor.P

theorem c_take {w : World} {A : Option Addr} {xs : List Int} {n : Nat} (h : Kd.C (Kd.int .i64) w A xs.length xs) (hn : n ≤ xs.length) : Kd.C (Kd.int .i64) w A n (xs.take n) := by
  obtain ⟨h1, h2, h3⟩ := h
  refine ⟨by rw [List.length_take]; omega, by omega, fun hp => ?_⟩
  obtain ⟨ad, e, hc⟩ := h3 (by omega)
  refine ⟨ad, e, fun j p hj => hc j p ?_⟩
  have hjn : j < n := by have := (List.getElem?_eq_some_iff.1 hj).1; rw [List.length_take] at this; omega
  rwa [List.getElem?_take_of_lt hjn] at hj
set_option maxRecDepth 100000 in
set_option maxHeartbeats 4000000 in
theorem viewFollows_calls (v0 v1 : Value) (first : List S43) (l : List S33) (w : World) (h0 : MC w v0 first) (h1 : AC w v1 l) (hq0 : ∀ m ∈ first, MailQ m) (hq1 : ∀ x ∈ l, ActQ x) :
    Calls Tryd.prog 8 #[v0, v1] w fun e w' => e = .returned (.bool true) ∧ Below w.heap.size w w' := by
  obtain ⟨b1, hb1, hc1⟩ := light_calls first
  obtain ⟨b2, hb2, hc2⟩ := few_calls l
  have hmm := @run_makeMap Tryd.prog
  have H0 := Aside0.mk h0
  have H1 := Aside0.mk h1
  have HQ0 := Aside0.mk hq0
  have HQ1 := Aside0.mk hq1
  have HC1 := Aside0.mk hc1
  have HC2 := Aside0.mk hc2
  have HL1 := Aside0.mk hb1
  have HL2 := Aside0.mk hb2
  obtain ⟨A0, c0, rfl, hl0, hr0⟩ := h0
  obtain ⟨A1, c1, rfl, hl1, hr1⟩ := h1
  have HR0 := Aside0.mk hr0
  have HR1 := Aside0.mk hr1
  clear hq0 hq1 hc1 hc2 hb1 hb2 hr0 hr1
  go_enter Tryd.func8, Tryd.ntmps8
  go_wp2_with fail
  refine (HC1.out w _ H0.out).mono ?_
  rintro e w1 ⟨rfl, hb1⟩
  have HB1 := Aside0.mk hb1
  clear hb1
  cases b1 with
  | false =>
    go_wp2_with fail
    refine (alive_calls _).mono ?_
    rintro e w2 ⟨rfl, hb2⟩
    go_wp2
    go_ret
    exact ⟨rfl, HB1.out.trans (hb2.mono HB1.out.size)⟩
  | true =>
    go_wp2_with fail
    refine (HC2.out w1 _ (H1.out.below HB1.out)).mono ?_
    rintro e w2 ⟨rfl, hb2⟩
    have HB2 := Aside0.mk (HB1.out.trans (hb2.mono HB1.out.size))
    clear hb2 HB1
    cases b2 with
    | false =>
      go_wp2_with fail
      refine (alive_calls _).mono ?_
      rintro e w3 ⟨rfl, hb3⟩
      go_wp2
      go_ret
      exact ⟨rfl, HB2.out.trans (hb3.mono HB2.out.size)⟩
    | true =>
      have hlf : first.length ≤ 60 := HL1.out trivial
      have hll : l.length ≤ 30 := (HL2.out rfl).1
      go_wp2_with fail
      refine (new_calls w.heap.size A0 c0 first w2 HB2.out.size ((mails_of_C HR0.out).step (SK.of_below HB2.out)) (fun m hm => (HQ0.out m hm).2) (by omega)).mono ?_
      rintro e w3 ⟨g, lv, rfl, hv3, hx3, hb3⟩
      have HV3 : Aside0 (LawAt w.heap.size w g w3 lv (growF [] 0 (risingF [] first)).1 (growF [] 0 (risingF [] first)).2 60) := ⟨⟨rfl, new_vw first (fun m hm => (HQ0.out m hm).1) hlf, hv3, HB2.out.trans (hb3.mono HB2.out.size)⟩⟩
      have HNT := Lib.hid (new_top first)
      clear hv3 hx3 hb3
      obtain ⟨S, hS⟩ : ∃ S, S = (growF [] 0 (risingF [] first)).1 := ⟨_, rfl⟩
      obtain ⟨top, hT⟩ : ∃ top, top = (growF [] 0 (risingF [] first)).2 := ⟨_, rfl⟩
      rw [← hS, ← hT] at HV3 HNT
      clear hS hT
      have hSl : S.length ≤ 60 := HV3.out.vw.len
      go_wp2_with fail
      refine (uids_calls HV3.out.view (by omega)).mono ?_
      rintro e w4 ⟨vu, rfl, ho4, hb4⟩
      have HI4 := Aside0.mk (ho4.il w.heap.size)
      have HV4 : Aside0 (LawAt w.heap.size w g w4 lv S top (60 + 60 * 0)) := ⟨HV3.out.below hb4⟩
      obtain ⟨Au, cu, hvu, _⟩ := OwnRow.slice_ ho4
      subst hvu
      clear ho4 hb4 HV3
      go_wp2_with fail
      refine (max_calls HV4.out.view (by omega)).mono ?_
      rintro e w5 ⟨rfl, rfl⟩
      rw [HNT.out]
      go_wp2_with fail
      have HQ : Aside0 (∀ x ∈ l, x.f1.length ≤ 60) := ⟨(HL2.out trivial).2⟩
      clear HNT HB2 HC1 HC2 HL1 HL2 H0 HR0 H1 hSl HQ0
      go_loopw [31, 7, 6] (fun i t o wr => ∃ (k : Nat) (lvr : Value) (Sr : List S74) (tr : Int), k ≤ l.length ∧ i = .int .i64 k ∧ t = .int .i64 tr ∧ Aside0 (LawAt w.heap.size w g wr lvr Sr tr (60 + 60 * k)) ∧ ∃ (Ao : Option Addr) (co : Nat), o = .slice Ao Sr.length co ∧ Aside0 (IL w.heap.size wr (.slice Ao Sr.length co) (uids Sr))) (fun i _ _ _ => l.length - (intOf i).toNat)
      case atStart => exact ⟨0, lv, S, top, Nat.zero_le _, rfl, rfl, HV4, Au, cu, rfl, ⟨by have := HI4.out; rwa [List.length_map] at this⟩⟩
      case round =>
        clear HV4 HI4
        obtain ⟨k, lvr, Sr, tr, hk, rfl, rfl, HLA, Ao, co, rfl, HOW⟩ := hrel
        obtain ⟨wo, rfl⟩ : ∃ wo : World, wo = wr := ⟨_, rfl⟩
        by_cases hlt : k < l.length
        · obtain ⟨ad, x, Ax, cx, Af, cf, hA1, hx, ⟨h0, h1, h2, h3⟩, hmx, hfx, hqx⟩ := acts_at HR1.out HLA.out.low HQ1.out k hlt
          have hxl : x.f1.length ≤ 60 := HQ.out x (List.mem_of_getElem? hx)
          have HX := Lib.hid hx
          have HMX := Aside0.mk hmx
          have HFX := Aside0.mk hfx
          have HQX := Aside0.mk hqx
          clear hx hmx hfx hqx
          subst hA1
          have hSl : Sr.length ≤ 1860 := by have := HLA.out.vw.len; omega
          go_wp2_with fail
          have hx0 : (wo.alloc (.cells #[.int .i64 x.f0, .slice Ax x.f1.length cx, .int .i64 x.f2, .slice Af x.f3.length cf] 33)).heap[wo.heap.size]? = some (.cells #[.int .i64 x.f0, .slice Ax x.f1.length cx, .int .i64 x.f2, .slice Af x.f3.length cf] 33) := heap_alloc_new wo _
          have hbel : Below wo.heap.size wo (wo.alloc (.cells #[.int .i64 x.f0, .slice Ax x.f1.length cx, .int .i64 x.f2, .slice Af x.f3.length cf] 33)) := below_alloc (Below.refl _ _) _
          generalize wo.alloc _ = W1 at *
          have HLA1 := Aside0.mk (HLA.out.below hbel)
          have HOW1 := Aside0.mk (HOW.out.below hbel)
          have HMX1 := Aside0.mk (HMX.out.below hbel)
          have HFX1 := Aside0.mk (HFX.out.below hbel)
          have HX0 := Lib.hid hx0
          generalize wo.heap.size = bx at *
          clear hx0 hbel HLA HMX HFX HOW h0 h1 h2 h3
          refine (do_calls w.heap.size g lvr Sr tr x Ax Af cx cf W1 HLA1.out.size HLA1.out.view HMX1.out HFX1.out (fun m hm => (HQX.out.1 m hm).2) HQX.out.2.1 (fun m hm => (HQX.out.1 m hm).1) HLA1.out.vw.wf (by omega) HLA1.out.vw.good.pairwise).mono ?_
          rintro e w3 ⟨lv3, vo, rfl, hv3, ho3, ht3, hat3⟩
          have HLA3 : Aside0 (LawAt w.heap.size w g w3 lv3 (doS x Sr tr) (doT x Sr tr) (60 + 60 * k + 60)) := ⟨HLA1.out.to ht3 hv3 (HLA1.out.vw.go x (fun m hm => (HQX.out.1 m hm).1) hxl)⟩
          have HOW3 := Aside0.mk (HLA1.out.il_to HOW1.out ht3)
          have HTC3 := Aside0.mk ho3.tc
          have HMX3 := Aside0.mk (HMX1.out.step (HLA1.out.view.sk ht3 (by decide) (by decide)))
          have HX3 : Hid (w3.heap[bx]? = _) := Lib.hid ((ht3.keep bx (lt_of_block HX0.out) (fun hx => by
            obtain ⟨_, t, c, ht, hc⟩ := HLA1.out.view.typed bx hx
            rw [HX0.out] at hc
            injection hc with hc
            injection hc with _ e _
            rcases ht with rfl | rfl <;> cases e)).trans HX0.out)
          obtain ⟨Av, cv, hvo, _⟩ := OwnRow.slice_ ho3
          have HFD := Lib.hid (follow_do x Sr tr)
          have HFT := Lib.hid (fresh_top x Sr tr)
          have HDR := Aside0.mk (doO_range x Sr tr)
          have HQP : Aside0 (x.f0 = 1 → ∃ N, uids (doS x Sr tr) = uids Sr ++ N) := ⟨fun h => quiet_prefix x h Sr tr⟩
          have HGD := Aside0.mk HLA1.out.vw.good
          subst hvo
          clear hv3 ho3 ht3 hat3 HLA1 HMX1 HFX1 HX HOW1 HX0
          obtain ⟨S3, hS3⟩ : ∃ S3, S3 = doS x Sr tr := ⟨_, rfl⟩
          obtain ⟨t3, hT3⟩ : ∃ t3, t3 = doT x Sr tr := ⟨_, rfl⟩
          obtain ⟨O3, hO3⟩ : ∃ O3, O3 = doO x Sr tr := ⟨_, rfl⟩
          rw [← hS3] at HLA3 HQP HFD
          rw [← hT3] at HLA3 HFT
          rw [← hO3] at HTC3 HDR HFD ⊢
          clear hS3 hT3 hO3
          have hSl3 : S3.length ≤ 1920 := by have := HLA3.out.vw.len; omega
          have q0 : w3.cell? ⟨bx, 0, none⟩ = some (.int .i64 x.f0) := by simp [World.cell?, HX3.out]
          have q1 : w3.cell? ⟨bx, 1, none⟩ = some (.slice Ax x.f1.length cx) := by simp [World.cell?, HX3.out]
          go_upto_region 11 with fail
          have HMX4 : Aside0 (Mails w.heap.size (w3.alloc (.cells #[] 3)) Ax x.f1.length x.f1) := ⟨HMX3.out.below (below_alloc (Below.refl _ _) _)⟩
          have HLA4 := Aside0.mk (HLA3.out.below (below_alloc (Below.refl _ _) (.cells #[] 3)))
          have HOW4 := Aside0.mk (HOW3.out.below (below_alloc (Below.refl _ _) (.cells #[] 3)))
          have HTC4 := Aside0.mk (HTC3.out.below (below_alloc (Below.refl _ _) (.cells #[] 3)))
          replace q0 : (w3.alloc (.cells #[] 3)).cell? ⟨bx, 0, none⟩ = some (.int .i64 x.f0) := pw_cell_below (below_alloc (Below.refl _ _) _) q0
          replace q1 : (w3.alloc (.cells #[] 3)).cell? ⟨bx, 1, none⟩ = some (.slice Ax x.f1.length cx) := pw_cell_below (below_alloc (Below.refl _ _) _) q1
          generalize w3.alloc _ = W4 at *
          generalize w3.heap.size = by0 at *
          clear HLA3 HOW3 HTC3 HMX3 HX3
          obtain ⟨x0, e0⟩ : ∃ y, y = x.f0 := ⟨_, rfl⟩
          rw [← e0] at q0 HQP ⊢
          have E0 := Lib.hid e0
          clear e0
          by_cases k0 : x0 = 0
          · subst k0
            go_wp2_with fail
            refine (above_calls w.heap.size Ax cx x.f1 tr W4 HLA4.out.size HMX4.out (by omega)).mono ?_
            rintro e W5 ⟨v5, rfl, ho5, hb5⟩
            have HFR5 := Aside0.mk (ho5.il w.heap.size)
            obtain ⟨A5, c5, hv5, _⟩ := OwnRow.slice_ ho5
            obtain ⟨F, hF⟩ : ∃ F, F = freshF x tr := ⟨_, rfl⟩
            rw [show aboveF (risingF [] x.f1) tr = F by rw [hF]; unfold freshF; rw [if_pos (Or.inl E0.out.symm)]] at HFR5 hv5
            have hFl : F.length ≤ 60 := by rw [hF]; unfold freshF; rw [if_pos (Or.inl E0.out.symm)]; have := above_len (risingF [] x.f1) tr; have := rising_len x.f1; omega
            rw [← hF] at HFD HFT
            have HLA5 := Aside0.mk (HLA4.out.below hb5)
            have HOW5 := Aside0.mk (HOW4.out.below hb5)
            have HTC5 := Aside0.mk (HTC4.out.below hb5)
            have HX5 : Hid True := Lib.hid trivial
            have q0_5 : W5.cell? ⟨bx, 0, none⟩ = some (.int .i64 0) := pw_cell_below hb5 q0
            subst hv5
            clear ho5 hb5 hF HLA4 HOW4 HTC4 HMX4 q0 q1
            go_wp2_with fail
            refine (follow_callsR _ _ _ (uids Sr) F O3 W5 HOW5.out.ic HFR5.out.ic HTC5.out (by have := HDR.out.2; simp [uids]; omega) (fun t ht => by have := HDR.out.1 t ht; omega)).mono ?_
            rw [HFD.out]
            rintro e w6 ⟨vr, rfl, hf6, hb6⟩
            obtain ⟨Ar, cr, hvr, hcr⟩ := OwnRow.slice_ hf6.2
            have HN6 := Aside0.mk (hf6.il w.heap.size)
            rw [hvr] at HN6
            have hul3 : (uids S3).length = S3.length := by simp [uids]
            rw [hul3] at hvr hcr HN6
            have HLA6 := Aside0.mk (HLA5.out.below hb6)
            have HOW6 := Aside0.mk (HOW5.out.below hb6)
            have HFR6 := Aside0.mk (HFR5.out.below hb6)
            have q0_6 : w6.cell? ⟨bx, 0, none⟩ = some (.int .i64 0) := pw_cell_below hb6 q0_5
            subst hvr
            clear hf6 hb6 HLA5 HOW5 HTC5 HFR5 HX5 q0_5 hul3
            go_wp2_with fail
            refine (uids_calls HLA6.out.view (by omega)).mono ?_
            rintro e w7 ⟨v7, rfl, ho7, hb7⟩
            have HA := Aside0.mk ho7.ic
            have HLA7 := Aside0.mk (HLA6.out.below hb7)
            have HN7 := Aside0.mk (HN6.out.below hb7)
            have HOW7 := Aside0.mk (HOW6.out.below hb7)
            have HFR7 := Aside0.mk (HFR6.out.below hb7)
            have q0_7 : w7.cell? ⟨bx, 0, none⟩ = some (.int .i64 0) := pw_cell_below hb7 q0_6
            clear ho7 hb7 HLA6 HN6 HOW6 HFR6 q0_6
            go_wp2_with fail
            refine (ints_calls HN7.out.ic HA.out (by simp [uids]; omega)).mono ?_
            rintro e w8 ⟨rfl, hb8⟩
            have hde : decide (uids S3 = List.map (fun x => x.f0) S3) = true := decide_eq_true rfl
            rw [hde]
            have HLA8 := Aside0.mk (HLA7.out.below hb8)
            have HN8 := Aside0.mk (HN7.out.below hb8)
            have HOW8 := Aside0.mk (HOW7.out.below hb8)
            have HFR8 := Aside0.mk (HFR7.out.below hb8)
            have q0_8 : w8.cell? ⟨bx, 0, none⟩ = some (.int .i64 0) := pw_cell_below hb8 q0_7
            clear hde hb8 HA HLA7 HN7 HOW7 HFR7 q0_7
            have HLA9 := HLA8
            have HN9 := HN8
            have HFR9 := HFR8
            clear HLA8 HN8 HFR8 HOW8
            rcases Nat.eq_zero_or_pos F.length with hz | hpos
            · have hF0 : F = [] := List.length_eq_zero_iff.1 hz
              rw [hz]
              have HF0 := Lib.hid hF0
              clear hz hF0
              go_wp2_with fail
              go_roundw
              case measure => simp [intOf]; omega
              case rel => exact ⟨k + 1, lv3, S3, t3, by omega, by go_num, by rw [HFT.out, HF0.out]; rfl, ⟨by have := HLA9.out; rwa [show 60 + 60 * k + 60 = 60 + 60 * (k + 1) by omega] at this⟩, Ar, cr, rfl, HN9⟩
            · obtain ⟨m, hm⟩ : ∃ m, F.length = m + 1 := ⟨F.length - 1, by omega⟩
              obtain ⟨b, o, c, hvF, _, hcc⟩ := HFR9.out.cells hpos
              obtain ⟨u, hu⟩ : ∃ u, F[m]? = some u := ⟨_, List.getElem?_eq_getElem (by omega)⟩
              have hcm := hcc m u hu
              injection hvF with e1 e2 e3
              subst e1
              rw [hm]
              have hlast : t3 = u := by rw [HFT.out, List.getLast?_eq_getElem?, hm, Nat.add_sub_cancel, hu]; rfl
              have HLT := Lib.hid hlast
              have hmb : m ≤ 1000000 := by omega
              clear hcc hpos hm hu e2 e3 hlast
              go_wp2_with fail
              go_roundw
              case measure => simp [intOf]; omega
              case rel => exact ⟨k + 1, lv3, S3, t3, by omega, by go_num, by rw [HLT.out], ⟨by have := HLA9.out; rwa [show 60 + 60 * k + 60 = 60 + 60 * (k + 1) by omega] at this⟩, Ar, cr, rfl, HN9⟩
          by_cases k1 : x0 = 1
          · subst k1
            go_wp2_with fail
            refine (above_calls w.heap.size Ax cx x.f1 tr W4 HLA4.out.size HMX4.out (by omega)).mono ?_
            rintro e W5 ⟨v5, rfl, ho5, hb5⟩
            have HFR5 := Aside0.mk (ho5.il w.heap.size)
            obtain ⟨A5, c5, hv5, _⟩ := OwnRow.slice_ ho5
            obtain ⟨F, hF⟩ : ∃ F, F = freshF x tr := ⟨_, rfl⟩
            rw [show aboveF (risingF [] x.f1) tr = F by rw [hF]; unfold freshF; rw [if_pos (Or.inr E0.out.symm)]] at HFR5 hv5
            have hFl : F.length ≤ 60 := by rw [hF]; unfold freshF; rw [if_pos (Or.inr E0.out.symm)]; have := above_len (risingF [] x.f1) tr; have := rising_len x.f1; omega
            rw [← hF] at HFD HFT
            have HLA5 := Aside0.mk (HLA4.out.below hb5)
            have HOW5 := Aside0.mk (HOW4.out.below hb5)
            have HTC5 := Aside0.mk (HTC4.out.below hb5)
            have HX5 : Hid True := Lib.hid trivial
            have q0_5 : W5.cell? ⟨bx, 0, none⟩ = some (.int .i64 1) := pw_cell_below hb5 q0
            subst hv5
            clear ho5 hb5 hF HLA4 HOW4 HTC4 HMX4 q0 q1
            go_wp2_with fail
            refine (follow_callsR _ _ _ (uids Sr) F O3 W5 HOW5.out.ic HFR5.out.ic HTC5.out (by have := HDR.out.2; simp [uids]; omega) (fun t ht => by have := HDR.out.1 t ht; omega)).mono ?_
            rw [HFD.out]
            rintro e w6 ⟨vr, rfl, hf6, hb6⟩
            obtain ⟨Ar, cr, hvr, hcr⟩ := OwnRow.slice_ hf6.2
            have HN6 := Aside0.mk (hf6.il w.heap.size)
            rw [hvr] at HN6
            have hul3 : (uids S3).length = S3.length := by simp [uids]
            rw [hul3] at hvr hcr HN6
            have HLA6 := Aside0.mk (HLA5.out.below hb6)
            have HOW6 := Aside0.mk (HOW5.out.below hb6)
            have HFR6 := Aside0.mk (HFR5.out.below hb6)
            have q0_6 : w6.cell? ⟨bx, 0, none⟩ = some (.int .i64 1) := pw_cell_below hb6 q0_5
            subst hvr
            clear hf6 hb6 HLA5 HOW5 HTC5 HFR5 HX5 q0_5 hul3
            go_wp2_with fail
            refine (uids_calls HLA6.out.view (by omega)).mono ?_
            rintro e w7 ⟨v7, rfl, ho7, hb7⟩
            have HA := Aside0.mk ho7.ic
            have HLA7 := Aside0.mk (HLA6.out.below hb7)
            have HN7 := Aside0.mk (HN6.out.below hb7)
            have HOW7 := Aside0.mk (HOW6.out.below hb7)
            have HFR7 := Aside0.mk (HFR6.out.below hb7)
            have q0_7 : w7.cell? ⟨bx, 0, none⟩ = some (.int .i64 1) := pw_cell_below hb7 q0_6
            clear ho7 hb7 HLA6 HN6 HOW6 HFR6 q0_6
            go_wp2_with fail
            refine (ints_calls HN7.out.ic HA.out (by simp [uids]; omega)).mono ?_
            rintro e w8 ⟨rfl, hb8⟩
            have hde : decide (uids S3 = List.map (fun x => x.f0) S3) = true := decide_eq_true rfl
            rw [hde]
            have HLA8 := Aside0.mk (HLA7.out.below hb8)
            have HN8 := Aside0.mk (HN7.out.below hb8)
            have HOW8 := Aside0.mk (HOW7.out.below hb8)
            have HFR8 := Aside0.mk (HFR7.out.below hb8)
            have q0_8 : w8.cell? ⟨bx, 0, none⟩ = some (.int .i64 1) := pw_cell_below hb8 q0_7
            clear hde hb8 HA HLA7 HN7 HOW7 HFR7 q0_7
            obtain ⟨N, hN⟩ := HQP.out trivial
            have hle3 : Sr.length ≤ S3.length := by have := congrArg List.length hN; simp [uids] at this; omega
            have hul3 : (uids S3).length = S3.length := by simp [uids]
            have hulr : (uids Sr).length = Sr.length := by simp [uids]
            have hst : (uids S3).take Sr.length = uids Sr := by rw [hN, ← hulr, List.take_left]
            have hsl : ∀ W, (Instr.slice 34 (.slice Ar S3.length cr) none (some (.int .i64 Sr.length)) none).run Tryd.prog W = .ok (.slice Ar Sr.length cr) W := fun W => by
              have := slice34_take Ar cr Sr.length (uids S3) (by omega) (by omega) W
              rwa [hst, hul3, hulr] at this
            have HTK : Aside0 (IC w8 (.slice Ar Sr.length cr) (uids Sr)) := ⟨by
              obtain ⟨A', c', e, hl', hC⟩ := HN8.out.ic
              rw [hul3] at e
              injection e with e1 e2 e3
              subst e1 e3
              have h3 := c_take hC (n := Sr.length) (by omega)
              rw [hst] at h3
              exact ⟨Ar, cr, by rw [hulr], by omega, by rw [hulr]; exact h3⟩⟩
            clear hN hul3 hulr hst
            go_wp2_with fail
            refine (ints_calls HTK.out HOW8.out.ic (by simp [uids]; omega)).mono ?_
            rintro e w9 ⟨rfl, hb9⟩
            have hde : decide (uids Sr = uids Sr) = true := decide_eq_true rfl
            rw [hde]
            have HLA9 := Aside0.mk (HLA8.out.below hb9)
            have HN9 := Aside0.mk (HN8.out.below hb9)
            have HFR9 := Aside0.mk (HFR8.out.below hb9)
            clear hde hb9 HLA8 HN8 HOW8 HFR8 q0_8 HTK hsl
            rcases Nat.eq_zero_or_pos F.length with hz | hpos
            · have hF0 : F = [] := List.length_eq_zero_iff.1 hz
              rw [hz]
              have HF0 := Lib.hid hF0
              clear hz hF0
              go_wp2_with fail
              go_roundw
              case measure => simp [intOf]; omega
              case rel => exact ⟨k + 1, lv3, S3, t3, by omega, by go_num, by rw [HFT.out, HF0.out]; rfl, ⟨by have := HLA9.out; rwa [show 60 + 60 * k + 60 = 60 + 60 * (k + 1) by omega] at this⟩, Ar, cr, rfl, HN9⟩
            · obtain ⟨m, hm⟩ : ∃ m, F.length = m + 1 := ⟨F.length - 1, by omega⟩
              obtain ⟨b, o, c, hvF, _, hcc⟩ := HFR9.out.cells hpos
              obtain ⟨u, hu⟩ : ∃ u, F[m]? = some u := ⟨_, List.getElem?_eq_getElem (by omega)⟩
              have hcm := hcc m u hu
              injection hvF with e1 e2 e3
              subst e1
              rw [hm]
              have hlast : t3 = u := by rw [HFT.out, List.getLast?_eq_getElem?, hm, Nat.add_sub_cancel, hu]; rfl
              have HLT := Lib.hid hlast
              have hmb : m ≤ 1000000 := by omega
              clear hcc hpos hm hu e2 e3 hlast
              go_wp2_with fail
              go_roundw
              case measure => simp [intOf]; omega
              case rel => exact ⟨k + 1, lv3, S3, t3, by omega, by go_num, by rw [HLT.out], ⟨by have := HLA9.out; rwa [show 60 + 60 * k + 60 = 60 + 60 * (k + 1) by omega] at this⟩, Ar, cr, rfl, HN9⟩
          · have k0b : (x0 == 0) = false := by simpa using k0
            have k1b : (x0 == 1) = false := by simpa using k1
            have hFe : freshF x tr = [] := by unfold freshF; rw [if_neg (by rw [← E0.out]; omega)]
            obtain ⟨F, hF⟩ : ∃ F : List Int, F = [] := ⟨_, rfl⟩
            rw [hFe, ← hF] at HFD HFT
            have hFl : F.length ≤ 60 := by rw [hF]; exact Nat.zero_le _
            have HFR5 : Aside0 (IL w.heap.size W4 (.slice (some ⟨by0, 0, none⟩) 0 0) F) := ⟨by rw [hF]; exact ⟨_, _, rfl, Nat.le_refl _, fun W2 _ => ⟨rfl, Nat.zero_le _, fun h => absurd h (Nat.lt_irrefl 0)⟩⟩⟩
            have HF0 := Lib.hid hF
            obtain ⟨W5, hW5⟩ : ∃ W5, W5 = W4 := ⟨_, rfl⟩
            subst hW5
            have HLA5 := HLA4
            have HOW5 := HOW4
            have HTC5 := HTC4
            have HX5 : Hid True := Lib.hid trivial
            have q0_5 := q0
            clear hFe hF HLA4 HOW4 HTC4 HMX4 q0 q1
            go_wp2_with fail
            refine (follow_callsR _ _ _ (uids Sr) F O3 W5 HOW5.out.ic HFR5.out.ic HTC5.out (by have := HDR.out.2; simp [uids]; omega) (fun t ht => by have := HDR.out.1 t ht; omega)).mono ?_
            rw [HFD.out]
            rintro e w6 ⟨vr, rfl, hf6, hb6⟩
            obtain ⟨Ar, cr, hvr, hcr⟩ := OwnRow.slice_ hf6.2
            have HN6 := Aside0.mk (hf6.il w.heap.size)
            rw [hvr] at HN6
            have hul3 : (uids S3).length = S3.length := by simp [uids]
            rw [hul3] at hvr hcr HN6
            have HLA6 := Aside0.mk (HLA5.out.below hb6)
            have HOW6 := Aside0.mk (HOW5.out.below hb6)
            have HFR6 := Aside0.mk (HFR5.out.below hb6)
            have q0_6 : w6.cell? ⟨bx, 0, none⟩ = some (.int .i64 x0) := pw_cell_below hb6 q0_5
            subst hvr
            clear hf6 hb6 HLA5 HOW5 HTC5 HFR5 HX5 q0_5 hul3
            go_wp2_with fail
            refine (uids_calls HLA6.out.view (by omega)).mono ?_
            rintro e w7 ⟨v7, rfl, ho7, hb7⟩
            have HA := Aside0.mk ho7.ic
            have HLA7 := Aside0.mk (HLA6.out.below hb7)
            have HN7 := Aside0.mk (HN6.out.below hb7)
            have HOW7 := Aside0.mk (HOW6.out.below hb7)
            have HFR7 := Aside0.mk (HFR6.out.below hb7)
            have q0_7 : w7.cell? ⟨bx, 0, none⟩ = some (.int .i64 x0) := pw_cell_below hb7 q0_6
            clear ho7 hb7 HLA6 HN6 HOW6 HFR6 q0_6
            go_wp2_with fail
            refine (ints_calls HN7.out.ic HA.out (by simp [uids]; omega)).mono ?_
            rintro e w8 ⟨rfl, hb8⟩
            have hde : decide (uids S3 = List.map (fun x => x.f0) S3) = true := decide_eq_true rfl
            rw [hde]
            have HLA8 := Aside0.mk (HLA7.out.below hb8)
            have HN8 := Aside0.mk (HN7.out.below hb8)
            have HOW8 := Aside0.mk (HOW7.out.below hb8)
            have HFR8 := Aside0.mk (HFR7.out.below hb8)
            have q0_8 : w8.cell? ⟨bx, 0, none⟩ = some (.int .i64 x0) := pw_cell_below hb8 q0_7
            clear hde hb8 HA HLA7 HN7 HOW7 HFR7 q0_7
            have HLA9 := HLA8
            have HN9 := HN8
            clear HLA8 HN8 HFR8 HOW8
            go_wp2_with fail
            go_roundw
            case measure => simp [intOf]; omega
            case rel => exact ⟨k + 1, lv3, S3, t3, by omega, by go_num, by rw [HFT.out, HF0.out]; rfl, ⟨by have := HLA9.out; rwa [show 60 + 60 * k + 60 = 60 + 60 * (k + 1) by omega] at this⟩, Ar, cr, rfl, HN9⟩
        · have hks : k = l.length := by omega
          subst hks
          go_wp2_with fail
          refine (alive_calls _).mono ?_
          rintro e w2 ⟨rfl, hb2⟩
          go_wp2
          go_ret
          exact ⟨rfl, HLA.out.low.trans (hb2.mono HLA.out.size)⟩
end Go.Proofs.YtnenlkojecicfaaDoor.V
