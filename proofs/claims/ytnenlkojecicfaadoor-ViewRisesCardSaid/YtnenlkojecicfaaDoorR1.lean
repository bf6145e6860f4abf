/- ViewRises: the walk. -/
import Derived.Test.YtnenlkojecicfaaDoorR0
import Derived.Test.YtnenlkojecicfaaDoorA1
import Derived.Deep.RegionHeld3
import Derived.Deep.DeepCutAuto
set_option linter.unusedVariables false
set_option linter.unusedSimpArgs false
namespace Go.Proofs.YtnenlkojecicfaaDoor.V
open Go.RowKit Go.Proofs.YtnenlkojecicfaaDoorW.PrintWords Go.Proofs.YtnenlkojecicfaaDoor.P

set_option maxRecDepth 100000 in
set_option maxHeartbeats 4000000 in
theorem viewRises_calls (v0 v1 : Value) (first : List S43) (l : List S33) (w : World) (h0 : MC w v0 first) (h1 : AC w v1 l) (hq0 : ∀ m ∈ first, MailQ m) (hq1 : ∀ x ∈ l, ActQ x) :
    Calls Tryd.prog 3 #[v0, v1] w fun e w' => e = .returned (.bool true) ∧ Below w.heap.size w w' := by
  obtain ⟨b1, hb1, hc1⟩ := light_calls first
  obtain ⟨b2, hb2, hc2⟩ := few_calls l
  have hmm := @run_makeMap Tryd.prog
  have H0 := Aside0.mk h0
  have H1 := Aside0.mk h1
  have HQ0 := Aside0.mk hq0
  have HQ1 := Aside0.mk hq1
  have HC1 := Aside0.mk hc1
  have HC2 := Aside0.mk hc2
  have HL1 := Aside0.mk hb1
  have HL2 := Aside0.mk hb2
  obtain ⟨A0, c0, rfl, hl0, hr0⟩ := h0
  obtain ⟨A1, c1, rfl, hl1, hr1⟩ := h1
  have HR0 := Aside0.mk hr0
  have HR1 := Aside0.mk hr1
  clear hq0 hq1 hc1 hc2 hb1 hb2 hr0 hr1
  go_enter Tryd.func3, Tryd.ntmps3
  go_wp2_with fail
  refine (HC1.out w _ H0.out).mono ?_
  rintro e w1 ⟨rfl, hb1⟩
  have HB1 := Aside0.mk hb1
  clear hb1
  cases b1 with
  | false =>
    go_wp2_with fail
    refine (alive_calls _).mono ?_
    rintro e w2 ⟨rfl, hb2⟩
    go_wp2
    go_ret
    exact ⟨rfl, HB1.out.trans (hb2.mono HB1.out.size)⟩
  | true =>
    go_wp2_with fail
    refine (HC2.out w1 _ (H1.out.below HB1.out)).mono ?_
    rintro e w2 ⟨rfl, hb2⟩
    have HB2 := Aside0.mk (HB1.out.trans (hb2.mono HB1.out.size))
    clear hb2 HB1
    cases b2 with
    | false =>
      go_wp2_with fail
      refine (alive_calls _).mono ?_
      rintro e w3 ⟨rfl, hb3⟩
      go_wp2
      go_ret
      exact ⟨rfl, HB2.out.trans (hb3.mono HB2.out.size)⟩
    | true =>
      have hlf : first.length ≤ 60 := HL1.out trivial
      have hll : l.length ≤ 30 := (HL2.out rfl).1
      go_wp2_with fail
      refine (new_calls w.heap.size A0 c0 first w2 HB2.out.size ((mails_of_C HR0.out).step (SK.of_below HB2.out)) (fun m hm => (HQ0.out m hm).2) (by omega)).mono ?_
      rintro e w3 ⟨g, lv, rfl, hv3, hx3, hb3⟩
      have HV3 : Aside0 (LawAt w.heap.size w g w3 lv (growF [] 0 (risingF [] first)).1 (growF [] 0 (risingF [] first)).2 60) := ⟨⟨rfl, new_vw first (fun m hm => (HQ0.out m hm).1) hlf, hv3, HB2.out.trans (hb3.mono HB2.out.size)⟩⟩
      have HNT := Lib.hid (new_top first)
      clear hv3 hx3 hb3
      obtain ⟨S, hS⟩ : ∃ S, S = (growF [] 0 (risingF [] first)).1 := ⟨_, rfl⟩
      obtain ⟨top, hT⟩ : ∃ top, top = (growF [] 0 (risingF [] first)).2 := ⟨_, rfl⟩
      rw [← hS, ← hT] at HV3 HNT
      clear hS hT
      have hSl : S.length ≤ 60 := HV3.out.vw.len
      go_wp2_with fail
      have hbm : Below w3.heap.size w3 (w3.alloc (.map #[] 0)) := below_alloc (Below.refl _ _) _
      refine (max_calls (HV3.out.view.below hbm) (by omega)).mono ?_
      rintro e w4 ⟨rfl, rfl⟩
      rw [HNT.out]
      go_wp2_with fail
      have HLA : Aside0 (LawAt w.heap.size w g (w3.alloc (.map #[] 0)) lv S top (60 + 60 * 0)) := ⟨HV3.out.below hbm⟩
      have HBM : Aside0 (BMap (w3.alloc (.map #[] 0)) w3.heap.size []) := ⟨BMap.made w3⟩
      have HBS : Aside0 (w.heap.size ≤ w3.heap.size) := ⟨HV3.out.size⟩
      have HGN : Aside0 (Gone [] S top) := ⟨Gone.nil S top⟩
      have HQ : Aside0 (∀ x ∈ l, x.f1.length ≤ 60) := ⟨(HL2.out trivial).2⟩
      generalize w3.alloc (.map #[] 0) = W4 at *
      generalize w3.heap.size = b6 at *
      clear HV3 HNT hbm HB2 HC1 HC2 HL1 HL2 H0 HR0 H1 hSl HQ0
      go_loopw [36, 7] (fun i t wr => ∃ (k : Nat) (lvr : Value) (Sr : List S74) (tr : Int) (G : List Int), k ≤ l.length ∧ i = .int .i64 k ∧ t = .int .i64 tr ∧ Aside0 (LawAt w.heap.size w g wr lvr Sr tr (60 + 60 * k)) ∧ Aside0 (BMap wr b6 G) ∧ Aside0 (Gone G Sr tr)) (fun i _ _ => l.length - (intOf i).toNat)
      case atStart => exact ⟨0, lv, S, top, [], Nat.zero_le _, rfl, rfl, HLA, HBM, HGN⟩
      case round =>
        clear HLA HBM HGN
        obtain ⟨k, lvr, Sr, tr, G, hk, rfl, rfl, HLA, HBM, HGN⟩ := hrel
        obtain ⟨wo, rfl⟩ : ∃ wo : World, wo = wr := ⟨_, rfl⟩
        by_cases hlt : k < l.length
        · obtain ⟨ad, x, Ax, cx, Af, cf, hA1, hx, ⟨h0, h1, h2, h3⟩, hmx, hfx, hqx⟩ := acts_at HR1.out HLA.out.low HQ1.out k hlt
          have hxl : x.f1.length ≤ 60 := HQ.out x (List.mem_of_getElem? hx)
          have HX := Lib.hid hx
          have HMX := Aside0.mk hmx
          have HFX := Aside0.mk hfx
          have HQX := Aside0.mk hqx
          clear hx hmx hfx hqx
          subst hA1
          have hSl : Sr.length ≤ 1860 := by have := HLA.out.vw.len; omega
          go_wp2_with fail
          have hx0 : (wo.alloc (.cells #[.int .i64 x.f0, .slice Ax x.f1.length cx, .int .i64 x.f2, .slice Af x.f3.length cf] 33)).heap[wo.heap.size]? = some (.cells #[.int .i64 x.f0, .slice Ax x.f1.length cx, .int .i64 x.f2, .slice Af x.f3.length cf] 33) := heap_alloc_new wo _
          have hbel : Below wo.heap.size wo (wo.alloc (.cells #[.int .i64 x.f0, .slice Ax x.f1.length cx, .int .i64 x.f2, .slice Af x.f3.length cf] 33)) := below_alloc (Below.refl _ _) _
          generalize wo.alloc _ = W1 at *
          have HLA1 := Aside0.mk (HLA.out.below hbel)
          have HBM1 := Aside0.mk (HBM.out.below hbel)
          have HMX1 := Aside0.mk (HMX.out.below hbel)
          have HFX1 := Aside0.mk (HFX.out.below hbel)
          have HX0 := Lib.hid hx0
          generalize wo.heap.size = bx at *
          clear hx0 hbel HLA HBM HMX HFX h0 h1 h2 h3
          refine (uids_calls HLA1.out.view (by omega)).mono ?_
          rintro e w2 ⟨vw, rfl, ho2, hb2⟩
          have HX2 : Hid (w2.heap[bx]? = _) := Lib.hid ((hb2.block bx (lt_of_block HX0.out)).trans HX0.out)
          have HW2 := Aside0.mk (ho2.il w.heap.size)
          have HLA2 := Aside0.mk (HLA1.out.below hb2)
          have HBM2 := Aside0.mk (HBM1.out.below hb2)
          have HMX2 := Aside0.mk (HMX1.out.below hb2)
          have HFX2 := Aside0.mk (HFX1.out.below hb2)
          obtain ⟨Aw, cw, hvw, _⟩ := OwnRow.slice_ ho2
          have hq0 : w2.cell? ⟨bx, 0, none⟩ = some (.int .i64 x.f0) := by simp [World.cell?, HX2.out]
          have hq1 : w2.cell? ⟨bx, 1, none⟩ = some (.slice Ax x.f1.length cx) := by simp [World.cell?, HX2.out]
          have hq2 : w2.cell? ⟨bx, 2, none⟩ = some (.int .i64 x.f2) := by simp [World.cell?, HX2.out]
          have hq3 : w2.cell? ⟨bx, 3, none⟩ = some (.slice Af x.f3.length cf) := by simp [World.cell?, HX2.out]
          subst hvw
          clear ho2 hb2 HLA1 HBM1 HMX1 HFX1 HX0 HX2
          go_wp2_with fail
          refine (do_calls w.heap.size g lvr Sr tr x Ax Af cx cf w2 HLA2.out.size HLA2.out.view HMX2.out HFX2.out (fun m hm => (HQX.out.1 m hm).2) HQX.out.2.1 (fun m hm => (HQX.out.1 m hm).1) HLA2.out.vw.wf (by omega) HLA2.out.vw.good.pairwise).mono ?_
          rintro e w3 ⟨lv3, vo, rfl, hv3, ho3, ht3, hat3⟩
          have HLA3 : Aside0 (LawAt w.heap.size w g w3 lv3 (doS x Sr tr) (doT x Sr tr) (60 + 60 * k + 60)) := ⟨HLA2.out.to ht3 hv3 (HLA2.out.vw.go x (fun m hm => (HQX.out.1 m hm).1) hxl)⟩
          have HBM3 := Aside0.mk (HLA2.out.set_to HBM2.out ht3)
          have HW3 := Aside0.mk (HLA2.out.il_to HW2.out ht3)
          have HMV := Aside0.mk (do_moved HLA2.out.vw.good x)
          have HGD := Aside0.mk HLA2.out.vw.good
          have HWF := Aside0.mk HLA2.out.vw.wf
          clear hq0 hq1 hq2 hq3 hv3 ho3 ht3 hat3 HLA2 HBM2 HMX2 HFX2 HW2 HX
          obtain ⟨S3, hS3⟩ : ∃ S3, S3 = doS x Sr tr := ⟨_, rfl⟩
          obtain ⟨t3, hT3⟩ : ∃ t3, t3 = doT x Sr tr := ⟨_, rfl⟩
          rw [← hS3, ← hT3] at HLA3 HMV
          clear hS3 hT3
          have hSl3 : S3.length ≤ 1920 := by have := HLA3.out.vw.len; omega
          go_wp2_with fail
          refine (uids_calls HLA3.out.view (by omega)).mono ?_
          rintro e w4 ⟨vn, rfl, ho4, hb4⟩
          have HN4 := Aside0.mk (ho4.il w.heap.size)
          have HLA4 := Aside0.mk (HLA3.out.below hb4)
          have HBM4 := Aside0.mk (HBM3.out.below hb4)
          have HW4 := Aside0.mk (HW3.out.below hb4)
          obtain ⟨An, cn, hvn, _⟩ := OwnRow.slice_ ho4
          subst hvn
          clear ho4 hb4 HLA3 HBM3 HW3
          go_wp2_with fail
          have hbm : Below w4.heap.size w4 (w4.alloc (.map #[] 0)) := below_alloc (Below.refl _ _) _
          have HLA5 := Aside0.mk (HLA4.out.below hbm)
          have HBM5 := Aside0.mk (HBM4.out.below hbm)
          have HW5 := Aside0.mk (HW4.out.below hbm)
          have HN5 := Aside0.mk (HN4.out.below hbm)
          have HIS5 : Aside0 (BMap (w4.alloc (.map #[] 0)) w4.heap.size []) := ⟨BMap.made w4⟩
          have HB12 : Aside0 (w.heap.size ≤ w4.heap.size ∧ b6 < w4.heap.size) := ⟨HLA4.out.size, HBM4.out.lt⟩
          generalize w4.alloc (.map #[] 0) = W5 at *
          generalize w4.heap.size = b12 at *
          clear hbm HLA4 HBM4 HW4 HN4
          go_loopw [50] (fun i wr => ∃ (j : Nat), j ≤ S3.length ∧ i = .int .i64 j ∧ Aside0 (LawAt w.heap.size w g wr lv3 S3 t3 (60 + 60 * k + 60)) ∧ Aside0 (BMap wr b6 G) ∧ Aside0 (IL w.heap.size wr (.slice Aw Sr.length cw) (uids Sr)) ∧ Aside0 (IL w.heap.size wr (.slice An S3.length cn) (uids S3)) ∧ Aside0 (BMap wr b12 ((uids S3).take j))) (fun i _ => S3.length - (intOf i).toNat)
          case atStart => exact ⟨0, Nat.zero_le _, rfl, HLA5, HBM5, ⟨by have := HW5.out; rwa [List.length_map] at this⟩, ⟨by have := HN5.out; rwa [List.length_map] at this⟩, HIS5⟩
          case round =>
            clear HLA5 HBM5 HW5 HN5 HIS5
            obtain ⟨j, hj, rfl, HLA, HBM, HW, HN, HIS⟩ := hrel
            obtain ⟨wp, rfl⟩ : ∃ wp : World, wp = wr := ⟨_, rfl⟩
            by_cases hjl : j < S3.length
            · have hul : (uids S3).length = S3.length := by simp [uids]
              obtain ⟨b, o, c, hvn, _, hcc⟩ := HN.out.cells (by omega)
              obtain ⟨u, hu⟩ : ∃ u, (uids S3)[j]? = some u := ⟨_, List.getElem?_eq_getElem (by omega)⟩
              have hcj := hcc j u hu
              have hum : u ∈ uids S3 := List.mem_of_getElem? hu
              have huwf := wf_uids.1 HLA.out.vw.wf u hum
              have hu1 : 1 ≤ u := HLA.out.vw.good.pos u hum
              have hlk := HBM.out.lookup huwf
              have hng : G.contains u = false := by simpa using HGN.out.not_now HMV.out hum
              rw [hng] at hlk
              have HU := Lib.hid hu
              obtain ⟨w7, hup, hm7, ht7⟩ := HIS.out.update huwf (take_fresh HLA.out.vw.good.rise hu)
              have HM7 : Aside0 (BMap w7 b12 ((uids S3).take (j + 1))) := ⟨by rw [take_snoc hu]; exact hm7⟩
              have HT7 := Aside0.mk ht7
              clear hm7 ht7
              injection hvn with e1 e2 e3
              subst e1
              clear hng hul hu e2 e3 huwf hum
              rcases Nat.eq_zero_or_pos j with rfl | hj0
              · clear hcc
                have hcz : wp.cell? ⟨b, o, none⟩ = some (.int .i64 u) := by simpa using hcj
                clear hcj
                go_wp2_with fail
                go_roundw
                case measure => simp [intOf]; omega
                case rel => exact ⟨0 + 1, by omega, by go_num, ⟨HLA.out.set HIS.out HB12.out.1 HT7.out⟩, ⟨HBM.out.step HT7.out (by have := HB12.out.2; omega)⟩, ⟨HW.out.step (HIS.out.sk HB12.out.1 HT7.out)⟩, ⟨HN.out.step (HIS.out.sk HB12.out.1 HT7.out)⟩, HM7⟩
              · obtain ⟨m, rfl⟩ : ∃ m, j = m + 1 := ⟨j - 1, by omega⟩
                obtain ⟨v, hv⟩ : ∃ v, (uids S3)[m]? = some v := ⟨_, List.getElem?_eq_getElem (by simp [uids]; omega)⟩
                have hcm := hcc m v hv
                have hlt2 : v < u := by
                  obtain ⟨p1, e1⟩ := List.getElem?_eq_some_iff.1 hv
                  obtain ⟨p2, e2⟩ := List.getElem?_eq_some_iff.1 HU.out
                  have := List.pairwise_iff_getElem.1 HLA.out.vw.good.rise m (m + 1) p1 p2 (by omega)
                  omega
                clear hcc hv
                go_wp2_with fail
                go_roundw
                case measure => simp [intOf]; omega
                case rel => exact ⟨m + 1 + 1, by omega, by go_num, ⟨HLA.out.set HIS.out HB12.out.1 HT7.out⟩, ⟨HBM.out.step HT7.out (by have := HB12.out.2; omega)⟩, ⟨HW.out.step (HIS.out.sk HB12.out.1 HT7.out)⟩, ⟨HN.out.step (HIS.out.sk HB12.out.1 HT7.out)⟩, HM7⟩
            · have hjs : j = S3.length := by omega
              subst hjs
              have HIS2 : Aside0 (BMap wp b12 (uids S3)) := ⟨by have := HIS.out; rwa [show S3.length = (uids S3).length by simp [uids], List.take_length] at this⟩
              clear HIS
              go_wp2_with fail
              have hbm : Below wp.heap.size wp (wp.alloc (.map #[] 0)) := below_alloc (Below.refl _ _) _
              have HLA6 := Aside0.mk (HLA.out.below hbm)
              have HBM6 := Aside0.mk (HBM.out.below hbm)
              have HW6 := Aside0.mk (HW.out.below hbm)
              have HN6 := Aside0.mk (HN.out.below hbm)
              have HIS6 := Aside0.mk (HIS2.out.below hbm)
              have HKN6 : Aside0 (BMap (wp.alloc (.map #[] 0)) wp.heap.size []) := ⟨BMap.made wp⟩
              have HB15 : Aside0 (w.heap.size ≤ wp.heap.size ∧ b6 < wp.heap.size ∧ b12 < wp.heap.size) := ⟨HLA.out.size, HBM.out.lt, HIS2.out.lt⟩
              generalize wp.alloc (.map #[] 0) = W6 at *
              generalize wp.heap.size = b15 at *
              clear hbm HLA HBM HW HN HIS2
              go_loopw [81] (fun i wr => ∃ (j : Nat), j ≤ Sr.length ∧ i = .int .i64 j ∧ Aside0 (LawAt w.heap.size w g wr lv3 S3 t3 (60 + 60 * k + 60)) ∧ Aside0 (BMap wr b6 (goneTo G (uids Sr) (uids S3) j)) ∧ Aside0 (IL w.heap.size wr (.slice Aw Sr.length cw) (uids Sr)) ∧ Aside0 (IL w.heap.size wr (.slice An S3.length cn) (uids S3)) ∧ Aside0 (BMap wr b12 (uids S3)) ∧ Aside0 (BMap wr b15 ((uids Sr).take j))) (fun i _ => Sr.length - (intOf i).toNat)
              case atStart => exact ⟨0, Nat.zero_le _, rfl, HLA6, ⟨by rw [goneTo_zero]; exact HBM6.out⟩, HW6, HN6, HIS6, HKN6⟩
              case round =>
                clear HLA6 HBM6 HW6 HN6 HIS6 HKN6
                obtain ⟨j, hj, rfl, HLA, HBM, HW, HN, HIS, HKN⟩ := hrel
                obtain ⟨wp, rfl⟩ : ∃ wp : World, wp = wr := ⟨_, rfl⟩
                by_cases hjl : j < Sr.length
                · have hul : (uids Sr).length = Sr.length := by simp [uids]
                  obtain ⟨b, o, c, hvn, _, hcc⟩ := HW.out.cells (by omega)
                  obtain ⟨u, hu⟩ : ∃ u, (uids Sr)[j]? = some u := ⟨_, List.getElem?_eq_getElem (by omega)⟩
                  have hcj := hcc j u hu
                  have hum : u ∈ uids Sr := List.mem_of_getElem? hu
                  have huwf := wf_uids.1 HWF.out u hum
                  obtain ⟨w7, hup, hm7, ht7⟩ := HKN.out.update huwf (take_fresh HGD.out.rise hu)
                  have HM7 : Aside0 (BMap w7 b15 ((uids Sr).take (j + 1))) := ⟨by rw [take_snoc hu]; exact hm7⟩
                  have HT7 := Aside0.mk ht7
                  have HLA7 := Aside0.mk (HLA.out.set HKN.out HB15.out.1 ht7)
                  have HBM7 := Aside0.mk (HBM.out.step ht7 (by have := HB15.out.2.1; omega))
                  have HIS7 := Aside0.mk (HIS.out.step ht7 (by have := HB15.out.2.2; omega))
                  have HW7 := Aside0.mk (HW.out.step (HKN.out.sk HB15.out.1 ht7))
                  have HN7 := Aside0.mk (HN.out.step (HKN.out.sk HB15.out.1 ht7))
                  have hlk := HIS7.out.lookup huwf
                  have HU := Lib.hid hu
                  injection hvn with e1 e2 e3
                  subst e1
                  cases hct : (uids S3).contains u with
                  | true =>
                    rw [hct] at hlk
                    have HCT := Lib.hid hct
                    clear hul hu e2 e3 huwf hum hcc hm7 ht7 hct
                    go_wp2_with fail
                    go_roundw
                    case measure => simp [intOf]; omega
                    case rel => exact ⟨j + 1, by omega, by go_num, HLA7, ⟨by rw [goneTo_no HU.out HCT.out]; exact HBM7.out⟩, HW7, HN7, HIS7, HM7⟩
                  | false =>
                    rw [hct] at hlk
                    obtain ⟨w8, hup8, hm8, ht8⟩ := HBM7.out.update huwf (goneTo_fresh HGD.out HGN.out (uids S3) hu)
                    have HM8 : Aside0 (BMap w8 b6 (goneTo G (uids Sr) (uids S3) (j + 1))) := ⟨by rw [goneTo_yes hu hct]; exact hm8⟩
                    have HT8 := Aside0.mk ht8
                    have HSK := Aside0.mk (HBM7.out.sk (T := [3]) HBS.out ht8)
                    clear hul hu e2 e3 huwf hum hcc hm7 ht7 hct hm8 ht8
                    go_wp2_with fail
                    go_roundw
                    case measure => simp [intOf]; omega
                    case rel => exact ⟨j + 1, by omega, by go_num, ⟨HLA7.out.set HBM7.out HBS.out HT8.out⟩, HM8, ⟨HW7.out.step HSK.out⟩, ⟨HN7.out.step HSK.out⟩, ⟨HIS7.out.step HT8.out (by have := HB12.out.2; omega)⟩, ⟨HM7.out.step HT8.out (by have := HB15.out.2.1; omega)⟩⟩
                · have hjs : j = Sr.length := by omega
                  subst hjs
                  have HKN2 : Aside0 (BMap wp b15 (uids Sr)) := ⟨by have := HKN.out; rwa [show Sr.length = (uids Sr).length by simp [uids], List.take_length] at this⟩
                  have HBM2 : Aside0 (BMap wp b6 (goneTo G (uids Sr) (uids S3) (uids Sr).length)) := ⟨by have := HBM.out; rwa [show Sr.length = (uids Sr).length by simp [uids]] at this⟩
                  have HG2 := Aside0.mk (HGN.out.next HGD.out HWF.out HMV.out)
                  clear HKN HBM HIS
                  obtain ⟨G2, hG2⟩ : ∃ G2, G2 = goneTo G (uids Sr) (uids S3) (uids Sr).length := ⟨_, rfl⟩
                  rw [← hG2] at HBM2 HG2
                  clear hG2
                  go_wp2_with fail
                  go_loopw [96] (fun i wr => ∃ (j : Nat), j ≤ S3.length ∧ i = .int .i64 j ∧ Aside0 (LawAt w.heap.size w g wr lv3 S3 t3 (60 + 60 * k + 60)) ∧ Aside0 (BMap wr b6 G2) ∧ Aside0 (IL w.heap.size wr (.slice An S3.length cn) (uids S3)) ∧ Aside0 (BMap wr b15 (uids Sr))) (fun i _ => S3.length - (intOf i).toNat)
                  case atStart => exact ⟨0, Nat.zero_le _, rfl, HLA, HBM2, HN, HKN2⟩
                  case round =>
                    clear HLA HBM2 HN HKN2 HW
                    obtain ⟨j, hj, rfl, HLA, HBM, HN, HKN⟩ := hrel
                    obtain ⟨wp, rfl⟩ : ∃ wp : World, wp = wr := ⟨_, rfl⟩
                    by_cases hjl : j < S3.length
                    · have hul : (uids S3).length = S3.length := by simp [uids]
                      obtain ⟨b, o, c, hvn, _, hcc⟩ := HN.out.cells (by omega)
                      obtain ⟨u, hu⟩ : ∃ u, (uids S3)[j]? = some u := ⟨_, List.getElem?_eq_getElem (by omega)⟩
                      have hcj := hcc j u hu
                      have hum : u ∈ uids S3 := List.mem_of_getElem? hu
                      have huwf := wf_uids.1 HLA.out.vw.wf u hum
                      have hlk := HKN.out.lookup huwf
                      injection hvn with e1 e2 e3
                      subst e1
                      cases hct : (uids Sr).contains u with
                      | true =>
                        rw [hct] at hlk
                        clear hul hu e2 e3 huwf hum hcc hct
                        go_wp2_with fail
                        go_roundw
                        case measure => simp [intOf]; omega
                        case rel => exact ⟨j + 1, by omega, by go_num, HLA, HBM, HN, HKN⟩
                      | false =>
                        rw [hct] at hlk
                        have hfr : tr < u := HMV.out.fresh hum (by simpa using hct)
                        clear hul hu e2 e3 huwf hum hcc hct
                        go_wp2_with fail
                        go_roundw
                        case measure => simp [intOf]; omega
                        case rel => exact ⟨j + 1, by omega, by go_num, HLA, HBM, HN, HKN⟩
                    · have hjs : j = S3.length := by omega
                      subst hjs
                      go_wp2_with fail
                      refine (max_calls HLA.out.view (by omega)).mono ?_
                      rintro e w4 ⟨rfl, rfl⟩
                      go_wp2_with fail
                      go_roundw
                      case measure => simp [intOf]; omega
                      case rel =>
                        refine ⟨k + 1, lv3, S3, t3, G2, by omega, by go_num, ?_, ⟨by have := HLA.out; rwa [show 60 + 60 * k + 60 = 60 + 60 * (k + 1) by omega] at this⟩, HBM, HG2⟩
                        rw [moved_top HMV.out]
        · have hks : k = l.length := by omega
          subst hks
          go_wp2_with fail
          refine (alive_calls _).mono ?_
          rintro e w2 ⟨rfl, hb2⟩
          go_wp2
          go_ret
          exact ⟨rfl, HLA.out.low.trans (hb2.mono HLA.out.size)⟩
end Go.Proofs.YtnenlkojecicfaaDoor.V
