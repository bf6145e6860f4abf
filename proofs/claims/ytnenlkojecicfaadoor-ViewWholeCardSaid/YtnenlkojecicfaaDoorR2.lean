/- ViewWhole: the walk. -/
import Derived.Test.YtnenlkojecicfaaDoorR0
import Derived.Test.YtnenlkojecicfaaDoorA1
import Derived.Deep.RegionHeld3
import Derived.Deep.DeepCutAuto
set_option linter.unusedVariables false
set_option linter.unusedSimpArgs false
namespace Go.Proofs.YtnenlkojecicfaaDoor.V
open Go.RowKit Go.Proofs.YtnenlkojecicfaaDoorW.PrintWords Go.Proofs.YtnenlkojecicfaaDoor.P

theorem Vw.sync {S : List S74} {top : Int} {n : Nat} (h : Vw S top n) (q : Bool) (ms : List S43) (hx : ∀ m ∈ ms, (Lit.int .i64 m.f0).wf = true) (hl : ms.length ≤ 60) : Vw (syncS q S top (risingF [] ms)) (syncG q S top (risingF [] ms)).2 (n + 60) := by
  refine ⟨(sync_moved h.good q _).good, wf_uids.2 (fun u hu => ?_), ?_⟩
  · rcases sync_mem q S top ms u hu with h1 | ⟨m, hm, rfl⟩
    · exact wf_uids.1 h.wf u h1
    · exact hx m hm
  · have := sync_len q S top ms
    have := h.len
    omega
def wantB (S : List S74) (top : Int) (m : S43) : Bool := (uids S).contains m.f0 || decide (top < m.f0)
def wantTo (S : List S74) (top : Int) (l : List S43) (k : Nat) : List Int := ((l.take k).filter (wantB S top)).map (·.f0)
theorem want_yes {S : List S74} {top : Int} {l : List S43} {k : Nat} {m : S43} (hm : l[k]? = some m) (h : wantB S top m = true) : wantTo S top l (k + 1) = wantTo S top l k ++ [m.f0] := by
  unfold wantTo
  rw [take_snoc hm, List.filter_append, List.map_append, List.filter_cons, if_pos h]
  rfl
theorem want_no {S : List S74} {top : Int} {l : List S43} {k : Nat} {m : S43} (hm : l[k]? = some m) (h : wantB S top m = false) : wantTo S top l (k + 1) = wantTo S top l k := by
  unfold wantTo
  rw [take_snoc hm, List.filter_append, List.map_append, List.filter_cons, h]
  simp
theorem want_len (S : List S74) (top : Int) (l : List S43) (k : Nat) : (wantTo S top l k).length ≤ k := by
  unfold wantTo
  rw [List.length_map]
  exact Nat.le_trans (List.length_filter_le _ _) (List.length_take_le _ _)
theorem want_all (S : List S74) (top : Int) (l : List S43) : wantTo S top l l.length = wantF S top l := by
  unfold wantTo wantF wantB
  rw [List.take_length]
set_option maxRecDepth 100000 in
set_option maxHeartbeats 4000000 in
theorem viewWhole_calls (v0 v1 v2 : Value) (first : List S43) (l : List S33) (now : List S43) (w : World) (h0 : MC w v0 first) (h1 : AC w v1 l) (h2 : MC w v2 now) (hq0 : ∀ m ∈ first, MailQ m) (hq1 : ∀ x ∈ l, ActQ x) (hq2 : ∀ m ∈ now, MailQ m) :
    Calls Tryd.prog 4 #[v0, v1, v2] w fun e w' => e = .returned (.bool true) ∧ Below w.heap.size w w' := by
  obtain ⟨b1, hb1, hc1⟩ := light_calls first
  obtain ⟨b2, hb2, hc2⟩ := few_calls l
  obtain ⟨b3, hb3, hc3⟩ := light_calls now
  have hmm := @run_makeMap Tryd.prog
  have H0 := Aside0.mk h0
  have H1 := Aside0.mk h1
  have H2 := Aside0.mk h2
  have HQ0 := Aside0.mk hq0
  have HQ1 := Aside0.mk hq1
  have HQ2 := Aside0.mk hq2
  have HC1 := Aside0.mk hc1
  have HC2 := Aside0.mk hc2
  have HC3 := Aside0.mk hc3
  have HL1 := Aside0.mk hb1
  have HL2 := Aside0.mk hb2
  have HL3 := Aside0.mk hb3
  obtain ⟨A0, c0, rfl, hl0, hr0⟩ := h0
  obtain ⟨A1, c1, rfl, hl1, hr1⟩ := h1
  obtain ⟨A2, c2, rfl, hl2, hr2⟩ := h2
  have HR0 := Aside0.mk hr0
  have HR1 := Aside0.mk hr1
  have HR2 := Aside0.mk hr2
  clear hq0 hq1 hq2 hc1 hc2 hc3 hb1 hb2 hb3 hr0 hr1 hr2
  go_enter Tryd.func4, Tryd.ntmps4
  go_wp2_with fail
  refine (HC1.out w _ H0.out).mono ?_
  rintro e w1 ⟨rfl, hb1⟩
  have HB1 := Aside0.mk hb1
  clear hb1
  cases b1 with
  | false =>
    go_wp2_with fail
    refine (alive_calls _).mono ?_
    rintro e w2 ⟨rfl, hb2⟩
    go_wp2
    go_ret
    exact ⟨rfl, HB1.out.trans (hb2.mono HB1.out.size)⟩
  | true =>
    go_wp2_with fail
    refine (HC2.out w1 _ (H1.out.below HB1.out)).mono ?_
    rintro e w2 ⟨rfl, hb2⟩
    have HB2 := Aside0.mk (HB1.out.trans (hb2.mono HB1.out.size))
    clear hb2 HB1
    cases b2 with
    | false =>
      go_wp2_with fail
      refine (alive_calls _).mono ?_
      rintro e w3 ⟨rfl, hb3⟩
      go_wp2
      go_ret
      exact ⟨rfl, HB2.out.trans (hb3.mono HB2.out.size)⟩
    | true =>
      have hlf : first.length ≤ 60 := HL1.out (by first | rfl | trivial)
      have HLF := Lib.hid hlf
      have HF2 : Aside0 (l.length ≤ 30 ∧ ∀ x ∈ l, x.f1.length ≤ 60) := ⟨HL2.out (by first | rfl | trivial)⟩
      clear hlf HL1 HL2
      go_wp2_with fail
      refine (HC3.out w2 _ (H2.out.below HB2.out)).mono ?_
      rintro e w3 ⟨rfl, hb3⟩
      have HB3 := Aside0.mk (HB2.out.trans (hb3.mono HB2.out.size))
      clear hb3 HB2
      cases b3 with
      | false =>
        go_wp2_with fail
        refine (alive_calls _).mono ?_
        rintro e w4 ⟨rfl, hb4⟩
        go_wp2
        go_ret
        exact ⟨rfl, HB3.out.trans (hb4.mono HB3.out.size)⟩
      | true =>
        have hlf := HLF.out
        have hll : l.length ≤ 30 := HF2.out.1
        have hln : now.length ≤ 60 := HL3.out (by first | rfl | trivial)
        go_wp2_with fail
        refine (new_calls w.heap.size A0 c0 first w3 HB3.out.size ((mails_of_C HR0.out).step (SK.of_below HB3.out)) (fun m hm => (HQ0.out m hm).2) (by omega)).mono ?_
        rintro e w4 ⟨g, lv, rfl, hv3, hx3, hb3⟩
        have HV3 : Aside0 (LawAt w.heap.size w g w4 lv (growF [] 0 (risingF [] first)).1 (growF [] 0 (risingF [] first)).2 (60 + 60 * 0)) := ⟨⟨rfl, new_vw first (fun m hm => (HQ0.out m hm).1) hlf, hv3, HB3.out.trans (hb3.mono HB3.out.size)⟩⟩
        have HNT := Lib.hid (new_top first)
        clear hv3 hx3 hb3
        obtain ⟨S, hS⟩ : ∃ S, S = (growF [] 0 (risingF [] first)).1 := ⟨_, rfl⟩
        obtain ⟨top, hT⟩ : ∃ top, top = (growF [] 0 (risingF [] first)).2 := ⟨_, rfl⟩
        rw [← hS, ← hT] at HV3 HNT
        clear hS hT
        have hSl : S.length ≤ 60 := HV3.out.vw.len
        go_wp2_with fail
        refine (max_calls HV3.out.view (by omega)).mono ?_
        rintro e w5 ⟨rfl, rfl⟩
        rw [HNT.out]
        go_wp2_with fail
        have HQ : Aside0 (∀ x ∈ l, x.f1.length ≤ 60) := ⟨HF2.out.2⟩
        clear HNT HB3 HC1 HC2 HC3 HL3 HLF HF2 H0 HR0 H1 H2 hSl HQ0
        go_loopw [37, 8] (fun i t wr => ∃ (k : Nat) (lvr : Value) (Sr : List S74) (tr : Int), k ≤ l.length ∧ i = .int .i64 k ∧ t = .int .i64 tr ∧ Aside0 (LawAt w.heap.size w g wr lvr Sr tr (60 + 60 * k))) (fun i _ _ => l.length - (intOf i).toNat)
        case atStart => exact ⟨0, lv, S, top, Nat.zero_le _, rfl, rfl, HV3⟩
        case round =>
          clear HV3
          obtain ⟨k, lvr, Sr, tr, hk, rfl, rfl, HLA⟩ := hrel
          obtain ⟨wo, rfl⟩ : ∃ wo : World, wo = wr := ⟨_, rfl⟩
          by_cases hlt : k < l.length
          · obtain ⟨ad, x, Ax, cx, Af, cf, hA1, hx, ⟨h0, h1, h2, h3⟩, hmx, hfx, hqx⟩ := acts_at HR1.out HLA.out.low HQ1.out k hlt
            have hxl : x.f1.length ≤ 60 := HQ.out x (List.mem_of_getElem? hx)
            have HX := Lib.hid hx
            have HMX := Aside0.mk hmx
            have HFX := Aside0.mk hfx
            have HQX := Aside0.mk hqx
            clear hx hmx hfx hqx
            subst hA1
            have hSl : Sr.length ≤ 1860 := by have := HLA.out.vw.len; omega
            go_wp2_with fail
            have hbel : Below wo.heap.size wo (wo.alloc (.cells #[.int .i64 x.f0, .slice Ax x.f1.length cx, .int .i64 x.f2, .slice Af x.f3.length cf] 33)) := below_alloc (Below.refl _ _) _
            have HLA1 := Aside0.mk (HLA.out.below hbel)
            have HMX1 := Aside0.mk (HMX.out.below hbel)
            have HFX1 := Aside0.mk (HFX.out.below hbel)
            clear hbel HLA HMX HFX h0 h1 h2 h3
            refine (do_calls w.heap.size g lvr Sr tr x Ax Af cx cf _ HLA1.out.size HLA1.out.view HMX1.out HFX1.out (fun m hm => (HQX.out.1 m hm).2) HQX.out.2.1 (fun m hm => (HQX.out.1 m hm).1) HLA1.out.vw.wf (by omega) HLA1.out.vw.good.pairwise).mono ?_
            rintro e w3 ⟨lv3, vo, rfl, hv3, ho3, ht3, hat3⟩
            have HLA3 : Aside0 (LawAt w.heap.size w g w3 lv3 (doS x Sr tr) (doT x Sr tr) (60 + 60 * k + 60)) := ⟨HLA1.out.to ht3 hv3 (HLA1.out.vw.go x (fun m hm => (HQX.out.1 m hm).1) hxl)⟩
            have HMV := Aside0.mk (do_moved HLA1.out.vw.good x)
            clear hv3 ho3 ht3 hat3 HLA1 HMX1 HFX1 HX
            obtain ⟨S3, hS3⟩ : ∃ S3, S3 = doS x Sr tr := ⟨_, rfl⟩
            obtain ⟨t3, hT3⟩ : ∃ t3, t3 = doT x Sr tr := ⟨_, rfl⟩
            rw [← hS3, ← hT3] at HLA3 HMV
            clear hS3 hT3
            have hSl3 : S3.length ≤ 1920 := by have := HLA3.out.vw.len; omega
            go_wp2_with fail
            refine (max_calls HLA3.out.view (by omega)).mono ?_
            rintro e w4 ⟨rfl, rfl⟩
            go_wp2_with fail
            go_roundw
            case measure => simp [intOf]; omega
            case rel => exact ⟨k + 1, lv3, S3, t3, by omega, by go_num, by rw [moved_top HMV.out], ⟨by have := HLA3.out; rwa [show 60 + 60 * k + 60 = 60 + 60 * (k + 1) by omega] at this⟩⟩
          · have hks : k = l.length := by omega
            subst hks
            have hSl : Sr.length ≤ 1860 := by have := HLA.out.vw.len; omega
            go_wp2_with fail
            have hbm : Below wo.heap.size wo (wo.alloc (.map #[] 0)) := below_alloc (Below.refl _ _) _
            have HLA5 := Aside0.mk (HLA.out.below hbm)
            have HKN5 : Aside0 (BMap (wo.alloc (.map #[] 0)) wo.heap.size []) := ⟨BMap.made wo⟩
            have HB11 : Aside0 (w.heap.size ≤ wo.heap.size) := ⟨HLA.out.size⟩
            generalize wo.alloc (.map #[] 0) = W5 at *
            generalize wo.heap.size = b11 at *
            clear hbm HLA
            refine (uids_calls HLA5.out.view (by omega)).mono ?_
            rintro e w6 ⟨vn, rfl, ho6, hb6⟩
            have HN6 := Aside0.mk (ho6.il w.heap.size)
            have HLA6 := Aside0.mk (HLA5.out.below hb6)
            have HKN6 := Aside0.mk (HKN5.out.below hb6)
            obtain ⟨An, cn, hvn, _⟩ := OwnRow.slice_ ho6
            subst hvn
            clear ho6 hb6 HLA5 HKN5
            go_wp2_with fail
            go_loopw [53] (fun i wr => ∃ (j : Nat), j ≤ Sr.length ∧ i = .int .i64 j ∧ Aside0 (LawAt w.heap.size w g wr lvr Sr tr (60 + 60 * l.length)) ∧ Aside0 (IL w.heap.size wr (.slice An Sr.length cn) (uids Sr)) ∧ Aside0 (BMap wr b11 ((uids Sr).take j))) (fun i _ => Sr.length - (intOf i).toNat)
            case atStart => exact ⟨0, Nat.zero_le _, rfl, HLA6, ⟨by have := HN6.out; rwa [List.length_map] at this⟩, HKN6⟩
            case round =>
              clear HLA6 HN6 HKN6
              obtain ⟨j, hj, rfl, HLA, HN, HKN⟩ := hrel
              obtain ⟨wp, rfl⟩ : ∃ wp : World, wp = wr := ⟨_, rfl⟩
              by_cases hjl : j < Sr.length
              · have hul : (uids Sr).length = Sr.length := by simp [uids]
                obtain ⟨b, o, c, hvn, _, hcc⟩ := HN.out.cells (by omega)
                obtain ⟨u, hu⟩ : ∃ u, (uids Sr)[j]? = some u := ⟨_, List.getElem?_eq_getElem (by omega)⟩
                have hcj := hcc j u hu
                have hum : u ∈ uids Sr := List.mem_of_getElem? hu
                have huwf := wf_uids.1 HLA.out.vw.wf u hum
                obtain ⟨w7, hup, hm7, ht7⟩ := HKN.out.update huwf (take_fresh HLA.out.vw.good.rise hu)
                have HM7 : Aside0 (BMap w7 b11 ((uids Sr).take (j + 1))) := ⟨by rw [take_snoc hu]; exact hm7⟩
                have HLA7 := Aside0.mk (HLA.out.set HKN.out HB11.out ht7)
                have HN7 := Aside0.mk (HN.out.step (HKN.out.sk HB11.out ht7))
                injection hvn with e1 e2 e3
                subst e1
                clear hul hu e2 e3 huwf hum hcc hm7 ht7
                go_wp2_with fail
                go_roundw
                case measure => simp [intOf]; omega
                case rel => exact ⟨j + 1, by omega, by go_num, HLA7, HN7, HM7⟩
              · have hjs : j = Sr.length := by omega
                subst hjs
                have HKN2 : Aside0 (BMap wp b11 (uids Sr)) := ⟨by have := HKN.out; rwa [show Sr.length = (uids Sr).length by simp [uids], List.take_length] at this⟩
                clear HKN HN
                go_wp2_with fail
                refine (rrising_calls w.heap.size A2 c2 now wp HLA.out.size ((mails_of_C HR2.out).step (SK.of_below HLA.out.low)) (by omega)).mono ?_
                rintro e w8 ⟨v, rfl, ho8, hb8⟩
                obtain ⟨L, hL⟩ : ∃ L, L = risingF [] now := ⟨_, rfl⟩
                rw [← hL] at ho8
                have hLl : L.length ≤ 60 := by rw [hL]; have := rising_len now; omega
                have HRI : Aside0 (Rise L) := ⟨by rw [hL]; exact rise_rising now⟩
                have HWL : Aside0 (∀ m ∈ L, (Lit.int .i64 m.f0).wf = true) := ⟨fun m hm => by
                  rw [hL] at hm
                  rcases mem_risingF [] m hm with h | h
                  · cases h
                  · exact (HQ2.out m h).1⟩
                have HL := Lib.hid hL
                obtain ⟨Av, cv, hv, hm8⟩ := ho8.mails
                subst hv
                have HM8 := Aside0.mk hm8
                have HLA8 := Aside0.mk (HLA.out.below hb8)
                have HKN8 := Aside0.mk (HKN2.out.below hb8)
                clear ho8 hm8 hb8 hL HLA HKN2
                go_wp2_with fail
                obtain ⟨N, hN⟩ : ∃ N, N = w8.heap.size := ⟨_, rfl⟩
                have HN : Aside0 (w.heap.size ≤ N) := ⟨by rw [hN]; exact HLA8.out.size⟩
                have HN2 : Aside0 (N ≤ w8.heap.size) := ⟨by omega⟩
                clear hN
                go_loopw [63, 14] (fun i v wr => ∃ (j : Nat), j ≤ L.length ∧ i = .int .i64 j ∧ Aside0 (LawAt w.heap.size w g wr lvr Sr tr (60 + 60 * l.length)) ∧ Aside0 (Mails w.heap.size wr Av L.length L) ∧ Aside0 (BMap wr b11 (uids Sr)) ∧ Aside0 (IRow wr N v (wantTo Sr tr L j)) ∧ Aside0 (N ≤ wr.heap.size)) (fun i _ _ => L.length - (intOf i).toNat)
                case atStart => exact ⟨0, Nat.zero_le _, rfl, HLA8, HM8, HKN8, ⟨OwnRow.none_ _ _ _ _ _⟩, HN2⟩
                case round =>
                  clear HLA8 HM8 HKN8 HN2
                  obtain ⟨j, hj, rfl, HLA, HM, HKN, HO, HNW⟩ := hrel
                  obtain ⟨wq, rfl⟩ : ∃ wq : World, wq = wr := ⟨_, rfl⟩
                  by_cases hjl : j < L.length
                  · obtain ⟨ad, vf, x, rfl, hx, ⟨h0, h1, h2, h3, h4, h5, h6, h7, h8, h9, h10, h11⟩, hf⟩ := mail_at HM.out j hjl
                    obtain ⟨Af, cf, rfl, _, hfr⟩ := hf
                    have HX := Lib.hid hx
                    have hwx := HWL.out x (List.mem_of_getElem? hx)
                    have HWX := Aside0.mk hwx
                    have hwl := want_len Sr tr L j
                    clear hx hfr hwx
                    go_upto_region 21 with fail
                    have hx0 : (wq.alloc (.cells #[.int .i64 x.f0, .slice Af x.f1.length cf, .int .i64 x.f2.f0, .int .i64 x.f2.f1, .int .i64 x.f2.f2, .int .i64 x.f2.f3, .int .i64 x.f2.f4, .int .i64 x.f2.f5, .int .i64 x.f2.f6, .string x.f3, .int .i64 x.f4, .int .i64 x.f5] 43)).heap[wq.heap.size]? = some (.cells #[.int .i64 x.f0, .slice Af x.f1.length cf, .int .i64 x.f2.f0, .int .i64 x.f2.f1, .int .i64 x.f2.f2, .int .i64 x.f2.f3, .int .i64 x.f2.f4, .int .i64 x.f2.f5, .int .i64 x.f2.f6, .string x.f3, .int .i64 x.f4, .int .i64 x.f5] 43) := heap_alloc_new wq _
                    have hbel : Below wq.heap.size wq (wq.alloc (.cells #[.int .i64 x.f0, .slice Af x.f1.length cf, .int .i64 x.f2.f0, .int .i64 x.f2.f1, .int .i64 x.f2.f2, .int .i64 x.f2.f3, .int .i64 x.f2.f4, .int .i64 x.f2.f5, .int .i64 x.f2.f6, .string x.f3, .int .i64 x.f4, .int .i64 x.f5] 43)) := below_alloc (Below.refl _ _) _
                    generalize wq.alloc _ = W7 at *
                    have HLA7 := Aside0.mk (HLA.out.below hbel)
                    have HM7 := Aside0.mk (HM.out.below hbel)
                    have HKN7 := Aside0.mk (HKN.out.below hbel)
                    have HO7 := Aside0.mk (HO.out.below hbel)
                    have HNW7 : Aside0 (N ≤ W7.heap.size) := ⟨Nat.le_trans HNW.out hbel.size⟩
                    generalize wq.heap.size = bx at *
                    have q0 : W7.cell? ⟨bx, 0, none⟩ = some (.int .i64 x.f0) := by simp [World.cell?, hx0]
                    have hlk := HKN7.out.lookup HWX.out
                    clear hx0 hbel HLA HM HKN HO HNW h0 h1 h2 h3 h4 h5 h6 h7 h8 h9 h10 h11
                    cases hct : (uids Sr).contains x.f0 with
                    | true =>
                        rw [hct] at hlk
                        have HWT := Lib.hid (show wantB Sr tr x = true by unfold wantB; rw [hct]; rfl)
                        clear hct
                        go_wp2_with (at_builtin; (refine app_plain (fun x cs => cs = [Value.int .i64 x]) N rfl (.tmp 77) (.tmp 80) 34 3 _ 1 8 rfl Tryd.underlying34 info3 rfl (by decide) (by omega) _ (wantTo Sr tr L j) x.f0 [.int .i64 x.f0] rfl _ rfl ?hm rfl rfl (by intro u hu; rw [List.mem_singleton.1 hu]; rfl) ?ho ?hb ?hl ?_); (case hm => rfl); (case ho => exact HO7.out); (case hb => exact HNW7.out); (case hl => omega); intro v1 w9 ho1 ht9 hat9)
                        have HSK := Aside0.mk (orow_sk (T := [9, 43]) (B := w.heap.size) HO7.out HN.out (by decide) ht9)
                        go_roundw
                        case measure => simp [intOf]; omega
                        case rel => exact ⟨j + 1, by omega, by go_num, ⟨HLA7.out.row_to HO7.out HN.out (by decide) (by decide) (by decide) ht9⟩, ⟨HM7.out.step HSK.out⟩, ⟨HKN7.out.step ht9 (map_apart2 HO7.out HKN7.out)⟩, ⟨by rw [want_yes HX.out HWT.out]; exact ho1⟩, ⟨Nat.le_trans HNW7.out ht9.size⟩⟩
                    | false =>
                      rw [hct] at hlk
                      by_cases hgt : tr < x.f0
                      · have HWT := Lib.hid (show wantB Sr tr x = true by unfold wantB; rw [hct]; simpa using hgt)
                        clear hct
                        go_wp2_with (at_builtin; (refine app_plain (fun x cs => cs = [Value.int .i64 x]) N rfl (.tmp 77) (.tmp 80) 34 3 _ 1 8 rfl Tryd.underlying34 info3 rfl (by decide) (by omega) _ (wantTo Sr tr L j) x.f0 [.int .i64 x.f0] rfl _ rfl ?hm rfl rfl (by intro u hu; rw [List.mem_singleton.1 hu]; rfl) ?ho ?hb ?hl ?_); (case hm => rfl); (case ho => exact HO7.out); (case hb => exact HNW7.out); (case hl => omega); intro v1 w9 ho1 ht9 hat9)
                        have HSK := Aside0.mk (orow_sk (T := [9, 43]) (B := w.heap.size) HO7.out HN.out (by decide) ht9)
                        go_roundw
                        case measure => simp [intOf]; omega
                        case rel => exact ⟨j + 1, by omega, by go_num, ⟨HLA7.out.row_to HO7.out HN.out (by decide) (by decide) (by decide) ht9⟩, ⟨HM7.out.step HSK.out⟩, ⟨HKN7.out.step ht9 (map_apart2 HO7.out HKN7.out)⟩, ⟨by rw [want_yes HX.out HWT.out]; exact ho1⟩, ⟨Nat.le_trans HNW7.out ht9.size⟩⟩
                      · have HWT := Lib.hid (show wantB Sr tr x = false by unfold wantB; rw [hct]; simpa using hgt)
                        clear hct
                        have hgb : decide (tr < x.f0) = false := by simpa using hgt
                        go_wp2_with fail
                        go_roundw
                        case measure => simp [intOf]; omega
                        case rel => exact ⟨j + 1, by omega, by go_num, HLA7, HM7, HKN7, ⟨by rw [want_no HX.out HWT.out]; exact HO7.out⟩, HNW7⟩
                  · have hjs : j = L.length := by omega
                    subst hjs
                    have HW : Aside0 (IRow wq N u14 (wantF Sr tr L)) := ⟨by rw [← want_all]; exact HO.out⟩
                    have HI := Aside0.mk (HW.out.il w.heap.size)
                    clear HM HKN HO HNW
                    go_wp2_with fail
                    have HM1 := Aside0.mk ((mails_of_C HR2.out).step (SK.of_below HLA.out.low))
                    refine (sync_calls w.heap.size g lvr Sr tr false A2 c2 now wq HLA.out.size HLA.out.view HM1.out (fun m hm => (HQ2.out m hm).2) (fun m hm => (HQ2.out m hm).1) HLA.out.vw.wf (by omega)).mono ?_
                    rintro e w9 ⟨lv9, vo9, rfl, hv9, ho9, ht9, hat9⟩
                    have HWH := Lib.hid (whole_uids HLA.out.vw.good (rise_rising now))
                    rw [← HL.out] at hv9 HWH
                    have HTO := Aside0.mk (sync_told (S := Sr) (top := tr) HRI.out)
                    have HV9 := HLA.out.vw.sync false now (fun m hm => (HQ2.out m hm).1) hln
                    rw [← HL.out] at HV9
                    have HLA9 := Aside0.mk (HLA.out.to ht9 hv9 HV9)
                    have HI9 := Aside0.mk (HLA.out.il_to HI.out ht9)
                    clear hv9 ho9 ht9 hat9 HV9 HLA HI HW HM1
                    obtain ⟨S9, hS9⟩ : ∃ S9, S9 = syncS false Sr tr L := ⟨_, rfl⟩
                    obtain ⟨t9, hT9⟩ : ∃ t9, t9 = (syncG false Sr tr L).2 := ⟨_, rfl⟩
                    rw [← hS9, ← hT9] at HLA9 HTO
                    rw [← hS9] at HWH
                    clear hS9 hT9
                    have hSl9 : S9.length ≤ 1980 := by have := HLA9.out.vw.len; omega
                    go_wp2_with fail
                    refine (uids_calls HLA9.out.view (by omega)).mono ?_
                    rintro e w10 ⟨v10, rfl, ho10, hb10⟩
                    have HA := Aside0.mk ho10.ic
                    have HLA10 := Aside0.mk (HLA9.out.below hb10)
                    have HI10 := Aside0.mk (HI9.out.below hb10)
                    clear ho10 hb10 HLA9 HI9
                    go_wp2_with fail
                    refine (ints_calls HA.out HI10.out.ic (by rw [List.length_map]; omega)).mono ?_
                    rintro e w11 ⟨rfl, hb11⟩
                    have hde : decide (List.map (fun x => x.f0) S9 = wantF Sr tr L) = true := decide_eq_true HWH.out
                    rw [hde]
                    have HLA11 := Aside0.mk (HLA10.out.below hb11)
                    have HM11 := Aside0.mk ((mails_of_C HR2.out).step (SK.of_below HLA11.out.low))
                    clear hde hb11 HA HI10 HLA10
                    go_wp2_with fail
                    obtain ⟨eo, es, et⟩ := told_again HTO.out false
                    refine (sync_calls w.heap.size g lv9 S9 t9 false A2 c2 now w11 HLA11.out.size HLA11.out.view HM11.out (fun m hm => (HQ2.out m hm).2) (fun m hm => (HQ2.out m hm).1) HLA11.out.vw.wf (by omega)).mono ?_
                    rw [← HL.out, eo, es, et]
                    rintro e w12 ⟨lv12, vo12, rfl, hv12, ho12, ht12, hat12⟩
                    have HLA12 := Aside0.mk (HLA11.out.to ht12 hv12 HLA11.out.vw)
                    obtain ⟨Ao, co, hvo, _⟩ := OwnRow.slice_ ho12
                    subst hvo
                    have HM12 := Aside0.mk ((mails_of_C HR2.out).step (SK.of_below HLA12.out.low))
                    clear hv12 ho12 ht12 hat12 HLA11 HM11 eo es et
                    go_wp2_with fail
                    obtain ⟨eo, es, et⟩ := told_again HTO.out true
                    refine (sync_calls w.heap.size g lv12 S9 t9 true A2 c2 now w12 HLA12.out.size HLA12.out.view HM12.out (fun m hm => (HQ2.out m hm).2) (fun m hm => (HQ2.out m hm).1) HLA12.out.vw.wf (by omega)).mono ?_
                    rw [← HL.out, eo, es, et]
                    rintro e w13 ⟨lv13, vo13, rfl, hv13, ho13, ht13, hat13⟩
                    have HLA13 := Aside0.mk (HLA12.out.to ht13 hv13 HLA12.out.vw)
                    obtain ⟨Ap, cp, hvp, _⟩ := OwnRow.slice_ ho13
                    subst hvp
                    clear hv13 ho13 ht13 hat13 HLA12 HM12 eo es et
                    go_wp2_with fail
                    refine (alive_calls _).mono ?_
                    rintro e w14 ⟨rfl, hb14⟩
                    go_wp2
                    go_ret
                    exact ⟨rfl, HLA13.out.low.trans (hb14.mono HLA13.out.size)⟩
end Go.Proofs.YtnenlkojecicfaaDoor.V
