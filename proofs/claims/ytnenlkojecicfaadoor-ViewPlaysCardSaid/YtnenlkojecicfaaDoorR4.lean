/- ViewPlays: the walk. -/
import Derived.Test.YtnenlkojecicfaaDoorR0
import Derived.Test.YtnenlkojecicfaaDoorA1
import Derived.Test.YtnenlkojecicfaaDoorJ4
import Derived.Test.YtnenlkojecicfaaDoorJ5
set_option linter.unusedVariables false
set_option linter.unusedSimpArgs false
namespace Go.Proofs.YtnenlkojecicfaaDoor.V
open Go.RowKit Go.Proofs.YtnenlkojecicfaaDoorW.PrintWords Go.Proofs.YtnenlkojecicfaaDoor.P

section
variable {B g gr n base : Nat} {w0 w w1 : World} {lv lr vo : Value} {S S' : List S74} {top top' : Int} {ts : List S65}
theorem views_apart (hv : ViewAt 70 74 B w g lv S top) (hr : RV B w gr lr S' top') : ∀ k, VX g lv k → ¬ VX gr lr k := by
  intro k h1 h2
  obtain ⟨_, t1, c1, e1, b1⟩ := hv.typed k h1
  obtain ⟨_, t2, c2, e2, b2⟩ := hr.typed k h2
  rw [b1] at b2
  injection b2 with b2
  injection b2 with _ b2 _
  subst b2
  rcases e1 with rfl | rfl <;> rcases e2 with e2 | e2 <;> cases e2
theorem rv_step (hr : RV B w gr lr S' top') (hv : ViewAt 70 74 B w g lv S top) (ht : Tr (VX g lv) w w1) : RV B w1 gr lr S' top' :=
  hr.step ht (fun k h2 h1 => views_apart hv hr k h1 h2) (hv.sk ht (by decide) (by decide))
theorem law_step (h : LawAt B w0 g w lv S top n) (hr : RV B w gr lr S' top') (ht : Tr (VX gr lr) w w1) : LawAt B w0 g w1 lv S top n :=
  ⟨h.hB, h.vw, h.view.step ht (fun k h1 h2 => views_apart h.view hr k h1 h2) (hr.sk ht (by decide) (by decide)), h.low.trans (ht.below (fun k hk hx => by have := (hr.typed k hx).1; omega) h.size)⟩
theorem trow_step (h : TRow B w base vo ts) (hr : RV B w gr lr S' top') (ht : Tr (VX gr lr) w w1) : TRow B w1 base vo ts :=
  h.step ht (view_apart hr h (by decide) (by decide)) (hr.sk ht (by decide) (by decide))
end
theorem TC.nil (w : World) : TC w (.slice none 0 0) [] := ⟨none, 0, rfl, by simp, Kd.C_nil _ _⟩
theorem gone_f2 (l : List S43) : ∀ (S : List S74) (o : Nat), ∀ t ∈ goneF l o S, t.f2.length ≤ 20 := by
  intro S
  induction S with
  | nil => intro o t ht; cases ht
  | cons p r ih =>
    intro o t ht
    unfold goneF at ht
    rcases List.mem_append.1 ht with ht | ht
    · exact ih (o + 1) t ht
    · split at ht
      · cases ht
      · rw [List.mem_singleton.1 ht]; simp
theorem flags_f2 (l : List S43) : ∀ (S : List S74) (o : Nat), ∀ t ∈ flagsO l o S, t.f2.length ≤ 20 := by
  intro S
  induction S with
  | nil => intro o t ht; cases ht
  | cons p r ih =>
    intro o t ht
    unfold flagsO flagO at ht
    rcases List.mem_append.1 ht with ht | ht
    · split at ht
      · rw [List.mem_singleton.1 ht]; exact look_len _ _
      · cases ht
    · exact ih (o + 1) t ht
theorem syncO_f2 (q : Bool) (S : List S74) (top : Int) (l : List S43) : ∀ t ∈ syncO q S top l, t.f2.length ≤ 20 := by
  intro t ht
  unfold syncO at ht
  rcases List.mem_append.1 ht with ht | ht
  · rcases List.mem_append.1 ht with ht | ht
    · unfold syncO1 at ht
      split at ht
      · cases ht
      · exact gone_f2 l S 0 t ht
    · unfold syncO2 at ht
      split at ht
      · rw [List.mem_singleton.1 ht]; simp
      · cases ht
  · exact flags_f2 l _ 0 t ht
theorem syncO_len (q : Bool) (S : List S74) (top : Int) (ms : List S43) : (syncO q S top (risingF [] ms)).length ≤ S.length + (1 + (S.length + ms.length)) := by
  have hl := rising_len ms
  have h1 : (syncO1 q (risingF [] ms) S).length ≤ S.length := by
    unfold syncO1
    split
    · simp
    · exact goneF_len _ S 0
  have h2 : (syncO2 q S top (risingF [] ms)).length ≤ 1 := by unfold syncO2; split <;> simp
  have h3 := flagsO_len (risingF [] ms) (syncG q S top (risingF [] ms)).1 0
  have h4 := growF_len (syncS1 q (risingF [] ms) S) top (risingF [] ms)
  have h5 : (syncS1 q (risingF [] ms) S).length ≤ S.length := by
    unfold syncS1
    split
    · exact Nat.le_refl _
    · exact stayF_len _ _
  unfold syncO
  rw [List.length_append, List.length_append]
  unfold syncG at h3 ⊢
  omega
theorem do_sync {x : S33} {S : List S74} {top : Int} {q : Bool} (h : x.f0 = if q then 1 else 0) : doS x S top = syncS q S top (risingF [] x.f1) ∧ doT x S top = (syncG q S top (risingF [] x.f1)).2 ∧ doO x S top = syncO q S top (risingF [] x.f1) := by
  cases q with
  | false =>
    have h : x.f0 = 0 := h
    simp [doS, doT, doO, h]
  | true =>
    have h : x.f0 = 1 := h
    simp [doS, doT, doO, h]
theorem do_note {x : S33} {S : List S74} {top : Int} (h : x.f0 = 2) : doS x S top = noteS S x.f2 x.f3 ∧ doT x S top = top ∧ doO x S top = [] := by
  simp [doS, doT, doO, h]
theorem do_else {x : S33} {S : List S74} {top : Int} (h0 : x.f0 ≠ 0) (h1 : x.f0 ≠ 1) (h2 : x.f0 ≠ 2) : doS x S top = S ∧ doT x S top = top ∧ doO x S top = [] := by
  simp [doS, doT, doO, h0, h1, h2]
theorem do_calls0 (B g : Nat) (lv : Value) (S : List S74) (top : Int) (x : S33) (x0 : Int) (A1 A3 : Option Addr) (c1 c3 : Nat) (w : World) (e0 : x0 = x.f0) (hB : B ≤ w.heap.size) (hv : ViewAt 70 74 B w g lv S top)
    (hr : Mails B w A1 x.f1.length x.f1) (hf : Rd [9] B Kd.string w A3 x.f3.length x.f3) (hsm : ∀ m ∈ x.f1, ∀ f ∈ m.f1, f.size ≤ 140737488351232) (hsf : ∀ f ∈ x.f3, f.size ≤ 140737488351232)
    (hwf : ∀ m ∈ x.f1, (Lit.int .i64 m.f0).wf = true) (hwS : ∀ p ∈ S, (Lit.int .i64 p.f0).wf = true) (hlen : S.length + x.f1.length ≤ 100000) (hs : S.Pairwise (fun p q => p.f0 < q.f0)) :
    Calls Tryd.prog 15 #[.pointer (some ⟨g, 0, none⟩), .agg #[.int .i64 x0, .slice A1 x.f1.length c1, .int .i64 x.f2, .slice A3 x.f3.length c3]] w fun e w' => ∃ lv' vo : Value, e = .returned vo ∧
      ViewAt 70 74 B w' g lv' (doS x S top) (doT x S top) ∧ TRow B w' w.heap.size vo (doO x S top) ∧ Tr (VX g lv) w w' ∧ (lv'.ownBlock = lv.ownBlock ∨ ∃ b, lv'.ownBlock = some b ∧ w.heap.size ≤ b) := by
  subst e0
  exact do_calls B g lv S top x A1 A3 c1 c3 w hB hv hr hf hsm hsf hwf hwS hlen hs
set_option maxRecDepth 100000 in
set_option maxHeartbeats 8000000 in
theorem viewPlays_calls (v0 v1 : Value) (ask : Int) (first : List S43) (l : List S33) (w : World) (h0 : MC w v0 first) (h1 : AC w v1 l) (hq0 : ∀ m ∈ first, MailQ m) (hq1 : ∀ x ∈ l, ActQ x) (hask : -9223372036854775808 ≤ ask ∧ ask ≤ 9223372036854775807) :
    Calls Tryd.prog 5 #[v0, v1, .int .i64 ask] w fun e w' => e = .returned (.bool true) ∧ Below w.heap.size w w' := by
  obtain ⟨b1, hb1, hc1⟩ := light_calls first
  obtain ⟨b2, hb2, hc2⟩ := few_calls l
  have H0 := Aside0.mk h0
  have H1 := Aside0.mk h1
  have HQ0 := Aside0.mk hq0
  have HQ1 := Aside0.mk hq1
  have HC1 := Aside0.mk hc1
  have HC2 := Aside0.mk hc2
  have HL1 := Aside0.mk hb1
  have HL2 := Aside0.mk hb2
  have HRNG := Aside0.mk hask
  obtain ⟨A0, c0, rfl, hl0, hr0⟩ := h0
  obtain ⟨A1, c1, rfl, hl1, hr1⟩ := h1
  have HR0 := Aside0.mk hr0
  have HR1 := Aside0.mk hr1
  clear hq0 hq1 hc1 hc2 hb1 hb2 hr0 hr1 hask
  go_enter Tryd.func5, Tryd.ntmps5
  go_wp2_with fail
  refine (HC1.out w _ H0.out).mono ?_
  rintro e w1 ⟨rfl, hb1⟩
  have HB1 := Aside0.mk hb1
  clear hb1
  cases b1 with
  | false =>
    go_wp2_with fail
    refine (alive_calls _).mono ?_
    rintro e w2 ⟨rfl, hb2⟩
    go_wp2
    go_ret
    exact ⟨rfl, HB1.out.trans (hb2.mono HB1.out.size)⟩
  | true =>
    go_wp2_with fail
    refine (HC2.out w1 _ (H1.out.below HB1.out)).mono ?_
    rintro e w2 ⟨rfl, hb2⟩
    have HB2 := Aside0.mk (HB1.out.trans (hb2.mono HB1.out.size))
    clear hb2 HB1
    cases b2 with
    | false =>
      go_wp2_with fail
      refine (alive_calls _).mono ?_
      rintro e w3 ⟨rfl, hb3⟩
      go_wp2
      go_ret
      exact ⟨rfl, HB2.out.trans (hb3.mono HB2.out.size)⟩
    | true =>
      have hlf : first.length ≤ 60 := HL1.out (by first | rfl | trivial)
      have HQ : Aside0 (l.length ≤ 30 ∧ ∀ x ∈ l, x.f1.length ≤ 60) := ⟨HL2.out (by first | rfl | trivial)⟩
      have hll : l.length ≤ 30 := HQ.out.1
      go_wp2_with fail
      refine (new_calls w.heap.size A0 c0 first w2 HB2.out.size ((mails_of_C HR0.out).step (SK.of_below HB2.out)) (fun m hm => (HQ0.out m hm).2) (by omega)).mono ?_
      rintro e w3 ⟨g, lv, rfl, hv3, hx3, hb3⟩
      have HV3 : Aside0 (LawAt w.heap.size w g w3 lv (growF [] 0 (risingF [] first)).1 (growF [] 0 (risingF [] first)).2 (60 + 60 * 0)) := ⟨⟨rfl, new_vw first (fun m hm => (HQ0.out m hm).1) hlf, hv3, HB2.out.trans (hb3.mono HB2.out.size)⟩⟩
      clear hv3 hx3 hb3 HB2
      go_wp2_with fail
      refine (rnew_calls w.heap.size A0 c0 first w3 HV3.out.size ((mails_of_C HR0.out).step (SK.of_below HV3.out.low)) (fun m hm => (HQ0.out m hm).2) (by omega)).mono ?_
      rintro e w4 ⟨gr, lr, rfl, hv4, hx4, hb4⟩
      have HLA := Aside0.mk (HV3.out.below hb4)
      have HRA := Aside0.mk hv4
      clear hv4 hx4 hb4 HV3
      obtain ⟨S, hS⟩ : ∃ S, S = (growF [] 0 (risingF [] first)).1 := ⟨_, rfl⟩
      obtain ⟨top, hT⟩ : ∃ top, top = (growF [] 0 (risingF [] first)).2 := ⟨_, rfl⟩
      rw [← hS, ← hT] at HLA HRA
      clear hS hT HC1 HC2 HL1 HL2 H0 HR0 H1 HQ0
      go_wp2_with fail
      go_loopw [34, 7] (fun i pv wr => ∃ (k g : Nat) (lvr lrr : Value) (Sr : List S74) (tr : Int), k ≤ l.length ∧ i = .int .i64 k ∧ pv = .pointer (some ⟨g, 0, none⟩) ∧ Aside0 (LawAt w.heap.size w g wr lvr Sr tr (60 + 60 * k)) ∧ Aside0 (RV w.heap.size wr gr lrr Sr tr)) (fun i _ _ => l.length - (intOf i).toNat)
      case atStart => exact ⟨0, g, lv, lr, S, top, Nat.zero_le _, rfl, rfl, HLA, HRA⟩
      case round =>
        clear HLA HRA
        obtain ⟨k, g, lvr, lrr, Sr, tr, hk, rfl, rfl, HLA, HRA⟩ := hrel
        obtain ⟨wo, rfl⟩ : ∃ wo : World, wo = wr := ⟨_, rfl⟩
        have hSl : Sr.length ≤ 1860 := by have := HLA.out.vw.len; omega
        by_cases hlt : k < l.length
        · obtain ⟨ad, x, Ax, cx, Af, cf, hA1, hx, ⟨h0, h1, h2, h3⟩, hmx, hfx, hqx⟩ := acts_at HR1.out HLA.out.low HQ1.out k hlt
          have hxl : x.f1.length ≤ 60 := HQ.out.2 x (List.mem_of_getElem? hx)
          have HX := Lib.hid hx
          have HMX := Aside0.mk hmx
          have HFX := Aside0.mk hfx
          have HQX := Aside0.mk hqx
          clear hx hmx hfx hqx
          subst hA1
          go_upto_region 9 with fail
          have hx0 : (wo.alloc (.cells #[.int .i64 x.f0, .slice Ax x.f1.length cx, .int .i64 x.f2, .slice Af x.f3.length cf] 33)).heap[wo.heap.size]? = some (.cells #[.int .i64 x.f0, .slice Ax x.f1.length cx, .int .i64 x.f2, .slice Af x.f3.length cf] 33) := heap_alloc_new wo _
          have hbel : Below wo.heap.size wo (wo.alloc (.cells #[.int .i64 x.f0, .slice Ax x.f1.length cx, .int .i64 x.f2, .slice Af x.f3.length cf] 33)) := below_alloc (Below.refl _ _) _
          generalize wo.alloc _ = W1 at *
          have HLA1 := Aside0.mk (HLA.out.below hbel)
          have HRA1 := Aside0.mk (ViewAt.below HRA.out hbel)
          have HMX1 := Aside0.mk (HMX.out.below hbel)
          have HFX1 := Aside0.mk (HFX.out.below hbel)
          have HX0 := Lib.hid hx0
          generalize wo.heap.size = bx at *
          clear hx0 hbel HLA HMX HFX HRA h0 h1 h2 h3
          obtain ⟨x0, e0⟩ : ∃ y, y = x.f0 := ⟨_, rfl⟩
          have q0 : W1.cell? ⟨bx, 0, none⟩ = some (.int .i64 x0) := by rw [e0]; simp [World.cell?, HX0.out]
          have q1 : W1.cell? ⟨bx, 1, none⟩ = some (.slice Ax x.f1.length cx) := by simp [World.cell?, HX0.out]
          have q2 : W1.cell? ⟨bx, 2, none⟩ = some (.int .i64 x.f2) := by simp [World.cell?, HX0.out]
          have q3 : W1.cell? ⟨bx, 3, none⟩ = some (.slice Af x.f3.length cf) := by simp [World.cell?, HX0.out]
          rw [← e0]
          have E0 := Lib.hid e0
          clear e0
          by_cases k3 : x0 = 3
          · subst k3
            go_wp2_with fail
            refine (copy_calls HLA1.out.view (by omega)).mono ?_
            rintro e w2 ⟨g2, lv2, rfl, hv2, hg2, hk2, hb2⟩
            have HLA2 := Aside0.mk (HLA1.out.below hb2)
            have HRA2 := Aside0.mk (ViewAt.below HRA1.out hb2)
            have HMX2 := Aside0.mk (HMX1.out.below hb2)
            have HNEW : Aside0 (∀ k, VX g2 lv2 k → ¬ VX g lvr k) := ⟨fun k h1 h2 => by
              have := HLA1.out.view.lt k h2
              rcases h1 with rfl | h1
              · omega
              · have := hk2 k h1; omega⟩
            have HC2 := Aside0.mk hv2
            have q1_2 : w2.cell? ⟨bx, 1, none⟩ = some (.slice Ax x.f1.length cx) := pw_cell_below hb2 q1
            clear hv2 hg2 hk2 hb2 HLA1 HRA1 HMX1 HFX1 q0 q1 q2 q3 HX0
            go_wp2_with fail
            refine (sync_calls w.heap.size g lvr Sr tr false Ax cx x.f1 w2 HLA2.out.size HLA2.out.view HMX2.out (fun m hm => (HQX.out.1 m hm).2) (fun m hm => (HQX.out.1 m hm).1) HLA2.out.vw.wf (by omega)).mono ?_
            rintro e w3 ⟨lv3, vo3, rfl, hv3, ho3, ht3, hat3⟩
            have HLA3 : Aside0 (LawAt w.heap.size w g2 w3 lv2 Sr tr (60 + 60 * k + 60)) := ⟨⟨rfl, ⟨HLA2.out.vw.good, HLA2.out.vw.wf, by have := HLA2.out.vw.len; omega⟩, HC2.out.step ht3 HNEW.out (HLA2.out.view.sk ht3 (by decide) (by decide)), HLA2.out.view_low ht3⟩⟩
            have HRA3 := Aside0.mk (rv_step HRA2.out HLA2.out.view ht3)
            clear hv3 ho3 ht3 hat3 HLA2 HRA2 HMX2 HNEW HC2 q1_2
            go_wp2_with fail
            go_roundw
            case measure => simp [intOf]; omega
            case rel => exact ⟨k + 1, g2, lv2, lrr, Sr, tr, by omega, by go_num, rfl, ⟨by have := HLA3.out; rwa [show 60 + 60 * k + 60 = 60 + 60 * (k + 1) by omega] at this⟩, HRA3⟩
          have k3b : (x0 == 3) = false := by simpa using k3
          have K3 := Lib.hid k3
          clear k3
          go_wp2_with fail
          refine (do_calls0 w.heap.size g lvr Sr tr x x0 Ax Af cx cf W1 E0.out HLA1.out.size HLA1.out.view HMX1.out HFX1.out (fun m hm => (HQX.out.1 m hm).2) HQX.out.2.1 (fun m hm => (HQX.out.1 m hm).1) HLA1.out.vw.wf (by omega) HLA1.out.vw.good.pairwise).mono ?_
          rintro e w2 ⟨lv2, vo, rfl, hv2, ho2, ht2, hat2⟩
          have HLA2 : Aside0 (LawAt w.heap.size w g w2 lv2 (doS x Sr tr) (doT x Sr tr) (60 + 60 * k + 60)) := ⟨HLA1.out.to ht2 hv2 (HLA1.out.vw.go x (fun m hm => (HQX.out.1 m hm).1) hxl)⟩
          have HRA2 := Aside0.mk (rv_step HRA1.out HLA1.out.view ht2)
          have HMX2 := Aside0.mk (HMX1.out.step (HLA1.out.view.sk ht2 (by decide) (by decide)))
          have HFX2 := Aside0.mk (HFX1.out.step (HLA1.out.view.sk ht2 (by decide) (by decide)))
          have HGD := Aside0.mk HLA1.out.vw.good
          have HO2 := Aside0.mk ho2
          have HX2 : Hid (w2.heap[bx]? = _) := Lib.hid ((ht2.keep bx (lt_of_block HX0.out) (fun hx => by
            obtain ⟨_, t, c, ht, hc⟩ := HLA1.out.view.typed bx hx
            rw [HX0.out] at hc
            injection hc with hc
            injection hc with _ e _
            rcases ht with rfl | rfl <;> cases e)).trans HX0.out)
          replace q0 : w2.cell? ⟨bx, 0, none⟩ = some (.int .i64 x0) := by rw [E0.out]; simp [World.cell?, HX2.out]
          replace q1 : w2.cell? ⟨bx, 1, none⟩ = some (.slice Ax x.f1.length cx) := by simp [World.cell?, HX2.out]
          replace q2 : w2.cell? ⟨bx, 2, none⟩ = some (.int .i64 x.f2) := by simp [World.cell?, HX2.out]
          replace q3 : w2.cell? ⟨bx, 3, none⟩ = some (.slice Af x.f3.length cf) := by simp [World.cell?, HX2.out]
          obtain ⟨Av, cv, hvo, _⟩ := OwnRow.slice_ ho2
          clear hv2 ho2 ht2 hat2 HLA1 HRA1 HMX1 HFX1 HX0 k3b
          by_cases k2 : x0 = 2
          · subst k2
            obtain ⟨ds, dt, dz⟩ := do_note (S := Sr) (top := tr) E0.out.symm
            rw [ds, dt] at HLA2
            rw [dz] at HO2 hvo
            subst hvo
            clear ds dt dz
            go_wp2_with fail
            refine (rnote_calls w.heap.size gr lrr Sr tr x.f2 Af cf x.f3 w2 HRA2.out (by omega) HGD.out.pairwise HFX2.out HQX.out.2.1).mono ?_
            rintro e w3 ⟨rfl, hv3, ht3⟩
            have HLA3 := Aside0.mk (law_step HLA2.out HRA2.out ht3)
            have HO3 := Aside0.mk (trow_step HO2.out HRA2.out ht3)
            have HRA3 := Aside0.mk hv3
            have HT1 := Aside0.mk HO3.out.tc
            have q0_3 : w3.cell? ⟨bx, 0, none⟩ = some (.int .i64 2) := Tr.cell ht3 q0 (fun hx => by
              obtain ⟨_, t, c, ht, hc⟩ := HRA2.out.typed bx hx
              rw [HX2.out] at hc
              injection hc with hc
              injection hc with _ e _
              rcases ht with rfl | rfl <;> cases e)
            clear hv3 ht3 HLA2 HRA2 HO2 HMX2 HFX2 q0 q1 q2 q3
            go_wp2_with fail
            refine (same_calls HT1.out (TC.nil _) (by simp) 20 (by simp) (by omega)).mono ?_
            rintro e w4 ⟨rfl, hb4⟩
            have hde : decide (([] : List S65) = []) = true := decide_eq_true rfl
            rw [hde]
            have HLA4 := Aside0.mk (HLA3.out.below hb4)
            have HRA4 := Aside0.mk (ViewAt.below HRA3.out hb4)
            clear hde hb4 HLA3 HRA3 HT1 q0_3
            go_wp2_with fail
            go_roundw
            case measure => simp [intOf]; omega
            case rel => exact ⟨k + 1, g, lv2, lrr, noteS Sr x.f2 x.f3, tr, by omega, by go_num, rfl, ⟨by have := HLA4.out; rwa [show 60 + 60 * k + 60 = 60 + 60 * (k + 1) by omega] at this⟩, HRA4⟩
          have k2b : (x0 == 2) = false := by simpa using k2
          have K2 := Lib.hid k2
          clear k2
          by_cases k0 : x0 = 0
          · subst k0
            have hkq : x.f0 = if false then 1 else 0 := E0.out.symm
            obtain ⟨ds, dt, dz⟩ := do_sync (S := Sr) (top := tr) hkq
            rw [ds, dt] at HLA2
            rw [dz] at HO2 hvo
            subst hvo
            clear ds dt dz hkq
            go_wp2_with fail
            refine (rsync_calls w.heap.size gr lrr Sr tr false Ax cx x.f1 w2 HLA2.out.size HRA2.out HMX2.out (fun m hm => (HQX.out.1 m hm).2) (by omega)).mono ?_
            rintro e w3 ⟨lr3, vo3, rfl, hv3, ho3, ht3, hat3⟩
            have HLA3 := Aside0.mk (law_step HLA2.out HRA2.out ht3)
            have HO3 := Aside0.mk (trow_step HO2.out HRA2.out ht3)
            have HRA3 := Aside0.mk hv3
            have HT1 := Aside0.mk HO3.out.tc
            have HT2 := Aside0.mk ho3.tc
            have hol := syncO_len false Sr tr x.f1
            have hof := Aside0.mk (syncO_f2 false Sr tr (risingF [] x.f1))
            clear hv3 ho3 ht3 hat3 HLA2 HRA2 HO2 HMX2 HFX2 q0 q1 q2 q3
            go_wp2_with fail
            refine (same_calls HT1.out HT2.out (by omega) 20 hof.out (by omega)).mono ?_
            rintro e w4 ⟨rfl, hb4⟩
            have hde : decide (syncO false Sr tr (risingF [] x.f1) = syncO false Sr tr (risingF [] x.f1)) = true := decide_eq_true rfl
            rw [hde]
            have HLA4 := Aside0.mk (HLA3.out.below hb4)
            have HRA4 := Aside0.mk (ViewAt.below HRA3.out hb4)
            clear hde hb4 HLA3 HRA3 HO3 HT1 HT2
            go_wp2_with fail
            go_roundw
            case measure => simp [intOf]; omega
            case rel => exact ⟨k + 1, g, lv2, lr3, syncS false Sr tr (risingF [] x.f1), (syncG false Sr tr (risingF [] x.f1)).2, by omega, by go_num, rfl, ⟨by have := HLA4.out; rwa [show 60 + 60 * k + 60 = 60 + 60 * (k + 1) by omega] at this⟩, HRA4⟩
          have k0b : (x0 == 0) = false := by simpa using k0
          have K0 := Lib.hid k0
          clear k0
          by_cases k1 : x0 = 1
          · subst k1
            have hkq : x.f0 = if true then 1 else 0 := E0.out.symm
            obtain ⟨ds, dt, dz⟩ := do_sync (S := Sr) (top := tr) hkq
            rw [ds, dt] at HLA2
            rw [dz] at HO2 hvo
            subst hvo
            clear ds dt dz hkq
            go_wp2_with fail
            refine (rsync_calls w.heap.size gr lrr Sr tr true Ax cx x.f1 w2 HLA2.out.size HRA2.out HMX2.out (fun m hm => (HQX.out.1 m hm).2) (by omega)).mono ?_
            rintro e w3 ⟨lr3, vo3, rfl, hv3, ho3, ht3, hat3⟩
            have HLA3 := Aside0.mk (law_step HLA2.out HRA2.out ht3)
            have HO3 := Aside0.mk (trow_step HO2.out HRA2.out ht3)
            have HRA3 := Aside0.mk hv3
            have HT1 := Aside0.mk HO3.out.tc
            have HT2 := Aside0.mk ho3.tc
            have hol := syncO_len true Sr tr x.f1
            have hof := Aside0.mk (syncO_f2 true Sr tr (risingF [] x.f1))
            clear hv3 ho3 ht3 hat3 HLA2 HRA2 HO2 HMX2 HFX2 q0 q1 q2 q3
            go_wp2_with fail
            refine (same_calls HT1.out HT2.out (by omega) 20 hof.out (by omega)).mono ?_
            rintro e w4 ⟨rfl, hb4⟩
            have hde : decide (syncO true Sr tr (risingF [] x.f1) = syncO true Sr tr (risingF [] x.f1)) = true := decide_eq_true rfl
            rw [hde]
            have HLA4 := Aside0.mk (HLA3.out.below hb4)
            have HRA4 := Aside0.mk (ViewAt.below HRA3.out hb4)
            clear hde hb4 HLA3 HRA3 HO3 HT1 HT2
            go_wp2_with fail
            go_roundw
            case measure => simp [intOf]; omega
            case rel => exact ⟨k + 1, g, lv2, lr3, syncS true Sr tr (risingF [] x.f1), (syncG true Sr tr (risingF [] x.f1)).2, by omega, by go_num, rfl, ⟨by have := HLA4.out; rwa [show 60 + 60 * k + 60 = 60 + 60 * (k + 1) by omega] at this⟩, HRA4⟩
          have k1b : (x0 == 1) = false := by simpa using k1
          have K1 := Lib.hid k1
          clear k1
          obtain ⟨ds, dt, dz⟩ := do_else (S := Sr) (top := tr) (x := x) (by rw [← E0.out]; exact K0.out) (by rw [← E0.out]; exact K1.out) (by rw [← E0.out]; exact K2.out)
          rw [ds, dt] at HLA2
          rw [dz] at HO2 hvo
          subst hvo
          clear ds dt dz
          have HT1 := Aside0.mk HO2.out.tc
          go_wp2_with fail
          clear HO2 HMX2 HFX2 q0 q1 q2 q3
          refine (same_calls HT1.out (TC.nil _) (by simp) 20 (by simp) (by omega)).mono ?_
          rintro e w4 ⟨rfl, hb4⟩
          have hde : decide (([] : List S65) = []) = true := decide_eq_true rfl
          rw [hde]
          have HLA4 := Aside0.mk (HLA2.out.below hb4)
          have HRA4 := Aside0.mk (ViewAt.below HRA2.out hb4)
          clear hde hb4 HLA2 HRA2 HT1
          go_wp2_with fail
          go_roundw
          case measure => simp [intOf]; omega
          case rel => exact ⟨k + 1, g, lv2, lrr, Sr, tr, by omega, by go_num, rfl, ⟨by have := HLA4.out; rwa [show 60 + 60 * k + 60 = 60 + 60 * (k + 1) by omega] at this⟩, HRA4⟩
        · have hks : k = l.length := by omega
          subst hks
          go_wp2_with fail
          refine (ruids_calls HRA.out (by omega)).mono ?_
          rintro e w2 ⟨vu, rfl, ho2, hb2⟩
          have HU := Aside0.mk (ho2.il w.heap.size)
          obtain ⟨Au, cu, hvu, hcu⟩ := OwnRow.slice_ ho2
          have hul : (uidsR Sr).length = Sr.length := by simp [uidsR]
          rw [hvu, hul] at HU
          rw [hul] at hvu hcu
          subst hvu
          have HLA2 := Aside0.mk (HLA.out.below hb2)
          have HRA2 := Aside0.mk (ViewAt.below HRA.out hb2)
          have HUL := Lib.hid hul
          clear ho2 hb2 HLA HRA hul
          rcases Nat.eq_zero_or_pos Sr.length with hz | hpos
          · have HLS : Hid (uidOf Sr Sr.length = 0) := Lib.hid (by unfold uidOf; rw [if_neg (by omega)])
            have HAT : Hid (uidOf Sr ask = 0) := Lib.hid (by unfold uidOf; rw [if_neg (by omega)])
            have HZ := Lib.hid hz
            have hz0 : (Sr.length : Int) = 0 := by omega
            have hz1 : Sr.length ≤ 0 := by omega
            clear hz hz0
            by_cases p1 : 1 ≤ ask
            · have p2 : (Sr.length : Int) < ask := by omega
              go_wp2_with fail
              refine (uids_calls HLA2.out.view (by omega)).mono ?_
              rintro e w3 ⟨v3, rfl, ho3, hb3⟩
              have HA := Aside0.mk ho3.ic
              have HLA3 := Aside0.mk (HLA2.out.below hb3)
              have HRA3 := Aside0.mk (ViewAt.below HRA2.out hb3)
              have HU3 := Aside0.mk (HU.out.below hb3)
              clear ho3 hb3 HLA2 HRA2 HU
              go_wp2_with fail
              refine (ints_calls HA.out HU3.out.ic (by rw [List.length_map]; omega)).mono ?_
              rintro e w4 ⟨rfl, hb4⟩
              have hde : decide (List.map (fun x => x.f0) Sr = uidsR Sr) = true := decide_eq_true rfl
              rw [hde]
              have HLA4 := Aside0.mk (HLA3.out.below hb4)
              have HRA4 := Aside0.mk (ViewAt.below HRA3.out hb4)
              clear hde hb4 HA HU3 HLA3 HRA3
              go_wp2_with fail
              refine (count_calls HLA4.out.view).mono ?_
              rintro e w5 ⟨rfl, rfl⟩
              go_wp2_with fail
              have hc := uid_calls HLA4.out.view ask HRNG.out
              rw [HAT.out] at hc
              refine hc.mono ?_
              rintro e w5 ⟨rfl, rfl⟩
              clear hc
              go_wp2_with fail
              have hp1 := place_calls HLA4.out.view (by omega) HLA4.out.vw.good.pairwise ask
              obtain ⟨pb, hpb⟩ : ∃ pb, pb = placeB Sr (ask) := ⟨_, rfl⟩
              rw [← hpb] at hp1
              have HPB := Lib.hid hpb
              clear hpb
              refine hp1.mono ?_
              rintro e w5 ⟨rfl, hb5⟩
              have HLA5 := Aside0.mk (HLA4.out.below hb5)
              have HRA5 := Aside0.mk (ViewAt.below HRA4.out hb5)
              clear hp1 hb5 HLA4 HRA4
              go_wp2_with fail
              have hp2 := rplace_calls HRA5.out (by omega) HLA5.out.vw.good.pairwise ask
              rw [← HPB.out] at hp2
              refine hp2.mono ?_
              rintro e w6 ⟨rfl, rfl⟩
              clear hp2
              go_wp2_with fail
              have hmx := max_calls HLA5.out.view (by omega)
              rw [HLS.out] at hmx
              refine hmx.mono ?_
              rintro e w6 ⟨rfl, rfl⟩
              clear hmx
              go_wp2_with fail
              refine (alive_calls _).mono ?_
              rintro e w7 ⟨rfl, hb7⟩
              go_wp2
              go_ret
              exact ⟨rfl, HLA5.out.low.trans (hb7.mono HLA5.out.size)⟩
            · have p1b : ask < 1 := by omega
              go_wp2_with fail
              refine (uids_calls HLA2.out.view (by omega)).mono ?_
              rintro e w3 ⟨v3, rfl, ho3, hb3⟩
              have HA := Aside0.mk ho3.ic
              have HLA3 := Aside0.mk (HLA2.out.below hb3)
              have HRA3 := Aside0.mk (ViewAt.below HRA2.out hb3)
              have HU3 := Aside0.mk (HU.out.below hb3)
              clear ho3 hb3 HLA2 HRA2 HU
              go_wp2_with fail
              refine (ints_calls HA.out HU3.out.ic (by rw [List.length_map]; omega)).mono ?_
              rintro e w4 ⟨rfl, hb4⟩
              have hde : decide (List.map (fun x => x.f0) Sr = uidsR Sr) = true := decide_eq_true rfl
              rw [hde]
              have HLA4 := Aside0.mk (HLA3.out.below hb4)
              have HRA4 := Aside0.mk (ViewAt.below HRA3.out hb4)
              clear hde hb4 HA HU3 HLA3 HRA3
              go_wp2_with fail
              refine (count_calls HLA4.out.view).mono ?_
              rintro e w5 ⟨rfl, rfl⟩
              go_wp2_with fail
              have hc := uid_calls HLA4.out.view ask HRNG.out
              rw [HAT.out] at hc
              refine hc.mono ?_
              rintro e w5 ⟨rfl, rfl⟩
              clear hc
              go_wp2_with fail
              have hp1 := place_calls HLA4.out.view (by omega) HLA4.out.vw.good.pairwise ask
              obtain ⟨pb, hpb⟩ : ∃ pb, pb = placeB Sr (ask) := ⟨_, rfl⟩
              rw [← hpb] at hp1
              have HPB := Lib.hid hpb
              clear hpb
              refine hp1.mono ?_
              rintro e w5 ⟨rfl, hb5⟩
              have HLA5 := Aside0.mk (HLA4.out.below hb5)
              have HRA5 := Aside0.mk (ViewAt.below HRA4.out hb5)
              clear hp1 hb5 HLA4 HRA4
              go_wp2_with fail
              have hp2 := rplace_calls HRA5.out (by omega) HLA5.out.vw.good.pairwise ask
              rw [← HPB.out] at hp2
              refine hp2.mono ?_
              rintro e w6 ⟨rfl, rfl⟩
              clear hp2
              go_wp2_with fail
              have hmx := max_calls HLA5.out.view (by omega)
              rw [HLS.out] at hmx
              refine hmx.mono ?_
              rintro e w6 ⟨rfl, rfl⟩
              clear hmx
              go_wp2_with fail
              refine (alive_calls _).mono ?_
              rintro e w7 ⟨rfl, hb7⟩
              go_wp2
              go_ret
              exact ⟨rfl, HLA5.out.low.trans (hb7.mono HLA5.out.size)⟩
          · obtain ⟨m, hm⟩ : ∃ m, Sr.length = m + 1 := ⟨Sr.length - 1, by omega⟩
            obtain ⟨b, o, c, hvv, _, hcc⟩ := HU.out.cells (by rw [HUL.out]; omega)
            obtain ⟨ul, hul⟩ : ∃ ul, (uidsR Sr)[m]? = some ul := ⟨_, List.getElem?_eq_getElem (by rw [HUL.out]; omega)⟩
            have hcm := hcc m ul hul
            injection hvv with e1 e2 e3
            subst e1
            have HLS : Hid (uidOf Sr Sr.length = ul) := Lib.hid (by
              unfold uidOf
              rw [if_pos ⟨by omega, by omega⟩, show ((Sr.length : Int) - 1).toNat = m by omega]
              unfold uidsR at hul
              rw [List.getElem?_map] at hul
              obtain ⟨p, hp, e⟩ := Option.map_eq_some_iff.1 hul
              rw [List.getD_eq_getElem?_getD, hp]
              exact e)
            have hlm : (Sr.length : Int) - 1 = (m : Int) := by omega
            have hmm : m < Sr.length := by omega
            have hm1 : 0 < Sr.length := hpos
            clear hul hm e2 e3 hpos
            by_cases p1 : 1 ≤ ask
            · by_cases p2 : ask ≤ Sr.length
              · obtain ⟨i, rfl⟩ : ∃ i : Nat, ask = (i : Int) + 1 := ⟨(ask - 1).toNat, by omega⟩
                obtain ⟨ua, hua⟩ : ∃ ua, (uidsR Sr)[i]? = some ua := ⟨_, List.getElem?_eq_getElem (by rw [HUL.out]; omega)⟩
                have hci := hcc i ua hua
                have HAT : Hid (uidOf Sr ((i : Int) + 1) = ua) := Lib.hid (by
                  unfold uidOf
                  rw [if_pos ⟨by omega, by omega⟩, show ((i : Int) + 1 - 1).toNat = i by omega]
                  unfold uidsR at hua
                  rw [List.getElem?_map] at hua
                  obtain ⟨p, hp, e⟩ := Option.map_eq_some_iff.1 hua
                  rw [List.getD_eq_getElem?_getD, hp]
                  exact e)
                have hil : i < Sr.length := by omega
                clear hua hcc
                go_wp2_with fail
                refine (uids_calls HLA2.out.view (by omega)).mono ?_
                rintro e w3 ⟨v3, rfl, ho3, hb3⟩
                have HA := Aside0.mk ho3.ic
                have HLA3 := Aside0.mk (HLA2.out.below hb3)
                have HRA3 := Aside0.mk (ViewAt.below HRA2.out hb3)
                have HU3 := Aside0.mk (HU.out.below hb3)
                clear ho3 hb3 HLA2 HRA2 HU
                go_wp2_with fail
                refine (ints_calls HA.out HU3.out.ic (by rw [List.length_map]; omega)).mono ?_
                rintro e w4 ⟨rfl, hb4⟩
                have hde : decide (List.map (fun x => x.f0) Sr = uidsR Sr) = true := decide_eq_true rfl
                rw [hde]
                have HLA4 := Aside0.mk (HLA3.out.below hb4)
                have HRA4 := Aside0.mk (ViewAt.below HRA3.out hb4)
                clear hde hb4 HA HU3 HLA3 HRA3
                go_wp2_with fail
                refine (count_calls HLA4.out.view).mono ?_
                rintro e w5 ⟨rfl, rfl⟩
                go_wp2_with fail
                have hc := uid_calls HLA4.out.view ((i : Int) + 1) HRNG.out
                rw [HAT.out] at hc
                refine hc.mono ?_
                rintro e w5 ⟨rfl, rfl⟩
                clear hc
                go_wp2_with fail
                have hp1 := place_calls HLA4.out.view (by omega) HLA4.out.vw.good.pairwise ((i : Int) + 1)
                obtain ⟨pb, hpb⟩ : ∃ pb, pb = placeB Sr (((i : Int) + 1)) := ⟨_, rfl⟩
                rw [← hpb] at hp1
                have HPB := Lib.hid hpb
                clear hpb
                refine hp1.mono ?_
                rintro e w5 ⟨rfl, hb5⟩
                have HLA5 := Aside0.mk (HLA4.out.below hb5)
                have HRA5 := Aside0.mk (ViewAt.below HRA4.out hb5)
                clear hp1 hb5 HLA4 HRA4
                go_wp2_with fail
                have hp2 := rplace_calls HRA5.out (by omega) HLA5.out.vw.good.pairwise ((i : Int) + 1)
                rw [← HPB.out] at hp2
                refine hp2.mono ?_
                rintro e w6 ⟨rfl, rfl⟩
                clear hp2
                go_wp2_with fail
                have hmx := max_calls HLA5.out.view (by omega)
                rw [HLS.out] at hmx
                refine hmx.mono ?_
                rintro e w6 ⟨rfl, rfl⟩
                clear hmx
                go_wp2_with fail
                refine (alive_calls _).mono ?_
                rintro e w7 ⟨rfl, hb7⟩
                go_wp2
                go_ret
                exact ⟨rfl, HLA5.out.low.trans (hb7.mono HLA5.out.size)⟩
              · have HAT : Hid (uidOf Sr ask = 0) := Lib.hid (by unfold uidOf; rw [if_neg (by omega)])
                have p2b : (Sr.length : Int) < ask := by omega
                clear hcc
                go_wp2_with fail
                refine (uids_calls HLA2.out.view (by omega)).mono ?_
                rintro e w3 ⟨v3, rfl, ho3, hb3⟩
                have HA := Aside0.mk ho3.ic
                have HLA3 := Aside0.mk (HLA2.out.below hb3)
                have HRA3 := Aside0.mk (ViewAt.below HRA2.out hb3)
                have HU3 := Aside0.mk (HU.out.below hb3)
                clear ho3 hb3 HLA2 HRA2 HU
                go_wp2_with fail
                refine (ints_calls HA.out HU3.out.ic (by rw [List.length_map]; omega)).mono ?_
                rintro e w4 ⟨rfl, hb4⟩
                have hde : decide (List.map (fun x => x.f0) Sr = uidsR Sr) = true := decide_eq_true rfl
                rw [hde]
                have HLA4 := Aside0.mk (HLA3.out.below hb4)
                have HRA4 := Aside0.mk (ViewAt.below HRA3.out hb4)
                clear hde hb4 HA HU3 HLA3 HRA3
                go_wp2_with fail
                refine (count_calls HLA4.out.view).mono ?_
                rintro e w5 ⟨rfl, rfl⟩
                go_wp2_with fail
                have hc := uid_calls HLA4.out.view ask HRNG.out
                rw [HAT.out] at hc
                refine hc.mono ?_
                rintro e w5 ⟨rfl, rfl⟩
                clear hc
                go_wp2_with fail
                have hp1 := place_calls HLA4.out.view (by omega) HLA4.out.vw.good.pairwise ask
                obtain ⟨pb, hpb⟩ : ∃ pb, pb = placeB Sr (ask) := ⟨_, rfl⟩
                rw [← hpb] at hp1
                have HPB := Lib.hid hpb
                clear hpb
                refine hp1.mono ?_
                rintro e w5 ⟨rfl, hb5⟩
                have HLA5 := Aside0.mk (HLA4.out.below hb5)
                have HRA5 := Aside0.mk (ViewAt.below HRA4.out hb5)
                clear hp1 hb5 HLA4 HRA4
                go_wp2_with fail
                have hp2 := rplace_calls HRA5.out (by omega) HLA5.out.vw.good.pairwise ask
                rw [← HPB.out] at hp2
                refine hp2.mono ?_
                rintro e w6 ⟨rfl, rfl⟩
                clear hp2
                go_wp2_with fail
                have hmx := max_calls HLA5.out.view (by omega)
                rw [HLS.out] at hmx
                refine hmx.mono ?_
                rintro e w6 ⟨rfl, rfl⟩
                clear hmx
                go_wp2_with fail
                refine (alive_calls _).mono ?_
                rintro e w7 ⟨rfl, hb7⟩
                go_wp2
                go_ret
                exact ⟨rfl, HLA5.out.low.trans (hb7.mono HLA5.out.size)⟩
            · have HAT : Hid (uidOf Sr ask = 0) := Lib.hid (by unfold uidOf; rw [if_neg (by omega)])
              have p1b : ask < 1 := by omega
              clear hcc
              go_wp2_with fail
              refine (uids_calls HLA2.out.view (by omega)).mono ?_
              rintro e w3 ⟨v3, rfl, ho3, hb3⟩
              have HA := Aside0.mk ho3.ic
              have HLA3 := Aside0.mk (HLA2.out.below hb3)
              have HRA3 := Aside0.mk (ViewAt.below HRA2.out hb3)
              have HU3 := Aside0.mk (HU.out.below hb3)
              clear ho3 hb3 HLA2 HRA2 HU
              go_wp2_with fail
              refine (ints_calls HA.out HU3.out.ic (by rw [List.length_map]; omega)).mono ?_
              rintro e w4 ⟨rfl, hb4⟩
              have hde : decide (List.map (fun x => x.f0) Sr = uidsR Sr) = true := decide_eq_true rfl
              rw [hde]
              have HLA4 := Aside0.mk (HLA3.out.below hb4)
              have HRA4 := Aside0.mk (ViewAt.below HRA3.out hb4)
              clear hde hb4 HA HU3 HLA3 HRA3
              go_wp2_with fail
              refine (count_calls HLA4.out.view).mono ?_
              rintro e w5 ⟨rfl, rfl⟩
              go_wp2_with fail
              have hc := uid_calls HLA4.out.view ask HRNG.out
              rw [HAT.out] at hc
              refine hc.mono ?_
              rintro e w5 ⟨rfl, rfl⟩
              clear hc
              go_wp2_with fail
              have hp1 := place_calls HLA4.out.view (by omega) HLA4.out.vw.good.pairwise ask
              obtain ⟨pb, hpb⟩ : ∃ pb, pb = placeB Sr (ask) := ⟨_, rfl⟩
              rw [← hpb] at hp1
              have HPB := Lib.hid hpb
              clear hpb
              refine hp1.mono ?_
              rintro e w5 ⟨rfl, hb5⟩
              have HLA5 := Aside0.mk (HLA4.out.below hb5)
              have HRA5 := Aside0.mk (ViewAt.below HRA4.out hb5)
              clear hp1 hb5 HLA4 HRA4
              go_wp2_with fail
              have hp2 := rplace_calls HRA5.out (by omega) HLA5.out.vw.good.pairwise ask
              rw [← HPB.out] at hp2
              refine hp2.mono ?_
              rintro e w6 ⟨rfl, rfl⟩
              clear hp2
              go_wp2_with fail
              have hmx := max_calls HLA5.out.view (by omega)
              rw [HLS.out] at hmx
              refine hmx.mono ?_
              rintro e w6 ⟨rfl, rfl⟩
              clear hmx
              go_wp2_with fail
              refine (alive_calls _).mono ?_
              rintro e w7 ⟨rfl, hb7⟩
              go_wp2
              go_ret
              exact ⟨rfl, HLA5.out.low.trans (hb7.mono HLA5.out.size)⟩
end Go.Proofs.YtnenlkojecicfaaDoor.V
