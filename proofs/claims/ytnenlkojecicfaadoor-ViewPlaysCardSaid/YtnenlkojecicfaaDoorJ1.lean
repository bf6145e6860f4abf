/- append(v, ys...) of rows of structs; the reference's view grows. -/
import Derived.Test.YtnenlkojecicfaaDoorK3
import Derived.Test.YtnenlkojecicfaaDoorG4
import Derived.Test.YtnenlkojecicfaaDoorS1c
import Derived.Test.YtnenlkojecicfaaDoorA0
import Derived.Deep.RegionLaw
import Derived.Deep.RegionHeld3
set_option linter.unusedVariables false
set_option linter.unusedSimpArgs false
namespace Go.Proofs.YtnenlkojecicfaaDoor.V
open Go.RowKit Go.Proofs.YtnenlkojecicfaaDoorW.PrintWords Go.Proofs.YtnenlkojecicfaaDoor.P

section
variable {P : Program} {α : Type} {R : α → List Value → Prop} {e size base : Nat}
theorem run_rows {W : World} (t ty : TypeId) (z : Value) (bytes : Nat) (hR : ∀ (p : α) (c : List Value), R p c → c.length = size ∧ ∀ u ∈ c, u.oneCell' = true)
    (ht : P.underlying t = some (.slice e)) (hinfo : (P.info? e).map (fun i => (i.zero, i.size, i.bytes)) = some (some z, size, bytes)) (hz : z.cells.size = size) (hs0 : 0 < size) (hb0 : 0 < bytes)
    (v : Value) (xs ys : List α) (A : Option Addr) (m c : Nat) (HO : OwnRow R e size W base v xs) (HR : ReadsRow R size W A m ys) (hbase : base ≤ W.heap.size) (hl : (xs.length + m) * bytes ≤ 140737488355328) :
    ∃ v1 w1, (Builtin.append_ #[t, t] ty #[v, .slice A m c]).run P W = .ok v1 w1 ∧ OwnRow R e size w1 base v1 (xs ++ ys) ∧ W.grownBy w1 v.ownBlock ∧ (v1.ownBlock = v.ownBlock ∨ ∃ b, v1.ownBlock = some b ∧ W.heap.size ≤ b) := by
  obtain ⟨i0, hi, hzz⟩ := Option.map_eq_some_iff.1 hinfo
  simp only [Prod.mk.injEq] at hzz
  obtain ⟨hz0, hz1, hz2⟩ := hzz
  have hm : ys.length = m := HR.1
  have hlen : xs.length + m ≤ 140737488355328 := Nat.le_trans (Nat.le_mul_of_pos_right _ hb0) hl
  obtain ⟨inner, hown, hr⟩ := HO
  rcases A with _ | ad
  · have h0 : m = 0 := by
      rcases Nat.eq_zero_or_pos m with h0 | h0
      · exact h0
      · obtain ⟨ad, h, _⟩ := HR.2.2 h0
        cases h
    subst h0
    obtain rfl : ys = [] := List.eq_nil_of_length_eq_zero hm
    refine ⟨v, W, ?_, by rw [List.append_nil]; exact ⟨inner, hown, hr⟩, World.grownBy.refl W _, .inl rfl⟩
    rcases hown.2 with ⟨rfl, hn⟩ | ⟨g, cap, cur, rfl, _, _, hnc, _⟩
    · simp [Builtin.append_, run_underlying ht, sizeOf, typeInfo, hi, Builtin.lenOf, Builtin.firstCells]
    · simp [Builtin.append_, run_underlying ht, sizeOf, typeInfo, hi, Builtin.lenOf, Builtin.firstCells, hnc, storeCells]
  · obtain ⟨news, hnr, hnc⟩ := ReadsRow.inner_ HR
    have hone : ∀ u ∈ news, u.oneCell' = true := by
      intro u hu
      obtain ⟨q, hq, rfl⟩ := List.mem_iff_getElem.1 hu
      have hql : q / size < ys.length := by
        rw [Nat.div_lt_iff_lt_mul hs0]
        rw [← hnr.1]
        exact hq
      have hc := hnr.2 (q / size) _ (List.getElem?_eq_getElem hql)
      refine (hR _ _ hc).2 _ ?_
      rw [List.mem_iff_getElem?]
      refine ⟨q % size, ?_⟩
      rw [List.getElem?_take, if_pos (Nat.mod_lt _ hs0), List.getElem?_drop, Nat.mul_comm, Nat.div_add_mod, List.getElem?_eq_getElem hq]
    obtain ⟨v1, w1, hrun, h2, hg, _, hat⟩ := run_append_own_at (P := P) W base t ty e i0 z size bytes ht hi hz0 hz1 hz2 hz hs0 v xs.length inner hown ad m c news (by rw [hnr.1, hm]) hnc hone (by simp only [maxLen]; omega) hl hbase
    refine ⟨v1, w1, hrun, ⟨inner ++ news, by rw [List.length_append, hm]; exact h2, Kd.reps_append hr hnr⟩, hg, ?_⟩
    rcases hat with hat | hat
    · exact .inl hat
    · exact .inr ⟨_, hat, Nat.le_refl _⟩
end
section
variable {P : Program} {ops : Array Oper} {rest : List Oper} {o : Oper} {a : Act} {Q : Exit → Act → World → Prop} {Kc : Act → World → Prop}
theorem rows_plain {W w1 : World} {v v1 : Value} {A : Option Addr} {m c : Nat} (hgd : o.guard = none) (s x : Operand) (t : TypeId) (ho : o.op = .call { callee := .builtin .append, args := #[s, x], argTypes := #[t, t] })
    (hs : a.eval s = v) (hx : a.eval x = .slice A m c) (hr : (Builtin.append_ #[t, t] o.type #[v, .slice A m c]).run P W = .ok v1 w1) (h : wpList P ops Q rest (a.put o.dst v1) w1) : wpList P ops Q (o :: rest) a W := by
  refine wpList_plain hgd fun K hK => ?_
  unfold Oper.wp execOp
  simp only [ho, resolve, invoke, builtin, Sem.run_bind, Sem.run_pure, Result.andThen_ok, List.map_toArray, List.map_cons, List.map_nil, hs, hx, hr]
  exact hK _ _ h
theorem rows_step {W w1 : World} {v v1 : Value} {A : Option Addr} {m c : Nat} (hw : Region.wanted o (yielded ops a.tmps) = true) (s x : Operand) (t : TypeId) (ho : o.op = .call { callee := .builtin .append, args := #[s, x], argTypes := #[t, t] })
    (hs : a.eval s = v) (hx : a.eval x = .slice A m c) (hr : (Builtin.append_ #[t, t] o.type #[v, .slice A m c]).run P W = .ok v1 w1) (h : Kc (a.put o.dst v1) w1) :
    if Region.wanted o (yielded ops a.tmps) = true then Oper.wp P o a W Kc Q else Kc (a.put o.dst undef) W := by
  rw [if_pos hw]
  unfold Oper.wp execOp
  simp only [ho, resolve, invoke, builtin, Sem.run_bind, Sem.run_pure, Result.andThen_ok, List.map_toArray, List.map_cons, List.map_nil, hs, hx, hr]
  exact h
end
theorem info84 : (Tryd.prog.info? 84).map (fun i => (i.zero, i.size, i.bytes)) = some (some (.agg #[.int .i64 0, .slice none 0 0]), 2, 32) := by kernel_rfl
theorem place_one {B : Nat} {w : World} (p : S74) (c : List Value) (h : PlaceAt B w p c) : c.length = 2 ∧ ∀ u ∈ c, u.oneCell' = true := by
  obtain ⟨v, rfl, A, k, rfl, _⟩ := h
  refine ⟨rfl, fun u hu => ?_⟩
  simp only [List.mem_cons, List.mem_nil_iff, or_false] at hu
  rcases hu with rfl | rfl <;> rfl
/-- The places of a view are read. -/
theorem rows_take {α : Type} {R : α → List Value → Prop} {size n : Nat} {w : World} {A : Option Addr} {xs : List α} (h : ReadsRow R size w A xs.length xs) (hn : n ≤ xs.length) : ReadsRow R size w A n (xs.take n) := by
  obtain ⟨h1, h2, h3⟩ := h
  refine ⟨by rw [List.length_take]; omega, by omega, fun hp => ?_⟩
  obtain ⟨ad, e, hc⟩ := h3 (by omega)
  refine ⟨ad, e, fun j p hj => hc j p ?_⟩
  have hjn : j < n := by have := (List.getElem?_eq_some_iff.1 hj).1; rw [List.length_take] at this; omega
  rwa [List.getElem?_take_of_lt hjn] at hj
theorem rows_drop {α : Type} {R : α → List Value → Prop} {size n g c : Nat} {w : World} {xs : List α} (h : ReadsRow R size w (some ⟨g, 0, none⟩) xs.length xs) (hn : n ≤ xs.length) (hc : xs.length ≤ c) :
    ReadsRow R size w (if c = n then some ⟨g, 0, none⟩ else some ⟨g, n * size, none⟩) (xs.length - n) (xs.drop n) := by
  obtain ⟨h1, h2, h3⟩ := h
  refine ⟨by rw [List.length_drop], by omega, fun hp => ?_⟩
  obtain ⟨ad, e, hcc⟩ := h3 (by omega)
  injection e with e
  subst e
  rw [if_neg (by omega)]
  refine ⟨_, rfl, fun j p hj => ?_⟩
  rw [List.getElem?_drop] at hj
  obtain ⟨cs, a, b, d⟩ := hcc (n + j) p hj
  refine ⟨cs, a, b, fun i u hu => ?_⟩
  have := d i u hu
  rw [Addr.add_lit] at this ⊢
  rw [← this]
  congr 2
  rw [Nat.add_mul]
  omega
/-- The reference's view. -/
abbrev RV (B : Nat) (w : World) (g : Nat) (lv : Value) (S : List S74) (top : Int) : Prop := ViewAt 80 84 B w g lv S top
set_option maxRecDepth 100000 in
set_option maxHeartbeats 4000000 in
theorem rgrow_calls (B g : Nat) (lv : Value) (S : List S74) (top : Int) (A : Option Addr) (c : Nat) (ms : List S43) (w : World) (hB : B ≤ w.heap.size) (hv : RV B w g lv S top)
    (hr : Mails B w A ms.length ms) (hsm : ∀ m ∈ ms, ∀ f ∈ m.f1, f.size ≤ 140737488351232) (hlen : S.length + ms.length ≤ 1000000) :
    Calls Tryd.prog 43 #[.pointer (some ⟨g, 0, none⟩), .slice A ms.length c] w fun e w' => ∃ lv' : Value, e = .returned (.int .i64 (((growF S top ms).1.length : Int) - S.length)) ∧
      RV B w' g lv' (growF S top ms).1 (growF S top ms).2 ∧ Tr (VX g lv) w w' ∧ (lv'.ownBlock = lv.ownBlock ∨ ∃ b, lv'.ownBlock = some b ∧ w.heap.size ≤ b) := by
  have hBB := Aside0.mk hB
  have HV0 := Aside0.mk hv
  have HR := Aside0.mk hr
  clear hB hv hr
  go_enter Tryd.func43, Tryd.ntmps43
  go_wp2
  go_loopw [6, 5] (fun i n wr => ∃ (k : Nat) (lvr : Value), k ≤ ms.length ∧ i = .int .i64 k ∧ n = .int .i64 (((growTo S top ms k).1.length : Int) - S.length) ∧ Aside0 (RV B wr g lvr (growTo S top ms k).1 (growTo S top ms k).2) ∧ Aside0 (Tr (VX g lv) w wr) ∧ Aside0 (lvr.ownBlock = lv.ownBlock ∨ ∃ b, lvr.ownBlock = some b ∧ w.heap.size ≤ b)) (fun i _ _ => ms.length - (intOf i).toNat)
  case atStart => exact ⟨0, lv, Nat.zero_le _, rfl, by simp [growTo], HV0, ⟨Tr.refl _ _⟩, ⟨.inl rfl⟩⟩
  case round =>
    obtain ⟨k, lvr, hk, rfl, rfl, HV, HT, HA⟩ := hrel
    have HW := Aside0.mk HT.out.size
    have hc0 := HV.out.c0
    have hc1 := HV.out.c1
    by_cases hlt : k < ms.length
    · have HRW := Aside0.mk (HR.out.step (HV0.out.sk HT.out (T := [9, 43]) (by simp) (by simp)))
      obtain ⟨ad, vf, x, rfl, hx, ⟨h0, h1, h2, h3, h4, h5, h6, h7, h8, h9, h10, h11⟩, hf⟩ := mail_at HRW.out k hlt
      have hmx := hsm x (List.mem_of_getElem? hx)
      have HX := Lib.hid hx
      have HF := Aside0.mk hf
      obtain ⟨Af, cf, rfl, _, hfr⟩ := hf
      have HFR := Aside0.mk hfr
      clear hx hfr h2 h3 h4 h5 h6 h7 h8 h9 h10 h11
      obtain ⟨T, hT⟩ : ∃ T, T = (growTo S top ms k).2 := ⟨_, rfl⟩
      rw [← hT] at hc1
      have HTT := Lib.hid hT
      clear hT
      obtain ⟨len, hlen2⟩ : ∃ len : Int, len = ((growTo S top ms k).1.length : Int) - S.length := ⟨_, rfl⟩
      rw [← hlen2]
      have HLL := Lib.hid hlen2
      have hl0 : 0 ≤ len ∧ len ≤ 1000000 := by
        have h1 := growTo_len S top ms k
        have h2 := growTo_ge S top ms k
        omega
      obtain ⟨hl1, hl2⟩ := hl0
      clear hlen2
      by_cases c1 : T < x.f0
      · have c1b : decide (T < x.f0) = true := by simpa using c1
        have hf1 := HV.out.fz 1
        go_wp2
        go_quiet (fail)
        go_wp2
        generalize hW0 : World.setCell _ _ _ = W0
        have hbel0 : Below wr.heap.size wr (wr.drewN nq) := pw_below_drewN (Below.refl _ _) _
        have HVW : RV B W0 g lvr (growTo S top ms k).1 x.f0 := by rw [← hW0]; exact (HV.out.below hbel0).setTop (by decide) (by decide) _
        have HTW : Tr (VX g lv) w W0 := by rw [← hW0]; exact (HT.out.then_below hbel0).setCell (.inl (.inl rfl)) _
        have hsk0 : SK [9, 43] B (wr.drewN nq) W0 := by
          rw [← hW0]
          exact SK.of_tr (Tr.setCell (Tr.refl (fun k => k = g) _) (.inl rfl) _) (fun k hk => by
            subst hk
            exact not_sol HV.out.hB (HV.out.below hbel0).blk (by simp))
        have HMW := Aside0.mk ((HRW.out.below hbel0).step hsk0)
        obtain ⟨ad', vf', x', e1, hx', ⟨h0', h1', _⟩, hf'⟩ := mail_at HMW.out k hlt
        injection e1 with e1
        subst e1
        rw [HX.out] at hx'
        injection hx' with hx'
        subst hx'
        obtain ⟨Af', cf', rfl, _, hfr'⟩ := hf'
        have HHF := Aside0.mk hfr'
        have hv0 := HVW.c0
        have hvf := HVW.fz 0
        have HHV := Aside0.mk HVW
        have HHT := Aside0.mk HTW
        clear hW0 hbel0 hsk0 HFR HF h0 h1 hc0 hc1 HVW HTW hf1 hfr'
        go_region_law (first | (go_simp; go_at_call 45; refine (rflags_calls _ _ x.f1 _ (Kd.C_below HHF.out.now (below_drew (Below.refl _ _))) hmx).mono ?_; rintro e w1 ⟨vf, rfl, hs1, hb1⟩; obtain ⟨Avf, cvf, hvv, _⟩ := OwnRow.slice_ hs1; subst hvv; have e0 : w1.cell? (ad.add (k * 12)) = some (.int .i64 x.f0) := pw_cell_below hb1 h0'; have e1 : w1.cell? ⟨(ad.add (k * 12)).block, (ad.add (k * 12)).off + 1, none⟩ = some (.slice Af' x.f1.length cf') := pw_cell_below hb1 h1'; have e2 : w1.cell? ⟨g, 0, none⟩ = some lvr := pw_cell_below hb1 hv0; have e5 : ∀ ob, (w1.alloc ob).cell? ⟨g, 0, none⟩ = some lvr := fun ob => pw_cell_below (below_alloc (Below.refl _ _) ob) e2) | ((refine app_step (PlaceAt B) B B (by rfl) (.tmp 35) (.tmp 48) 78 84 _ 2 32 (by rfl) Tryd.underlying78 info84 rfl (by decide) (by omega) lvr (growTo S top ms k).1 ⟨x.f0, flagsF x.f1⟩ [.int .i64 x.f0, .slice Avf (flagsF x.f1).length cvf] (by rfl) _ (by rfl) ?hm ?hp rfl ?h1 ?ho ?hb (Nat.le_refl _) (by simp) ?hl (fun _ hsk _ _ hm => hm.step hsk) ?_); (case hm => rfl); (case hp => exact ⟨_, rfl, hs1.fl B⟩); (case h1 => (intro u hu; simp only [List.mem_cons, List.mem_nil_iff, or_false] at hu; rcases hu with rfl | rfl <;> rfl)); (case ho => exact ((HHV.out.below (below_drew (Below.refl _ _))).below hb1).row); (case hb => (have := hb1.size; have := HHT.out.size; have := hBB.out; simp at *; omega)); (case hl => (have := growTo_len S top ms k; omega)); intro v1 w3 ho1 ht1 hat1; obtain ⟨Av1, cv1, hvv1, _⟩ := OwnRow.slice_ ho1; subst hvv1; obtain ⟨e3, e4, hv3, ht3⟩ := ((HHV.out.below (below_drew (Below.refl _ _))).below hb1).setRow (by decide) (by decide) ht1 ho1))
        all_goals
          go_wp2
          go_roundw
          case measure => simp [intOf]; omega
          case rel =>
            have ha : growTo S top ms (k + 1) = ((growTo S top ms k).1 ++ [⟨x.f0, flagsF x.f1⟩], x.f0) := by rw [growTo_succ HX.out]; unfold growS; rw [if_pos (by rw [← HTT.out]; exact c1)]
            simp only [List.length_append, List.length_singleton] at hv3 ht3 hat1
            refine ⟨k + 1, _, by omega, by go_num, ?_, ⟨by rw [ha]; exact hv3⟩, ⟨?_⟩, ⟨?_⟩⟩
            · rw [ha, HLL.out, List.length_append, List.length_singleton]
              congr 1
              omega
            · exact ((HHT.out.drew).then_below hb1).trans ht3 (fun i hi hx => VX_old HA.out hi hx)
            · exact own_chain HA.out hat1 (Nat.le_trans HHT.out.size hb1.size)
      · have c1b : decide (T < x.f0) = false := by simpa using c1
        go_wp2
        go_quiet (fail)
        go_wp2
        go_roundw
        case measure => simp [intOf]; omega
        case rel =>
          have ha : growTo S top ms (k + 1) = growTo S top ms k := by rw [growTo_succ HX.out]; unfold growS; rw [if_neg (by rw [← HTT.out]; omega)]
          refine ⟨k + 1, lvr, by omega, by go_num, by rw [ha, HLL.out], ⟨?_⟩, ⟨?_⟩, HA⟩
          · rw [ha]
            exact HV.out.below (pw_below_drewN (Below.refl _ _) _)
          · exact HT.out.then_below (pw_below_drewN (Below.refl _ _) _)
    · have hks : k = ms.length := by omega
      subst hks
      go_wp2
      go_ret
      have e : growTo S top ms ms.length = growF S top ms := by unfold growTo growF; rw [List.take_length]
      refine ⟨lvr, ?_, by rw [← e]; exact HV.out, HT.out, HA.out⟩
      rw [← e]
      rfl
end Go.Proofs.YtnenlkojecicfaaDoor.V
