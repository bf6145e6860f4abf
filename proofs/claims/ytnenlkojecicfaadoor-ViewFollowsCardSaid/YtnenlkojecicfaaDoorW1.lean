/- view.Follow: the walk. -/
import Derived.Test.YtnenlkojecicfaaDoorA0
import Derived.Test.YtnenlkojecicfaaDoorD1
import Derived.Test.YtnenlkojecicfaaDoorS1c
set_option linter.unusedVariables false
set_option linter.unusedSimpArgs false
namespace Go.Proofs.YtnenlkojecicfaaDoor.V
open Go.RowKit Go.Proofs.YtnenlkojecicfaaDoorW.PrintWords Go.Proofs.YtnenlkojecicfaaDoor.P

/-- Ints of one's own. -/
def FR (w : World) (base : Nat) (v : Value) (ns : List Int) : Prop := Kd.R (Kd.int .i64) 3 w base (fun _ => True) v ns
theorem FR.below {w w1 : World} {base : Nat} {v : Value} {ns : List Int} (h : FR w base v ns) (hb : Below w.heap.size w w1) : FR w1 base v ns := Kd.R_below h hb
theorem FR.ic {w : World} {base : Nat} {v : Value} {ns : List Int} (h : FR w base v ns) : IC w v ns := Kd.R_reads h
theorem FR.own {w : World} {base : Nat} {v : Value} {ns : List Int} (h : FR w base v ns) : w.ownsRow base 3 1 v ns.length (ns.map (Value.int .i64)) := Kd.own_of_R h
theorem FR.of_own {w : World} {base : Nat} {v : Value} {ns : List Int} (h : w.ownsRow base 3 1 v ns.length (ns.map (Value.int .i64))) : FR w base v ns := Kd.R_of_own h (fun _ _ => trivial)
theorem int_spot {w : World} {A : Option Addr} {ns : List Int} (h : Kd.C (Kd.int .i64) w A ns.length ns) (hne : 0 < ns.length) :
    ∃ b o, A = some ⟨b, o, none⟩ ∧ ∀ j, j < ns.length → w.cell? ⟨b, o + j, none⟩ = some (.int .i64 (ns.getD j 0)) := by
  obtain ⟨_, _, h1⟩ := h
  obtain ⟨ad, rfl, hc⟩ := h1 hne
  have at_ : ∀ j, j < ns.length → w.cell? (ad.add j) = some (.int .i64 (ns.getD j 0)) := fun j hj => by
    have hg : ns[j]? = some (ns[j]'hj) := List.getElem?_eq_getElem hj
    obtain ⟨c, _, rfl, hcc⟩ := hc j _ hg
    have := hcc 0 _ rfl
    rw [show (Kd.int .i64).sz = 1 from rfl, Nat.mul_one, Nat.add_zero] at this
    rw [this]
    simp [List.getD, hg]
  have h0 := at_ 0 hne
  have hs := spot_none h0
  rw [Addr.add, if_pos rfl] at hs
  obtain ⟨b, o, s⟩ := ad
  simp only at hs
  subst hs
  exact ⟨b, o, rfl, fun j hj => by rw [← Addr.add_lit]; exact at_ j hj⟩
theorem iclone_calls {w : World} {v : Value} {ns : List Int} (h : IC w v ns) (hn : ns.length ≤ 1000000) :
    Calls Tryd.prog 51 #[v] w fun e w' => ∃ v', e = .returned v' ∧ FR w' w.heap.size v' ns ∧ Below w.heap.size w w' := by
  obtain ⟨A, c, rfl, hl, hc⟩ := h
  by_cases h0 : 0 < ns.length
  · obtain ⟨b, o, rfl, hcell⟩ := int_spot hc h0
    refine (Tryd.slices_Clone_int b o ns.length c ns w (Nat.le_refl _) (by omega) hcell).mono fun e w' h => ?_
    obtain ⟨v', he, ho, _, hb⟩ := h
    rw [List.take_length] at ho
    exact ⟨v', he, FR.of_own ho, hb⟩
  · have e1 : ns = [] := List.length_eq_zero_iff.1 (by omega)
    subst e1
    cases A with
    | none =>
      refine (Tryd.slices_Clone_int_nil 0 c w).mono fun e w' h => ?_
      obtain ⟨he, rfl⟩ := h
      exact ⟨_, he, Kd.R_nil _ _ _ _ _, Below.refl _ _⟩
    | some ad =>
      refine (Tryd.slices_Clone_int_zero ad c w).mono fun e w' h => ?_
      obtain ⟨v', he, ho, _, hb⟩ := h
      exact ⟨v', he, FR.of_own ho, hb⟩
/-- All the cells of a row are written; it is cut. -/
theorem own_rewrite {w : World} {base g n cap size m : Nat} {e : TypeId} {xs vs : List Value} (h : w.ownsRow base e size (.slice (some ⟨g, 0, none⟩) n cap) n xs) (hv : vs.length = n * size) (hm : m ≤ n) :
    (w.setCells g 0 vs).ownsRow base e size (.slice (some ⟨g, 0, none⟩) m cap) m (vs.take (m * size)) ∧ w.grownBy (w.setCells g 0 vs) (some g) := by
  obtain ⟨h1, h2⟩ := h
  rcases h2 with ⟨hv', _⟩ | ⟨g', cap', cur, hv', hb, hh, hn, hm', hs, ht⟩
  · cases hv'
  injection hv' with e1 _ e3
  injection e1 with e1
  injection e1 with e1
  subst e1
  subst e3
  have hns : n * size ≤ cap * size := Nat.mul_le_mul_right _ hn
  have hms : m * size ≤ n * size := Nat.mul_le_mul_right _ hm
  obtain ⟨cur', h3, h4, h5⟩ := setCells_row vs 0 w cur hh (by omega)
  obtain ⟨s1, s2, s3, s4⟩ := setCells_same g vs 0 w
  refine ⟨⟨by rw [List.length_take]; omega, .inr ⟨g, cap, cur', rfl, hb, h3, by omega, hm', by omega, ?_⟩⟩, ⟨s1, s2, s3, by rw [s4]; exact Nat.le_refl _, fun k' _ hk' => setCells_far vs _ k' (fun he => hk' (by rw [he]))⟩⟩
  rw [h5, List.take_zero, List.nil_append, List.take_append_of_le_length (by omega)]
theorem idelete_calls {w : World} {base : Nat} {v : Value} {ns : List Int} (h : FR w base v ns) (hB : base ≤ w.heap.size) (i : Nat) (hi : i < ns.length) :
    Calls Tryd.prog 52 #[v, .int .i64 i, .int .i64 ((i : Int) + 1)] w fun e w' => ∃ v', e = .returned v' ∧ FR w' base v' (ns.eraseIdx i) ∧ Below base w w' := by
  have ho := h.own
  obtain ⟨g, cap, rfl, hn, hm⟩ := ho.form (by omega)
  have hcm : cap ≤ 9223372036854775807 := by
    obtain ⟨_, h2⟩ := ho
    rcases h2 with ⟨hv, _⟩ | ⟨g', cap', cur, hv', _, _, _, hm', _⟩
    · cases hv
    · injection hv' with _ _ e3
      rw [e3]
      exact hm'
  obtain ⟨A, c, e, hl, hC⟩ := Kd.R_reads h
  injection e with e1 e2 e3
  subst e1 e3
  obtain ⟨b, o, e4, hcell⟩ := int_spot hC (by omega)
  injection e4 with e4
  injection e4 with e4 e5
  subst e4 e5
  have hfz : ∀ j, j < ns.length → w.frozen? ⟨g, 0 + j, none⟩ = false := fun j _ => by
    obtain ⟨cells, hc⟩ := own_typed ho g rfl
    simp [World.frozen?, hc]
  have hd := Tryd.slices_Delete_int_cells g 0 ns.length cap i (i + 1) ns w (Nat.le_refl _) hl hcm (by omega) (by omega) hcell hfz
  rw [show (((i + 1 : Nat) : Int)) = (i : Int) + 1 by omega] at hd
  refine hd.mono fun e w' hh => ?_
  obtain ⟨he, q, rfl⟩ := hh
  rw [List.take_length] at *
  have hd0 : (w.drewN q).ownsRow base 3 1 (.slice (some ⟨g, 0, none⟩) ns.length cap) ns.length (ns.map (Value.int .i64)) := own_move ho (fun k hk => rfl)
  have hlen : (ns.take i ++ ns.drop (i + 1) ++ List.replicate (i + 1 - i) (0 : Int)).length = ns.length := by simp; omega
  obtain ⟨h1, h2⟩ := own_rewrite (m := ns.length - 1) hd0 (vs := (ns.take i ++ ns.drop (i + 1) ++ List.replicate (i + 1 - i) 0).map (Value.int .i64)) (by rw [List.length_map, hlen, Nat.mul_one]) (by omega)
  refine ⟨.slice (some ⟨g, 0, none⟩) (ns.length - 1) cap, by rw [he]; congr 2; omega, ?_, ?_⟩
  · have e1 : (ns.eraseIdx i).length = ns.length - 1 := by rw [List.length_eraseIdx, if_pos hi]
    refine FR.of_own ?_
    rw [e1]
    have e2 : List.take ((ns.length - 1) * 1) ((ns.take i ++ ns.drop (i + 1) ++ List.replicate (i + 1 - i) (0 : Int)).map (Value.int .i64)) = (ns.eraseIdx i).map (Value.int .i64) := by
      rw [← List.map_take, Nat.mul_one, List.take_append_of_le_length (by simp; omega), List.take_of_length_le (by simp; omega), ← List.eraseIdx_eq_take_drop_succ]
    rw [e2] at h1
    exact h1
  · exact (pw_below_drewN (Below.refl base w) q).trans (((Tr.refl (fun k => k = g) (w.drewN q)).grown h2 (fun k hk => .inl (by injection hk with hk; exact hk.symm))).below (fun k hk e => by have := own_base ho g rfl; omega) hB)
theorem told_at {w : World} {A : Option Addr} {n : Nat} {ts : List S65} (h : Kd.C k65 w A n ts) (k : Nat) (hk : k < n) :
    ∃ ad t Af cf, A = some ad ∧ ts[k]? = some t ∧ w.cell? (ad.add (k * 3)) = some (.int .i64 t.f0) ∧
      w.cell? ⟨(ad.add (k * 3)).block, (ad.add (k * 3)).off + 1, none⟩ = some (.int .i64 t.f1) ∧
      w.cell? ⟨(ad.add (k * 3)).block, (ad.add (k * 3)).off + 2, none⟩ = some (.slice Af t.f2.length cf) := by
  obtain ⟨hl, _, h1⟩ := h
  obtain ⟨ad, e, hc1⟩ := h1 (by omega)
  have hg : ts[k]? = some (ts[k]'(by omega)) := List.getElem?_eq_getElem (by omega)
  obtain ⟨c, _, hK, hc⟩ := hc1 k _ hg
  obtain ⟨A2, c2, rfl, _⟩ := k65_open hK
  refine ⟨ad, _, A2, c2, e, hg, hc 0 _ rfl, ?_, ?_⟩
  · rw [← add_field _ _ 1 (by omega)]; exact hc 1 _ rfl
  · rw [← add_field _ _ 2 (by omega)]; exact hc 2 _ rfl
def followF : List Int → List Int → List S65 → List Int × Bool
  | own, _, [] => (own, true)
  | own, fresh, t :: r =>
    if t.f0 = 1 ∧ 1 ≤ t.f1 ∧ t.f1 ≤ own.length then followF (own.eraseIdx (t.f1 - 1).toNat) fresh r
    else if t.f0 = 2 ∧ own.length ≤ t.f1 ∧ t.f1 - own.length ≤ fresh.length then followF (own ++ fresh.take (t.f1 - own.length).toNat) (fresh.drop (t.f1 - own.length).toNat) r
    else if t.f0 = 3 ∧ 1 ≤ t.f1 ∧ t.f1 ≤ own.length then followF own fresh r
    else (own, false)
end Go.Proofs.YtnenlkojecicfaaDoor.V

set_option linter.unusedVariables false
set_option linter.unusedSimpArgs false
namespace Go.Proofs.YtnenlkojecicfaaDoor.V
open Go.RowKit Go.Proofs.YtnenlkojecicfaaDoorW.PrintWords Go.Proofs.YtnenlkojecicfaaDoor.P

theorem slice34_take (A : Option Addr) (c n : Nat) (xs : List Int) (hn : n ≤ xs.length) (hc : xs.length ≤ c) (W : World) :
    (Instr.slice 34 (.slice A xs.length c) none (some (.int .i64 n)) none).run Tryd.prog W = .ok (.slice A (xs.take n).length c) W := by
  obtain ⟨i, hi, hz⟩ := Option.map_eq_some_iff.1 info3
  simp only [Prod.mk.injEq] at hz
  have := (print_take_int (P := Tryd.prog) (k := .i64) 34 3 Tryd.underlying34 hi hz.2.1 A c xs n (by omega) (by omega) hc).1 W
  simpa using this
theorem slice34_drop (A : Option Addr) (c n : Nat) (xs : List Int) (hn : n ≤ xs.length) (hc : xs.length ≤ c) :
    ∃ A' : Option Addr, (∀ W : World, (Instr.slice 34 (.slice A xs.length c) (some (.int .i64 n)) none none).run Tryd.prog W = .ok (.slice A' (xs.drop n).length (c - n)) W) ∧
      (∀ w : World, Kd.C (Kd.int .i64) w A xs.length xs → Kd.C (Kd.int .i64) w A' (xs.drop n).length (xs.drop n)) ∧ (xs.drop n).length ≤ c - n := by
  obtain ⟨i, hi, hz⟩ := Option.map_eq_some_iff.1 info3
  simp only [Prod.mk.injEq] at hz
  obtain ⟨A', h1, h2, h3⟩ := print_drop_of (P := Tryd.prog) (Value.int .i64) (0 : Int) 34 3 .i64 Tryd.underlying34 hi hz.2.1 A c xs n (by omega) (by omega) hc
  refine ⟨A', fun W => by simpa using h1 W, fun w h => ?_, by simpa using h3⟩
  have := h2 w (Kd.reads_of_C h)
  exact Kd.C_of_reads (by simpa using this)
theorem ri_take {w : World} {A : Option Addr} {xs : List Int} {n : Nat} (h : Kd.C (Kd.int .i64) w A xs.length xs) (hn : n ≤ xs.length) : ReadsInt w .i64 A n (xs.take n) := by
  have := Kd.reads_of_C (d := (0 : Int)) (Kd.C_take h hn)
  rw [List.length_take, Nat.min_eq_left hn] at this
  exact this
theorem followF_del {own fresh : List Int} {t : S65} {r : List S65} {i : Nat} (h0 : t.f0 = 1) (h1 : t.f1 = (i : Int) + 1) (hi : i < own.length) : followF own fresh (t :: r) = followF (own.eraseIdx i) fresh r := by
  rw [followF, if_pos ⟨h0, by omega, by omega⟩]
  congr 2
  omega
theorem followF_app {own fresh : List Int} {t : S65} {r : List S65} {n : Nat} (h0 : t.f0 = 2) (h1 : t.f1 = (own.length : Int) + n) (hn : n ≤ fresh.length) : followF own fresh (t :: r) = followF (own ++ fresh.take n) (fresh.drop n) r := by
  rw [followF, if_neg (by omega), if_pos ⟨h0, by omega, by omega⟩]
  have : (t.f1 - own.length).toNat = n := by omega
  rw [this]
theorem followF_flag {own fresh : List Int} {t : S65} {r : List S65} (h0 : t.f0 = 3) (h1 : 1 ≤ t.f1) (hi : t.f1 ≤ own.length) : followF own fresh (t :: r) = followF own fresh r := by
  rw [followF, if_neg (by omega), if_neg (by omega), if_pos ⟨h0, h1, hi⟩]
theorem followF_bad {own fresh : List Int} {t : S65} {r : List S65} (h1 : ¬ (t.f0 = 1 ∧ 1 ≤ t.f1 ∧ t.f1 ≤ own.length)) (h2 : ¬ (t.f0 = 2 ∧ own.length ≤ t.f1 ∧ t.f1 - own.length ≤ fresh.length)) (h3 : ¬ (t.f0 = 3 ∧ 1 ≤ t.f1 ∧ t.f1 ≤ own.length)) : followF own fresh (t :: r) = (own, false) := by
  rw [followF, if_neg h1, if_neg h2, if_neg h3]
/-- Ints that lie below. -/
def IF (B : Nat) (w : World) (v : Value) (ns : List Int) : Prop := ∃ A c, v = .slice A ns.length c ∧ ns.length ≤ c ∧ Rd [] B (Kd.int .i64) w A ns.length ns
theorem SK.low {B : Nat} {w w1 : World} (h : Below B w w1) : SK [] B w w1 := ⟨h.size, fun k _ hs => by
  rcases hs with hs | ⟨_, _, _, ht, _⟩
  · exact h.block k hs
  · cases ht⟩
theorem IF.low {B : Nat} {w w1 : World} {v : Value} {ns : List Int} (h : IF B w v ns) (hb : Below B w w1) : IF B w1 v ns := by
  obtain ⟨A, c, e, hl, hr⟩ := h
  exact ⟨A, c, e, hl, hr.step (SK.low hb)⟩
theorem IC.low {w : World} {v : Value} {ns : List Int} (h : IC w v ns) : IF w.heap.size w v ns := by
  obtain ⟨A, c, e, hl, hr⟩ := h
  exact ⟨A, c, e, hl, Rd.of_C (Kd.heap_int .i64) hr⟩
theorem IF.drop {B : Nat} {w : World} {a : Addr} {xs : List Int} {c n : Nat} (h : Rd [] B (Kd.int .i64) w (some a) xs.length xs) (hc : xs.length ≤ c) (hn : n ≤ xs.length) :
    IF B w (.slice (if c = n then some a else some (a.add n)) (xs.length - n) (c - n)) (xs.drop n) := by
  have hl : (xs.drop n).length = xs.length - n := List.length_drop
  refine ⟨_, c - n, by rw [hl], by rw [hl]; omega, ?_⟩
  refine Kd.F_imp h (fun W' hC => ?_)
  have := Kd.C_drop (m := n) hC hn hc
  rw [show (Kd.int .i64).sz = 1 from rfl, Nat.mul_one] at this
  exact this
set_option maxRecDepth 100000 in
set_option maxHeartbeats 4000000 in
theorem follow_callsR (v0 v1 v2 : Value) (own fresh : List Int) (l : List S65) (w : World) (h0 : IC w v0 own) (h1 : IC w v1 fresh) (h2 : TC w v2 l) (hlen : own.length + fresh.length + l.length ≤ 500000)
    (hr : ∀ t ∈ l, -9223372036854775808 ≤ t.f1 ∧ t.f1 ≤ 9223372036854775807) :
    Calls Tryd.prog 30 #[v0, v1, v2] w fun e w' => ∃ vr, e = .returned (.tuple #[vr, .bool (followF own fresh l).2]) ∧ FR w' w.heap.size vr (followF own fresh l).1 ∧ Below w.heap.size w w' := by
  have HIF := Aside0.mk h1.low
  obtain ⟨Al, cl, rfl, hcl, hl⟩ := h2
  have HL := Aside0.mk (Rd.of_C (T := []) k65_heap hl)
  have HR := Aside0.mk hr
  clear h1 hl hr
  go_enter Tryd.func30, Tryd.ntmps30
  go_wp2_with fail
  refine (iclone_calls h0 (by omega)).mono ?_
  rintro e w1 ⟨vo, rfl, ho1, hb1⟩
  have HO1 := Aside0.mk ho1
  have HB1 := Aside0.mk hb1
  have HIF1 := Aside0.mk (HIF.out.low hb1)
  have HL1 := Aside0.mk (HL.out.step (SK.low hb1))
  clear ho1 hb1 h0 HIF HL
  go_wp2_with fail
  go_loopw [16, 8, 1] (fun i o f wr => ∃ (k : Nat) (own' fresh' : List Int), k ≤ l.length ∧ i = .int .i64 k ∧ Aside0 (FR wr w.heap.size o own') ∧ Aside0 (IF w.heap.size wr f fresh') ∧ Aside0 (Rd [] w.heap.size k65 wr Al l.length l) ∧ Aside0 (Below w.heap.size w wr) ∧ own'.length + fresh'.length ≤ own.length + fresh.length ∧ Aside0 (followF own fresh l = followF own' fresh' (l.drop k))) (fun i _ _ _ => l.length - (intOf i).toNat)
  case atStart => exact ⟨0, own, fresh, Nat.zero_le _, rfl, HO1, HIF1, HL1, HB1, Nat.le_refl _, ⟨by rw [List.drop_zero]⟩⟩
  case round =>
    obtain ⟨k, own', fresh', hk, rfl, HO, HF, HLr, HB, hsum, HE⟩ := hrel
    by_cases hlt : k < l.length
    · obtain ⟨ad, t, Af, cf, rfl, ht, c0, c1, c2⟩ := told_at HLr.out.now k hlt
      have hrt := HR.out t (List.mem_of_getElem? ht)
      have HE2 : Aside0 (followF own fresh l = followF own' fresh' (t :: l.drop (k + 1))) := ⟨by rw [HE.out, drop_at ht]⟩
      clear ht HE
      obtain ⟨Ao, co, hvo, hco⟩ := OwnRow.slice_ HO.out.2
      subst hvo
      obtain ⟨Afr, cfr, rfl, hcfr, hfr⟩ := HF.out
      have HFR := Aside0.mk hfr
      clear hfr
      go_upto_region 6 with fail
      have hx0 : (wr.alloc (.cells #[.int .i64 t.f0, .int .i64 t.f1, .slice Af t.f2.length cf] 65)).heap[wr.heap.size]? = some (.cells #[.int .i64 t.f0, .int .i64 t.f1, .slice Af t.f2.length cf] 65) := heap_alloc_new wr _
      have hbel : Below wr.heap.size wr (wr.alloc (.cells #[.int .i64 t.f0, .int .i64 t.f1, .slice Af t.f2.length cf] 65)) := below_alloc (Below.refl _ _) _
      generalize wr.alloc _ = W1 at *
      have HO1 := Aside0.mk (HO.out.below hbel)
      have hbel0 : Below w.heap.size wr W1 := hbel.mono HB.out.size
      have HF1 := Aside0.mk (HF.out.low hbel0)
      have HFR1 := Aside0.mk (HFR.out.step (SK.low hbel0))
      have HL1r := Aside0.mk (HLr.out.step (SK.low hbel0))
      clear hbel0
      have HB1 : Aside0 (Below w.heap.size w W1) := ⟨HB.out.trans (hbel.mono HB.out.size)⟩
      generalize wr.heap.size = bx at *
      have q0 : W1.cell? ⟨bx, 0, none⟩ = some (.int .i64 t.f0) := by simp [World.cell?, hx0]
      have q1 : W1.cell? ⟨bx, 1, none⟩ = some (.int .i64 t.f1) := by simp [World.cell?, hx0]
      clear hx0 hbel HO HF HFR HLr HB c0 c1 c2 HL1
      obtain ⟨t0, e0⟩ : ∃ x, x = t.f0 := ⟨_, rfl⟩
      obtain ⟨t1, e1⟩ : ∃ x, x = t.f1 := ⟨_, rfl⟩
      rw [← e0] at q0
      rw [← e1] at q1 hrt
      have E0 := Lib.hid e0
      have E1 := Lib.hid e1
      clear e0 e1
      by_cases k1 : t0 = 1
      · subst k1
        by_cases p1 : 1 ≤ t1
        · have p1b : decide (1 ≤ t1) = true := by simpa using p1
          by_cases p2 : t1 ≤ own'.length
          · obtain ⟨i, rfl⟩ : ∃ i : Nat, t1 = (i : Int) + 1 := ⟨(t1 - 1).toNat, by omega⟩
            have hi : i < own'.length := by omega
            clear p1b
            go_wp2_with fail
            refine (idelete_calls HO1.out HB1.out.size i hi).mono ?_
            rintro e w2 ⟨v', rfl, ho2, hb2⟩
            have HO2 := Aside0.mk ho2
            have HB2 := Aside0.mk hb2
            have HF2 := Aside0.mk (HF1.out.low hb2)
            have HL2 := Aside0.mk (HL1r.out.step (SK.low hb2))
            have hle : (own'.eraseIdx i).length = own'.length - 1 := by rw [List.length_eraseIdx, if_pos hi]
            have HLE := Lib.hid hle
            clear ho2 hb2 hle
            go_wp2
            go_roundw
            case measure => simp [intOf]; omega
            case rel => exact ⟨k + 1, own'.eraseIdx i, fresh', by omega, by go_num, HO2, HF2, HL2, ⟨HB1.out.trans HB2.out⟩, by have := HLE.out; omega, ⟨by rw [HE2.out]; exact followF_del (by have := E0.out; omega) (by have := E1.out; omega) hi⟩⟩
          · have p2b : decide (t1 ≤ (own'.length : Int)) = false := by simpa using p2
            go_wp2
            go_ret2
            have hfin := followF_bad (own := own') (fresh := fresh') (t := t) (r := l.drop (k + 1)) (by have := E0.out; have := E1.out; omega) (by have := E0.out; have := E1.out; omega) (by have := E0.out; have := E1.out; omega)
            exact ⟨.slice Ao own'.length co, by rw [HE2.out, hfin]; rfl, by rw [HE2.out, hfin]; exact HO1.out, HB1.out⟩
        · have p1b : decide (1 ≤ t1) = false := by simpa using p1
          go_wp2
          go_ret2
          have hfin := followF_bad (own := own') (fresh := fresh') (t := t) (r := l.drop (k + 1)) (by have := E0.out; have := E1.out; omega) (by have := E0.out; have := E1.out; omega) (by have := E0.out; have := E1.out; omega)
          exact ⟨.slice Ao own'.length co, by rw [HE2.out, hfin]; rfl, by rw [HE2.out, hfin]; exact HO1.out, HB1.out⟩
      · have k1b : (t0 == 1) = false := by simpa using k1
        by_cases k2 : t0 = 2
        · subst k2
          by_cases p1 : (own'.length : Int) ≤ t1
          · obtain ⟨n, rfl⟩ : ∃ n : Nat, t1 = (own'.length : Int) + n := ⟨(t1 - own'.length).toNat, by omega⟩
            by_cases p2 : n ≤ fresh'.length
            · clear k1b
              have hsub : (own'.length : Int) + n - own'.length = n := by omega
              have hsum2 : own'.length + n ≤ 500000 := by omega
              have happ : Aside0 (followF own fresh l = followF (own' ++ fresh'.take n) (fresh'.drop n) (l.drop (k + 1))) := ⟨by rw [HE2.out]; exact followF_app (by have := E0.out; omega) (by have := E1.out; omega) p2⟩
              rcases Afr with _ | afr
              · have hz : fresh' = [] := by
                  rcases Nat.eq_zero_or_pos fresh'.length with h | h
                  · exact List.length_eq_zero_iff.1 h
                  · obtain ⟨ad, e, _⟩ := HFR1.out.now.2.2 h
                    cases e
                subst hz
                have hn0 : n = 0 := by simpa using p2
                subst hn0
                go_wp2_with (at_builtin; (refine print_append_row (w0 := W1) w.heap.size rfl (.tmp 70) (.tmp 73) 34 3 .i64 8 rfl Tryd.underlying34 info3 (by omega) (.slice Ao own'.length co) own' [] none 0 cfr rfl rfl ?aO ?aR (Below.refl _ _) ?aB ?aL ?_); (case aO => exact HO1.out.own); (case aB => exact HB1.out.size); (case aL => omega); (case aR => exact ri_take (n := 0) HFR1.out.now (Nat.le_refl 0)); intro v3 w3 ho3 hb3 hg3 hat3)
                go_roundw
                case measure => simp [intOf]; omega
                case rel => exact ⟨k + 1, own' ++ [], [], by omega, by go_num, ⟨FR.of_own ho3⟩, ⟨HF1.out.low hb3⟩, ⟨HL1r.out.step (SK.low hb3)⟩, ⟨HB1.out.trans hb3⟩, by simp; omega, happ⟩
              · go_wp2_with (at_builtin; (refine print_append_row (w0 := W1) w.heap.size rfl (.tmp 70) (.tmp 73) 34 3 .i64 8 rfl Tryd.underlying34 info3 (by omega) (.slice Ao own'.length co) own' (fresh'.take n) (some afr) n cfr rfl rfl ?aO ?aR (Below.refl _ _) ?aB ?aL ?_); (case aO => exact HO1.out.own); (case aB => exact HB1.out.size); (case aL => omega); (case aR => exact ri_take HFR1.out.now p2); intro v3 w3 ho3 hb3 hg3 hat3)
                go_roundw
                case measure => simp [intOf]; omega
                case rel => exact ⟨k + 1, own' ++ fresh'.take n, fresh'.drop n, by omega, by go_num, ⟨FR.of_own ho3⟩, ⟨IF.drop (HFR1.out.step (SK.low hb3)) hcfr p2⟩, ⟨HL1r.out.step (SK.low hb3)⟩, ⟨HB1.out.trans hb3⟩, by simp; omega, happ⟩
            · 
              go_wp2
              go_ret2
              have hfin := followF_bad (own := own') (fresh := fresh') (t := t) (r := l.drop (k + 1)) (by have := E0.out; have := E1.out; omega) (by have := E0.out; have := E1.out; omega) (by have := E0.out; have := E1.out; omega)
              exact ⟨.slice Ao own'.length co, by rw [HE2.out, hfin]; rfl, by rw [HE2.out, hfin]; exact HO1.out, HB1.out⟩
          · have p1b : decide ((own'.length : Int) ≤ t1) = false := by simpa using p1
            go_wp2
            go_ret2
            have hfin := followF_bad (own := own') (fresh := fresh') (t := t) (r := l.drop (k + 1)) (by have := E0.out; have := E1.out; omega) (by have := E0.out; have := E1.out; omega) (by have := E0.out; have := E1.out; omega)
            exact ⟨.slice Ao own'.length co, by rw [HE2.out, hfin]; rfl, by rw [HE2.out, hfin]; exact HO1.out, HB1.out⟩
        · have k2b : (t0 == 2) = false := by simpa using k2
          by_cases k3 : t0 = 3
          · subst k3
            by_cases p1 : 1 ≤ t1
            · have p1b : decide (1 ≤ t1) = true := by simpa using p1
              by_cases p2 : t1 ≤ own'.length
              · have p2b : decide (t1 ≤ (own'.length : Int)) = true := by simpa using p2
                go_wp2
                go_roundw
                case measure => simp [intOf]; omega
                case rel => exact ⟨k + 1, own', fresh', by omega, by go_num, HO1, HF1, HL1r, HB1, hsum, ⟨by rw [HE2.out]; exact followF_flag (by have := E0.out; omega) (by have := E1.out; omega) (by have := E1.out; omega)⟩⟩
              · have p2b : decide (t1 ≤ (own'.length : Int)) = false := by simpa using p2
                go_wp2
                go_ret2
                have hfin := followF_bad (own := own') (fresh := fresh') (t := t) (r := l.drop (k + 1)) (by have := E0.out; have := E1.out; omega) (by have := E0.out; have := E1.out; omega) (by have := E0.out; have := E1.out; omega)
                exact ⟨.slice Ao own'.length co, by rw [HE2.out, hfin]; rfl, by rw [HE2.out, hfin]; exact HO1.out, HB1.out⟩
            · have p1b : decide (1 ≤ t1) = false := by simpa using p1
              go_wp2
              go_ret2
              have hfin := followF_bad (own := own') (fresh := fresh') (t := t) (r := l.drop (k + 1)) (by have := E0.out; have := E1.out; omega) (by have := E0.out; have := E1.out; omega) (by have := E0.out; have := E1.out; omega)
              exact ⟨.slice Ao own'.length co, by rw [HE2.out, hfin]; rfl, by rw [HE2.out, hfin]; exact HO1.out, HB1.out⟩
          · have k3b : (t0 == 3) = false := by simpa using k3
            go_wp2
            go_ret2
            have hfin := followF_bad (own := own') (fresh := fresh') (t := t) (r := l.drop (k + 1)) (by have := E0.out; have := E1.out; omega) (by have := E0.out; have := E1.out; omega) (by have := E0.out; have := E1.out; omega)
            exact ⟨.slice Ao own'.length co, by rw [HE2.out, hfin]; rfl, by rw [HE2.out, hfin]; exact HO1.out, HB1.out⟩
    · have hks : k = l.length := by omega
      subst hks
      go_wp2
      go_ret2
      have hfin : followF own fresh l = (own', true) := by rw [HE.out, List.drop_length]; rfl
      exact ⟨_, by rw [hfin]; rfl, by rw [hfin]; exact HO.out, HB.out⟩
theorem follow_calls (v0 v1 v2 : Value) (own fresh : List Int) (l : List S65) (w : World) (h0 : IC w v0 own) (h1 : IC w v1 fresh) (h2 : TC w v2 l) (hlen : own.length + fresh.length + l.length ≤ 500000)
    (hr : ∀ t ∈ l, -9223372036854775808 ≤ t.f1 ∧ t.f1 ≤ 9223372036854775807) :
    Calls Tryd.prog 30 #[v0, v1, v2] w fun e w' => ∃ vr, e = .returned (.tuple #[vr, .bool (followF own fresh l).2]) ∧ IC w' vr (followF own fresh l).1 ∧ Below w.heap.size w w' :=
  (follow_callsR v0 v1 v2 own fresh l w h0 h1 h2 hlen hr).mono fun _ _ ⟨vr, he, hf, hb⟩ => ⟨vr, he, hf.ic, hb⟩
end Go.Proofs.YtnenlkojecicfaaDoor.V
