/- What a client makes of what it is told. haversacklaw18.above: the walk; ranges of what is told. -/
import Derived.Test.YtnenlkojecicfaaDoorP2
import Derived.Test.YtnenlkojecicfaaDoorW1
import Derived.Test.YtnenlkojecicfaaDoorR0
import Derived.Test.YtnenlkojecicfaaDoorG4
import Derived.Test.YtnenlkojecicfaaDoorA0
import Derived.Deep.RegionHeld3
set_option linter.unusedVariables false
set_option linter.unusedSimpArgs false
namespace Go.Proofs.YtnenlkojecicfaaDoor.V
open Go.RowKit Go.Proofs.YtnenlkojecicfaaDoorW.PrintWords Go.Proofs.YtnenlkojecicfaaDoor.P

/-! ### ViewFollows -/
def aboveF (l : List S43) (top : Int) : List Int := (l.filter (fun m => decide (top < m.f0))).map (·.f0)
theorem grow_new (l : List S43) : ∀ (s : List S74 × Int), Rise l → uids (l.foldl growS s).1 = uids s.1 ++ aboveF l s.2 ∧ (l.foldl growS s).2 = ((aboveF l s.2).getLast?).getD s.2 := by
  induction l with
  | nil => exact fun s _ => ⟨by simp [aboveF], rfl⟩
  | cons m r ih =>
    intro s hR
    have hR' : Rise r := ⟨(List.pairwise_cons.1 hR.1).2, fun x hx => hR.2 x (List.mem_cons_of_mem _ hx)⟩
    have hlt := (List.pairwise_cons.1 hR.1).1
    rw [List.foldl_cons]
    obtain ⟨h1, h2⟩ := ih (growS s m) hR'
    by_cases hm : s.2 < m.f0
    · have e : growS s m = (s.1 ++ [⟨m.f0, flagsF m.f1⟩], m.f0) := by unfold growS; rw [if_pos hm]
      have er : ∀ t, t ≤ m.f0 → aboveF r t = aboveF r m.f0 := by
        intro t ht
        unfold aboveF
        congr 1
        refine List.filter_congr (fun x hx => ?_)
        have := hlt x hx
        simp
        omega
      have ea : aboveF (m :: r) s.2 = m.f0 :: aboveF r m.f0 := by
        have : aboveF (m :: r) s.2 = m.f0 :: aboveF r s.2 := by
          unfold aboveF
          rw [List.filter_cons, if_pos (by simpa using hm)]
          rfl
        rw [this, er s.2 (by omega)]
      rw [e] at h1 h2 ⊢
      rw [ea]
      refine ⟨?_, ?_⟩
      · rw [h1]; simp [uids]
      · rw [h2]
        cases hx : aboveF r m.f0 with
        | nil => simp
        | cons y s => simp [List.getLast?_cons]
    · have e : growS s m = s := by unfold growS; rw [if_neg hm]
      have ea : aboveF (m :: r) s.2 = aboveF r s.2 := by
        unfold aboveF
        rw [List.filter_cons, if_neg (by simpa using hm)]
      rw [e] at h1 h2 ⊢
      rw [ea]
      exact ⟨h1, h2⟩
theorem followF_gone (l : List S43) (fresh : List Int) : ∀ (S : List S74) (P : List Int) (R : List S65), followF (P ++ uids S) fresh (goneF l P.length S ++ R) = followF (P ++ uids (stayF l S)) fresh R := by
  intro S
  induction S with
  | nil => intro P R; simp [goneF, stayF, uids]
  | cons p r ih =>
    intro P R
    have h1 := ih (P ++ [p.f0])
    have e1 : P ++ uids (p :: r) = (P ++ [p.f0]) ++ uids r := by simp [uids]
    have e2 : (P ++ [p.f0]).length = P.length + 1 := by simp
    rw [e2] at h1
    unfold goneF
    rw [e1, List.append_assoc (goneF l (P.length + 1) r), h1]
    by_cases ht : thereF l p.f0 = true
    · rw [if_pos ht]
      have : stayF l (p :: r) = p :: stayF l r := by unfold stayF; rw [List.filter_cons, if_pos ht]
      rw [this]
      simp [uids]
    · rw [if_neg ht]
      have : stayF l (p :: r) = stayF l r := by unfold stayF; rw [List.filter_cons, if_neg ht]
      rw [this]
      show followF _ fresh (⟨1, (P.length : Int) + 1, []⟩ :: R) = _
      rw [followF_del (i := P.length) rfl rfl (by simp)]
      congr 1
      rw [List.append_assoc, List.eraseIdx_append_of_length_le (Nat.le_refl _)]
      simp
theorem followF_flags (l : List S43) (own fresh : List Int) : ∀ (S : List S74) (o : Nat), o + S.length ≤ own.length → followF own fresh (flagsO l o S) = (own, true) := by
  intro S
  induction S with
  | nil => intro o _; simp [flagsO, followF]
  | cons p r ih =>
    intro o ho
    rw [List.length_cons] at ho
    unfold flagsO flagO
    split
    · show followF own fresh (⟨3, (o : Int) + 1, _⟩ :: flagsO l (o + 1) r) = _
      rw [followF_flag rfl (by simp only; omega) (by simp only; omega)]
      exact ih (o + 1) (by omega)
    · exact ih (o + 1) (by omega)
theorem followF_sync {S : List S74} {top : Int} (q : Bool) {l : List S43} (hl : Rise l) : followF (uids S) (aboveF l top) (syncO q S top l) = (uids (syncS q S top l), true) := by
  obtain ⟨h1, h2⟩ := grow_new l (syncS1 q l S, top) hl
  have h1' : uids (syncG q S top l).1 = uids (syncS1 q l S) ++ aboveF l top := h1
  have hlen : (syncG q S top l).1.length = (syncS1 q l S).length + (aboveF l top).length := by
    have := congrArg List.length h1'
    simpa [uids] using this
  have hu1 : (uids (syncS1 q l S)).length = (syncS1 q l S).length := by simp [uids]
  have step1 : ∀ R, followF (uids S) (aboveF l top) (syncO1 q l S ++ R) = followF (uids (syncS1 q l S)) (aboveF l top) R := by
    intro R
    unfold syncO1 syncS1
    split
    · rfl
    · have := followF_gone l (aboveF l top) S [] R
      simpa using this
  unfold syncO
  rw [List.append_assoc, step1, uids_syncS, h1']
  unfold syncO2
  split
  · rename_i hc
    show followF _ _ (⟨2, ((syncG q S top l).1.length : Int), []⟩ :: flagsO l 0 (syncG q S top l).1) = _
    rw [followF_app (n := (aboveF l top).length) rfl (by simp only; rw [hlen, hu1]; omega) (Nat.le_refl _), List.take_length, List.drop_length]
    exact followF_flags l _ _ _ 0 (by rw [List.length_append, hu1, hlen]; omega)
  · rename_i hc
    have : aboveF l top = [] := List.length_eq_zero_iff.1 (by omega)
    rw [this, List.append_nil]
    exact followF_flags l _ _ _ 0 (by rw [hu1, hlen, this]; simp)
/-- What comes fresh with a call. -/
def freshF (x : S33) (top : Int) : List Int := if x.f0 = 0 ∨ x.f0 = 1 then aboveF (risingF [] x.f1) top else []
theorem follow_do (x : S33) (S : List S74) (top : Int) : followF (uids S) (freshF x top) (doO x S top) = (uids (doS x S top), true) := by
  unfold freshF doO doS
  by_cases h0 : x.f0 = 0
  · rw [if_pos (.inl h0), if_pos h0, if_pos h0]
    exact followF_sync false (rise_rising _)
  rw [if_neg h0, if_neg h0]
  by_cases h1 : x.f0 = 1
  · rw [if_pos (.inr h1), if_pos h1, if_pos h1]
    exact followF_sync true (rise_rising _)
  rw [if_neg h1, if_neg h1, if_neg (by rintro (h | h) <;> contradiction)]
  have nn : ∀ S', uids S' = uids S → followF (uids S) [] [] = (uids S', true) := fun S' e => by rw [e]; rfl
  split
  · exact nn _ (uids_map (noteP_f0 _ _) _)
  · exact nn _ rfl
theorem quiet_prefix (x : S33) (hx : x.f0 = 1) (S : List S74) (top : Int) : ∃ N, uids (doS x S top) = uids S ++ N := by
  have e : doS x S top = syncS true S top (risingF [] x.f1) := by
    unfold doS
    rw [if_neg (by omega), if_pos hx]
  rw [e, uids_syncS]
  exact ⟨_, (grow_new (risingF [] x.f1) (S, top) (rise_rising _)).1⟩
theorem fresh_top (x : S33) (S : List S74) (top : Int) : doT x S top = ((freshF x top).getLast?).getD top := by
  unfold freshF doT
  by_cases h0 : x.f0 = 0
  · rw [if_pos h0, if_pos (Or.inl h0)]
    exact (grow_new (risingF [] x.f1) (syncS1 false (risingF [] x.f1) S, top) (rise_rising _)).2
  rw [if_neg h0]
  by_cases h1 : x.f0 = 1
  · rw [if_pos h1, if_pos (Or.inr h1)]
    exact (grow_new (risingF [] x.f1) (S, top) (rise_rising _)).2
  rw [if_neg h1, if_neg (by rintro (h | h) <;> contradiction)]
  rfl
end Go.Proofs.YtnenlkojecicfaaDoor.V


namespace Go.Proofs.YtnenlkojecicfaaDoor.V
open Go.RowKit Go.Proofs.YtnenlkojecicfaaDoorW.PrintWords Go.Proofs.YtnenlkojecicfaaDoor.P

def aboveTo (l : List S43) (top : Int) (k : Nat) : List Int := aboveF (l.take k) top
theorem above_yes {top : Int} {l : List S43} {k : Nat} {m : S43} (hm : l[k]? = some m) (h : top < m.f0) : aboveTo l top (k + 1) = aboveTo l top k ++ [m.f0] := by
  unfold aboveTo aboveF
  rw [take_snoc hm, List.filter_append, List.map_append, List.filter_cons, if_pos (by simpa using h)]
  rfl
theorem above_no {top : Int} {l : List S43} {k : Nat} {m : S43} (hm : l[k]? = some m) (h : ¬ top < m.f0) : aboveTo l top (k + 1) = aboveTo l top k := by
  unfold aboveTo aboveF
  rw [take_snoc hm, List.filter_append, List.map_append, List.filter_cons, if_neg (by simpa using h)]
  simp
theorem above_len (l : List S43) (top : Int) : (aboveF l top).length ≤ l.length := by
  unfold aboveF
  rw [List.length_map]
  exact List.length_filter_le _ _
theorem aboveTo_len (l : List S43) (top : Int) (k : Nat) : (aboveTo l top k).length ≤ k := Nat.le_trans (above_len _ _) (List.length_take_le _ _)
theorem FR.il {w : World} {base : Nat} {v : Value} {ns : List Int} (h : FR w base v ns) (B : Nat) : IL B w v ns := by
  have hR : (Kd.int .i64).R 3 w base (fun _ => True) v ns := h
  obtain ⟨A, c, rfl, hl, _⟩ := Kd.R_reads hR
  exact ⟨A, c, rfl, hl, Rd.of_R hR (by intro q hq; simpa [Kd.int, Kd.scalar] using hq)⟩
theorem gone_range (l : List S43) : ∀ (S : List S74) (o : Nat), ∀ t ∈ goneF l o S, 0 ≤ t.f1 ∧ t.f1 ≤ (o + S.length : Nat) := by
  intro S
  induction S with
  | nil => intro o t ht; cases ht
  | cons p r ih =>
    intro o t ht
    unfold goneF at ht
    rw [List.length_cons]
    rcases List.mem_append.1 ht with ht | ht
    · have := ih (o + 1) t ht
      omega
    · split at ht
      · cases ht
      · rw [List.mem_singleton.1 ht]
        simp only
        omega
theorem flags_range (l : List S43) : ∀ (S : List S74) (o : Nat), ∀ t ∈ flagsO l o S, 0 ≤ t.f1 ∧ t.f1 ≤ (o + S.length : Nat) := by
  intro S
  induction S with
  | nil => intro o t ht; cases ht
  | cons p r ih =>
    intro o t ht
    unfold flagsO flagO at ht
    rw [List.length_cons]
    rcases List.mem_append.1 ht with ht | ht
    · split at ht
      · rw [List.mem_singleton.1 ht]
        simp only
        omega
      · cases ht
    · have := ih (o + 1) t ht
      omega
theorem syncG_len (q : Bool) (S : List S74) (top : Int) (l : List S43) : (syncG q S top l).1.length ≤ S.length + l.length := by
  have h1 := growF_len (syncS1 q l S) top l
  have h2 : (syncS1 q l S).length ≤ S.length := by
    unfold syncS1
    split
    · exact Nat.le_refl _
    · exact stayF_len _ _
  unfold syncG
  omega
theorem syncO_range (q : Bool) (S : List S74) (top : Int) (l : List S43) : (∀ t ∈ syncO q S top l, 0 ≤ t.f1 ∧ t.f1 ≤ (S.length + l.length : Nat)) ∧ (syncO q S top l).length ≤ S.length + (1 + (S.length + l.length)) := by
  have hG := syncG_len q S top l
  constructor
  · intro t ht
    unfold syncO at ht
    rcases List.mem_append.1 ht with ht | ht
    · rcases List.mem_append.1 ht with ht | ht
      · unfold syncO1 at ht
        split at ht
        · cases ht
        · have := gone_range l S 0 t ht
          omega
      · unfold syncO2 at ht
        split at ht
        · rw [List.mem_singleton.1 ht]
          simp only
          omega
        · cases ht
    · have := flags_range l _ 0 t ht
      omega
  · unfold syncO
    rw [List.length_append, List.length_append]
    have h1 : (syncO1 q l S).length ≤ S.length := by
      unfold syncO1
      split
      · simp
      · exact goneF_len l S 0
    have h2 : (syncO2 q S top l).length ≤ 1 := by unfold syncO2; split <;> simp
    have h3 := flagsO_len l (syncG q S top l).1 0
    omega
theorem doO_range (x : S33) (S : List S74) (top : Int) : (∀ t ∈ doO x S top, 0 ≤ t.f1 ∧ t.f1 ≤ (S.length + x.f1.length : Nat)) ∧ (doO x S top).length ≤ S.length + (1 + (S.length + x.f1.length)) := by
  have hl := rising_len x.f1
  have go : ∀ q, (∀ t ∈ syncO q S top (risingF [] x.f1), 0 ≤ t.f1 ∧ t.f1 ≤ (S.length + x.f1.length : Nat)) ∧ (syncO q S top (risingF [] x.f1)).length ≤ S.length + (1 + (S.length + x.f1.length)) := fun q => by
    obtain ⟨h1, h2⟩ := syncO_range q S top (risingF [] x.f1)
    exact ⟨fun t ht => by have := h1 t ht; omega, by omega⟩
  unfold doO
  split
  · exact go _
  split
  · exact go _
  · exact ⟨(fun t ht => by cases ht), Nat.zero_le _⟩
set_option maxRecDepth 100000 in
set_option maxHeartbeats 4000000 in
theorem above_calls (B : Nat) (A : Option Addr) (c : Nat) (ms : List S43) (top : Int) (w : World) (hB : B ≤ w.heap.size) (hr : Mails B w A ms.length ms) (hm : ms.length ≤ 1000000) :
    Calls Tryd.prog 32 #[.slice A ms.length c, .int .i64 top] w fun e w' => ∃ v : Value, e = .returned v ∧ IRow w' w.heap.size v (aboveF (risingF [] ms) top) ∧ Below w.heap.size w w' := by
  have HB := Aside0.mk hB
  have HR := Aside0.mk hr
  clear hB hr
  go_enter Tryd.func32, Tryd.ntmps32
  go_wp2_with fail
  refine (rrising_calls B A c ms w HB.out HR.out hm).mono ?_
  rintro e w8 ⟨v, rfl, ho8, hb8⟩
  obtain ⟨L, hL⟩ : ∃ L, L = risingF [] ms := ⟨_, rfl⟩
  rw [← hL] at ho8
  have hLl : L.length ≤ 1000000 := by rw [hL]; have := rising_len ms; omega
  have HL := Lib.hid hL
  obtain ⟨Av, cv, hv, hm8⟩ := ho8.mails
  subst hv
  have HM8 := Aside0.mk hm8
  have HB8 := Aside0.mk hb8
  clear ho8 hm8 hb8 hL
  go_wp2_with fail
  go_loopw [11, 5] (fun i v wr => ∃ (j : Nat), j ≤ L.length ∧ i = .int .i64 j ∧ Aside0 (Mails B wr Av L.length L) ∧ Aside0 (IRow wr w.heap.size v (aboveTo L top j)) ∧ Aside0 (Below w.heap.size w wr)) (fun i _ _ => L.length - (intOf i).toNat)
  case atStart => exact ⟨0, Nat.zero_le _, rfl, HM8, ⟨OwnRow.none_ _ _ _ _ _⟩, HB8⟩
  case round =>
    clear HM8 HB8
    obtain ⟨j, hj, rfl, HM, HO, HBw⟩ := hrel
    obtain ⟨wq, rfl⟩ : ∃ wq : World, wq = wr := ⟨_, rfl⟩
    by_cases hjl : j < L.length
    · obtain ⟨ad, vf, x, rfl, hx, ⟨h0, h1, h2, h3, h4, h5, h6, h7, h8, h9, h10, h11⟩, hf⟩ := mail_at HM.out j hjl
      obtain ⟨Af, cf, rfl, _, hfr⟩ := hf
      have HX := Lib.hid hx
      have hwl := aboveTo_len L top j
      clear hx hfr
      go_upto_region 5 with fail
      have hx0 : (wq.alloc (.cells #[.int .i64 x.f0, .slice Af x.f1.length cf, .int .i64 x.f2.f0, .int .i64 x.f2.f1, .int .i64 x.f2.f2, .int .i64 x.f2.f3, .int .i64 x.f2.f4, .int .i64 x.f2.f5, .int .i64 x.f2.f6, .string x.f3, .int .i64 x.f4, .int .i64 x.f5] 43)).heap[wq.heap.size]? = some (.cells #[.int .i64 x.f0, .slice Af x.f1.length cf, .int .i64 x.f2.f0, .int .i64 x.f2.f1, .int .i64 x.f2.f2, .int .i64 x.f2.f3, .int .i64 x.f2.f4, .int .i64 x.f2.f5, .int .i64 x.f2.f6, .string x.f3, .int .i64 x.f4, .int .i64 x.f5] 43) := heap_alloc_new wq _
      have hbel : Below wq.heap.size wq (wq.alloc (.cells #[.int .i64 x.f0, .slice Af x.f1.length cf, .int .i64 x.f2.f0, .int .i64 x.f2.f1, .int .i64 x.f2.f2, .int .i64 x.f2.f3, .int .i64 x.f2.f4, .int .i64 x.f2.f5, .int .i64 x.f2.f6, .string x.f3, .int .i64 x.f4, .int .i64 x.f5] 43)) := below_alloc (Below.refl _ _) _
      generalize wq.alloc _ = W7 at *
      have HM7 := Aside0.mk (HM.out.below hbel)
      have HO7 := Aside0.mk (HO.out.below hbel)
      have HB7 : Aside0 (Below w.heap.size w W7) := ⟨HBw.out.trans (hbel.mono HBw.out.size)⟩
      generalize wq.heap.size = bx at *
      have q0 : W7.cell? ⟨bx, 0, none⟩ = some (.int .i64 x.f0) := by simp [World.cell?, hx0]
      clear hx0 hbel HM HO HBw h0 h1 h2 h3 h4 h5 h6 h7 h8 h9 h10 h11
      by_cases hgt : top < x.f0
      · have HGT := Lib.hid hgt
        go_wp2_with (at_builtin; (refine app_plain (fun x cs => cs = [Value.int .i64 x]) w.heap.size rfl (.tmp 19) (.tmp 22) 34 3 _ 1 8 rfl Tryd.underlying34 info3 rfl (by decide) (by omega) _ (aboveTo L top j) x.f0 [.int .i64 x.f0] rfl _ rfl ?hm rfl rfl (by intro u hu; rw [List.mem_singleton.1 hu]; rfl) ?ho ?hb ?hl ?_); (case hm => rfl); (case ho => exact HO7.out); (case hb => exact HB7.out.size); (case hl => omega); intro v1 w9 ho1 ht9 hat9)
        have HSK := Aside0.mk (orow_sk (T := [9, 43]) (B := B) HO7.out HB.out (by decide) ht9)
        go_roundw
        case measure => simp [intOf]; omega
        case rel => exact ⟨j + 1, by omega, by go_num, ⟨HM7.out.step HSK.out⟩, ⟨by rw [above_yes HX.out HGT.out]; exact ho1⟩, ⟨HB7.out.trans (ht9.below (fun k hk e => by have := orow_base HO7.out k e; omega) HB7.out.size)⟩⟩
      · have HGT := Lib.hid hgt
        have hgb : decide (top < x.f0) = false := by simpa using hgt
        go_wp2_with fail
        go_roundw
        case measure => simp [intOf]; omega
        case rel => exact ⟨j + 1, by omega, by go_num, HM7, ⟨by rw [above_no HX.out HGT.out]; exact HO7.out⟩, HB7⟩
    · have hjs : j = L.length := by omega
      subst hjs
      go_wp2_with fail
      go_ret
      exact ⟨_, rfl, by have := HO.out; unfold aboveTo at this; rw [List.take_length] at this; rw [← HL.out]; exact this, HBw.out⟩
end Go.Proofs.YtnenlkojecicfaaDoor.V
