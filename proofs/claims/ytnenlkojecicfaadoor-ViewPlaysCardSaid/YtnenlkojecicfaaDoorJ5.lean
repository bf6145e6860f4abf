/- The reference's New, UIDs, Place, find, Note. The reference's Sync: what stands in memory between its steps; a place is taken out; Same. (*View).Copy with a view: another one that is the same. -/
import Derived.Test.YtnenlkojecicfaaDoorJ1
import Derived.Test.YtnenlkojecicfaaDoorR0
import Derived.WalkSpells
import Derived.Deep.RegionHeld3
set_option linter.unusedVariables false
set_option linter.unusedSimpArgs false
namespace Go.Proofs.YtnenlkojecicfaaDoor.V
open Go.RowKit Go.Proofs.YtnenlkojecicfaaDoorW.PrintWords Go.Proofs.YtnenlkojecicfaaDoor.P

def uidsR (S : List S74) : List Int := S.map (·.f0)
theorem RV.new (B : Nat) (w : World) (hB : B ≤ w.heap.size) : RV B (w.alloc (.cells #[.slice none 0 0, .int .i64 0] 80)) w.heap.size (.slice none 0 0) [] 0 :=
  ⟨hB, heap_alloc_new w _, OwnRow.none_ _ _ _ _ _⟩
set_option maxRecDepth 100000 in
set_option maxHeartbeats 2000000 in
theorem rnew_calls (B : Nat) (A : Option Addr) (c : Nat) (ms : List S43) (w : World) (hB : B ≤ w.heap.size) (hr : Mails B w A ms.length ms) (hsm : ∀ m ∈ ms, ∀ f ∈ m.f1, f.size ≤ 140737488351232) (hlen : ms.length ≤ 1000) :
    Calls Tryd.prog 19 #[.slice A ms.length c] w fun e w' => ∃ (g : Nat) (lv : Value), e = .returned (.pointer (some ⟨g, 0, none⟩)) ∧
      RV B w' g lv (growF [] 0 (risingF [] ms)).1 (growF [] 0 (risingF [] ms)).2 ∧ Aside0 (∀ k, VX g lv k → w.heap.size ≤ k) ∧ Below w.heap.size w w' := by
  have HBB := Aside0.mk hB
  have HR := Aside0.mk hr
  clear hB hr
  go_enter Tryd.func19, Tryd.ntmps19
  go_wp2_with fail
  refine (rrising_calls B A c ms _ (by have := HBB.out; simp; omega) (HR.out.below (below_alloc (Below.refl _ _) _)) (by omega)).mono ?_
  rintro e w1 ⟨v, rfl, ho1, hb1⟩
  have HV := Aside0.mk ((RV.new B w HBB.out).below hb1)
  have HB1 := Aside0.mk hb1
  obtain ⟨Av, cv, hv, hm1⟩ := ho1.mails
  subst hv
  have HM1 := Aside0.mk hm1
  clear ho1 hm1 hb1
  go_wp2_with fail
  refine (rgrow_calls B w.heap.size (.slice none 0 0) [] 0 Av cv (risingF [] ms) w1 (by have := HBB.out; have := HB1.out.size; simp at this; omega) HV.out HM1.out (rising_small hsm) (by have := rising_len ms; simp; omega)).mono ?_
  rintro e w2 ⟨lv', rfl, hv2, ht2, hat2⟩
  have HV2 := Aside0.mk hv2
  have HT2 := Aside0.mk ht2
  have HA2 := Aside0.mk hat2
  clear hv2 ht2 hat2
  go_wp2
  go_ret
  have hsz : w.heap.size < w1.heap.size := by have := HB1.out.size; simp at this; omega
  have hnew : ∀ k, VX w.heap.size lv' k → w.heap.size ≤ k := by
    intro k hk
    rcases hk with rfl | hk
    · exact Nat.le_refl _
    · rcases HA2.out with h | ⟨b, hb, hle⟩
      · rw [h] at hk; simp [Value.ownBlock] at hk
      · rw [hb] at hk; injection hk with hk; omega
  refine ⟨_, lv', rfl, HV2.out, ⟨hnew⟩, ?_⟩
  refine ((below_alloc (Below.refl _ _) _).trans (HB1.out.mono (by simp))).trans (HT2.out.below (fun k hk hx => ?_) (by omega))
  rcases hx with hx | hx
  · omega
  · simp [Value.ownBlock] at hx

section
variable {B g : Nat} {w : World} {lv : Value} {S : List S74} {top : Int}
set_option maxRecDepth 100000 in
set_option maxHeartbeats 2000000 in
theorem ruids_calls (hv : RV B w g lv S top) (hl : S.length ≤ 1000000) : Calls Tryd.prog 24 #[.pointer (some ⟨g, 0, none⟩)] w fun e w' => ∃ v : Value, e = .returned v ∧ IRow w' w.heap.size v (uidsR S) ∧ Below w.heap.size w w' := by
  have HV := Aside0.mk hv
  clear hv
  go_enter Tryd.func24, Tryd.ntmps24
  go_wp2
  go_loopw [3, 4] (fun v i wr => ∃ k : Nat, k ≤ S.length ∧ i = .int .i64 k ∧ Aside0 (IRow wr w.heap.size v (uidsR (S.take k))) ∧ Aside0 (Below w.heap.size w wr)) (fun _ i _ => S.length - (intOf i).toNat)
  case atStart => exact ⟨0, Nat.zero_le _, rfl, ⟨OwnRow.none_ _ _ _ _ _⟩, ⟨Below.refl _ _⟩⟩
  case round =>
    obtain ⟨k, hk, rfl, HO, HB⟩ := hrel
    have HW := Aside0.mk HB.out.size
    have HV2 := Aside0.mk (HV.out.below HB.out)
    obtain ⟨Al, cl, hlv, _⟩ := HV2.out.slice
    have hc0 := HV2.out.c0
    rw [hlv] at hc0
    have HLV := Lib.hid hlv
    clear hlv
    by_cases hlt : k < S.length
    · have hp : S[k]? = some (S[k]) := List.getElem?_eq_getElem hlt
      obtain ⟨b, cap, v2, hv2, hc, hc2, hf2, _⟩ := place_at HV2.out.row hp
      have hA : Al = some ⟨b, 0, none⟩ := by
        rw [HLV.out] at hv2
        injection hv2
      subst hA
      clear hv2
      obtain ⟨p, hpp⟩ : ∃ p, p = S[k] := ⟨_, rfl⟩
      rw [← hpp] at hc hf2 hp
      have HP := Lib.hid hp
      have hul : (uidsR (S.take k)).length ≤ 1000000 := by simp [uidsR]; omega
      clear hpp hp
      go_wp2_with (at_builtin; (refine app_plain (fun x cs => cs = [Value.int .i64 x]) w.heap.size rfl (.tmp 14) (.tmp 23) 34 3 _ 1 8 rfl Tryd.underlying34 info3 rfl (by decide) (by omega) _ (uidsR (S.take k)) p.f0 [.int .i64 p.f0] rfl _ rfl ?hm rfl rfl (by intro u hu; rw [List.mem_singleton.1 hu]; rfl) ?ho ?hb ?hl ?_); (case hm => rfl); (case ho => exact HO.out); (case hb => exact HW.out); (case hl => omega); intro v1 w3 ho1 ht3 hat3)
      go_roundw
      case measure => simp [intOf]; omega
      case rel =>
        refine ⟨k + 1, by omega, by go_num, ⟨?_⟩, ⟨HB.out.trans (ht3.below (fun j hj he => by have := orow_base HO.out j he; omega) HW.out)⟩⟩
        have e : uidsR (S.take (k + 1)) = uidsR (S.take k) ++ [p.f0] := by unfold uidsR; rw [take_snoc HP.out, List.map_append]; rfl
        rw [e]
        exact ho1
    · have hks : k = S.length := by omega
      subst hks
      go_wp2
      go_ret
      refine ⟨_, rfl, ?_, HB.out⟩
      have := HO.out
      rwa [List.take_length] at this
set_option maxRecDepth 100000 in
set_option maxHeartbeats 2000000 in
theorem rplace_calls (hv : RV B w g lv S top) (hl : S.length ≤ 1000000) (hs : S.Pairwise (fun p q => p.f0 < q.f0)) (n : Int) :
    Calls Tryd.prog 28 #[.pointer (some ⟨g, 0, none⟩), .int .i64 n] w fun e w' => e = .returned (.int .i64 (placeB S n)) ∧ w = w' := by
  obtain ⟨Al, cl, hlv, _⟩ := hv.slice
  have hc0 := hv.c0
  rw [hlv] at hc0
  have HV := Aside0.mk hv
  have HS := Aside0.mk hs
  have HLV := Lib.hid hlv
  clear hv hs hlv
  go_enter Tryd.func28, Tryd.ntmps28
  go_wp2
  go_loop [5] (fun i => ∃ k : Nat, k ≤ S.length ∧ i = .int .i64 k ∧ Aside0 (∀ p ∈ S.take k, p.f0 ≠ n)) (fun i => S.length - (intOf i).toNat)
  case atStart => exact ⟨0, Nat.zero_le _, rfl, ⟨by simp⟩⟩
  case round =>
    obtain ⟨k, hk, rfl, HN⟩ := hrel
    by_cases hlt : k < S.length
    · obtain ⟨p, hp⟩ : ∃ p, S[k]? = some p := ⟨_, List.getElem?_eq_getElem hlt⟩
      obtain ⟨b, cap, v2, hv2, hc, hc2, hf2, _⟩ := place_at HV.out.row hp
      have hA : Al = some ⟨b, 0, none⟩ := by
        rw [HLV.out] at hv2
        injection hv2
      subst hA
      have HP := Lib.hid hp
      clear hv2 hp hc2 hf2
      obtain ⟨u, hu⟩ : ∃ u, u = p.f0 := ⟨_, rfl⟩
      rw [← hu] at hc
      have HU := Lib.hid hu
      clear hu
      by_cases he : u = n
      · subst he
        go_wp2
        go_ret
        refine ⟨?_, rfl⟩
        rw [HU.out, placeB_at HS.out HP.out]
        rfl
      · have heb : (u == n) = false := by simpa using he
        have HE := Lib.hid he
        clear he
        go_wp2
        go_round
        case measure => simp [intOf]; omega
        case rel =>
          refine ⟨k + 1, by omega, by go_num, ⟨fun q hq => ?_⟩⟩
          rw [take_snoc HP.out] at hq
          rcases List.mem_append.1 hq with hq | hq
          · exact HN.out q hq
          · rw [List.mem_singleton.1 hq, ← HU.out]; exact HE.out
    · have hks : k = S.length := by omega
      subst hks
      go_wp2
      go_ret
      refine ⟨?_, rfl⟩
      have := HN.out
      rw [List.take_length] at this
      rw [placeB_none this]
      rfl
end
/-- What find gives. -/
def FindAt (l : List S43) (u : Int) (q : Int) : Prop := (q = -1 ∧ ∀ m ∈ l, m.f0 ≠ u) ∨ ∃ (k : Nat) (m : S43), q = k ∧ k < l.length ∧ l[k]? = some m ∧ m.f0 = u
theorem FindAt.there {l : List S43} {u q : Int} (h : FindAt l u q) : decide (q < 0) = !thereF l u := by
  rcases h with ⟨rfl, h⟩ | ⟨k, m, rfl, _, hm, e⟩
  · have : thereF l u = false := by
      cases ht : thereF l u with
      | false => rfl
      | true => 
        unfold thereF at ht
        obtain ⟨m, hm, e⟩ := List.any_eq_true.1 ht
        exact absurd (by simpa using e) (h m hm)
    rw [this]
    rfl
  · have : thereF l u = true := by
      unfold thereF
      exact List.any_eq_true.2 ⟨m, List.mem_of_getElem? hm, by simpa using e⟩
    rw [this]
    simp
set_option maxRecDepth 100000 in
set_option maxHeartbeats 2000000 in
theorem rfind_calls {B : Nat} {A : Option Addr} {c : Nat} {l : List S43} {w : World} (hr : Mails B w A l.length l) (hl : l.length ≤ 1000000) (u : Int) :
    Calls Tryd.prog 46 #[.slice A l.length c, .int .i64 u] w fun e w' => ∃ q : Int, e = .returned (.int .i64 q) ∧ FindAt l u q ∧ w = w' := by
  have HR := Aside0.mk hr
  clear hr
  go_enter Tryd.func46, Tryd.ntmps46
  go_wp2
  go_loop [5] (fun i => ∃ k : Nat, k ≤ l.length ∧ i = .int .i64 k ∧ Aside0 (∀ m ∈ l.take k, m.f0 ≠ u)) (fun i => l.length - (intOf i).toNat)
  case atStart => exact ⟨0, Nat.zero_le _, rfl, ⟨by simp⟩⟩
  case round =>
    obtain ⟨k, hk, rfl, HN⟩ := hrel
    by_cases hlt : k < l.length
    · obtain ⟨ad, vf, x, rfl, hx, ⟨h0, _⟩, _⟩ := mail_at HR.out k hlt
      have HX := Lib.hid hx
      obtain ⟨t, ht⟩ : ∃ t, t = x.f0 := ⟨_, rfl⟩
      rw [← ht] at h0
      have HT := Lib.hid ht
      clear hx ht
      by_cases he : t = u
      · subst he
        go_wp2
        go_ret
        exact ⟨k, rfl, .inr ⟨k, x, rfl, hlt, HX.out, HT.out.symm⟩, rfl⟩
      · have heb : (t == u) = false := by simpa using he
        have HE := Lib.hid he
        clear he
        go_wp2
        go_round
        case measure => simp [intOf]; omega
        case rel =>
          refine ⟨k + 1, by omega, by go_num, ⟨fun q hq => ?_⟩⟩
          rw [take_snoc HX.out] at hq
          rcases List.mem_append.1 hq with hq | hq
          · exact HN.out q hq
          · rw [List.mem_singleton.1 hq, ← HT.out]; exact HE.out
    · have hks : k = l.length := by omega
      subst hks
      go_wp2
      go_ret
      have := HN.out
      rw [List.take_length] at this
      exact ⟨-1, rfl, .inl ⟨rfl, this⟩, rfl⟩
set_option maxRecDepth 100000 in
set_option maxHeartbeats 4000000 in
theorem rnote_calls (B g : Nat) (lv : Value) (S : List S74) (top : Int) (n : Int) (A : Option Addr) (c : Nat) (fs : List ByteArray) (w : World) (hv : RV B w g lv S top) (hl : S.length ≤ 1000000) (hs : S.Pairwise (fun p q => p.f0 < q.f0))
    (hr : Rd [9] B Kd.string w A fs.length fs) (hsm : ∀ f ∈ fs, f.size ≤ 140737488351232) :
    Calls Tryd.prog 21 #[.pointer (some ⟨g, 0, none⟩), .int .i64 n, .slice A fs.length c] w fun e w' => e = .returned (.tuple #[]) ∧ RV B w' g lv (noteS S n fs) top ∧ Tr (VX g lv) w w' := by
  have HV := Aside0.mk hv
  have HR := Aside0.mk hr
  have HS := Aside0.mk hs
  clear hv hr hs
  go_enter Tryd.func21, Tryd.ntmps21
  go_wp2_with fail
  refine (rplace_calls HV.out hl HS.out n).mono ?_
  rintro e w1 ⟨rfl, rfl⟩
  by_cases hx : ∃ p ∈ S, p.f0 = n
  · obtain ⟨p, hp, rfl⟩ := hx
    obtain ⟨k, hk⟩ := List.getElem?_of_mem hp
    rw [placeB_at HS.out hk]
    have hkl : k < S.length := (List.getElem?_eq_some_iff.1 hk).1
    obtain ⟨bl, cap, vpf, hlv2, hpc, hpv, _, hcap, _⟩ := place_at HV.out.row hk
    have HK := Lib.hid hk
    clear hk hp hpc
    subst hlv2
    have hc0 := HV.out.c0
    have hfz := HV.out.frow (k * 2 + 1)
    have HVd := Aside0.mk (HV.out.below (below_drew (Below.refl _ _)))
    have HRd := Aside0.mk (HR.out.below (below_drew (Below.refl _ _)))
    have hkw : IntKind.i64.wrap (k : Int) = (k : Int) := by rw [IntKind.wrap_i64]; omega
    have HGB : Aside0 (g ≠ bl) := ⟨fun e => HV.out.ne_own (by decide) (by rw [e]; rfl)⟩
    have hk2 : (0 : Int) ≤ (k : Int) := by omega
    have hk3 : (k : Int) < (S.length : Int) := by omega
    go_upto_region 2 with fail
    go_region_held3 (fun w' => w'.cell? ⟨g, 0, none⟩ = some (.slice (some ⟨bl, 0, none⟩) S.length cap)) (first | exact hc0 | exact p2 | exact p5 _)
      (first | (go_at_call 45; refine (rflags_calls _ _ fs _ HRd.out.now hsm).mono ?_; rintro e w2 ⟨vf, rfl, hs1, hb2⟩; obtain ⟨Avf, cvf, hvv, _⟩ := OwnRow.slice_ hs1; subst hvv; have p2 : w2.cell? ⟨g, 0, none⟩ = some (.slice (some ⟨bl, 0, none⟩) S.length cap) := pw_cell_below hb2 hc0; have p3 : w2.cell? ⟨bl, k * 2 + 1, none⟩ = some vpf := pw_cell_below hb2 hpv; have p4 : w2.frozen? ⟨bl, k * 2 + 1, none⟩ = false := (HVd.out.below hb2).frow _; have p5 : ∀ u, (w2.setCell ⟨bl, k * 2 + 1, none⟩ u).cell? ⟨g, 0, none⟩ = some (.slice (some ⟨bl, 0, none⟩) S.length cap) := fun u => Tr.cell (Tr.setCell (Tr.refl (fun i => i = bl) w2) (.inl rfl) u) p2 (fun e => HGB.out e)))
    all_goals
      go_wp2
      go_end0
      obtain ⟨hv8, ht8⟩ := (HVd.out.below hb2).setFlags rfl HK.out (hs1.fl B) (by decide) (by decide)
      refine ⟨rfl, ?_, ?_⟩
      · rw [noteS_at HS.out HK.out]
        exact hv8
      · exact ((Tr.refl (VX g (.slice (some ⟨bl, 0, none⟩) S.length cap)) w).drew.then_below hb2).trans ht8 (fun i _ h => h)
  · have h : ∀ p ∈ S, p.f0 ≠ n := fun p hp e => hx ⟨p, hp, e⟩
    rw [placeB_none h]
    have H := Aside0.mk h
    clear hx h
    go_wp2
    go_end0
    exact ⟨rfl, by rw [noteS_none H.out]; exact HV.out, Tr.refl _ _⟩
end Go.Proofs.YtnenlkojecicfaaDoor.V


namespace Go.Proofs.YtnenlkojecicfaaDoor.V
open Go.RowKit Go.Proofs.YtnenlkojecicfaaDoorW.PrintWords Go.Proofs.YtnenlkojecicfaaDoor.P

structure RsAt (B : Nat) (w0 : World) (g : Nat) (lv0 : Value) (Av : Option Addr) (l : List S43) (w : World) (lv : Value) (S : List S74) (top : Int) (vo : Value) (O : List S65) : Prop where
  hb : B ≤ w0.heap.size
  view : RV B w g lv S top
  out : TRow B w w0.heap.size vo O
  mails : Mails B w Av l.length l
  tr : Tr (VX g lv0) w0 w
  own : lv.ownBlock = lv0.ownBlock ∨ ∃ b, lv.ownBlock = some b ∧ w0.heap.size ≤ b
section
variable {B g : Nat} {w0 w w1 : World} {lv0 lv lv1 vo vo1 : Value} {Av : Option Addr} {l : List S43} {S S1 : List S74} {top top1 : Int} {O O1 : List S65}
/-- The view turns; nothing else. -/
theorem RsAt.view_to (h : RsAt B w0 g lv0 Av l w lv S top vo O) (ht : Tr (VX g lv) w w1) (hv : RV B w1 g lv1 S1 top1) (ho : lv1.ownBlock = lv.ownBlock ∨ ∃ b, lv1.ownBlock = some b ∧ w.heap.size ≤ b) :
    RsAt B w0 g lv0 Av l w1 lv1 S1 top1 vo O := by
  have s9 : SK [9] B w w1 := h.view.sk ht (by simp) (by simp)
  exact ⟨h.hb, hv, h.out.step ht (view_apart h.view h.out (by decide) (by decide)) s9, h.mails.step (h.view.sk ht (by simp) (by simp)), h.tr.trans ht (fun i hi hx => VX_old h.own hi hx), own_chain h.own ho h.tr.size⟩
/-- What is told grows; nothing else turns. -/
theorem RsAt.out_to (h : RsAt B w0 g lv0 Av l w lv S top vo O) (ht : Tr (fun k => vo.ownBlock = some k) w w1) (ho : TRow B w1 w0.heap.size vo1 O1) :
    RsAt B w0 g lv0 Av l w1 lv S top vo1 O1 := by
  have sT : ∀ T : List Nat, 65 ∉ T → SK T B w w1 := fun T hT => SK.of_tr ht (fun k hk => by
    obtain ⟨h1, c, hc⟩ := orow_typed h.out k hk
    exact not_sol (Nat.le_trans h.hb h1) hc hT)
  have s9 : SK [9] B w w1 := sT _ (by simp)
  exact ⟨h.hb, h.view.step ht (fun k hx hk => view_apart h.view h.out (by decide) (by decide) k hk hx) s9, ho, h.mails.step (sT _ (by simp)), h.tr.trans ht (fun i hi hk => absurd (orow_base h.out i hk) (by omega)), h.own⟩
theorem RsAt.below (h : RsAt B w0 g lv0 Av l w lv S top vo O) (hb : Below w.heap.size w w1) : RsAt B w0 g lv0 Av l w1 lv S top vo O :=
  ⟨h.hb, h.view.below hb, h.out.step (Tr.of_below hb (fun _ => False)) (fun _ _ hf => hf) (SK.of_below hb), h.mails.below hb, h.tr.then_below hb, h.own⟩
theorem RsAt.oB (h : RsAt B w0 g lv0 Av l w lv S top vo O) : w0.heap.size ≤ w.heap.size := h.tr.size
end
/-- append(append([]Place{}, v[:j]...), v[j+1:]...): what the two appends do. -/
theorem take_out {B bl n cap j : Nat} {W : World} {S : List S74} (hB : B ≤ W.heap.size) (ho : OwnRow (PlaceAt B W) 84 2 W B (.slice (some ⟨bl, 0, none⟩) n cap) S) (hn : n = S.length) (hj : j < S.length) (hl : S.length ≤ 1000000) :
    ∃ v1 w1 v2 w2, (Builtin.append_ #[78, 78] 78 #[.slice (some ⟨W.heap.size, 0, none⟩) 0 0, .slice (some ⟨bl, 0, none⟩) j cap]).run Tryd.prog (W.alloc (.cells #[] 84)) = .ok v1 w1 ∧
      (Builtin.append_ #[78, 78] 78 #[v1, .slice (if cap = j + 1 then some ⟨bl, 0, none⟩ else some ⟨bl, (j + 1) * 2, none⟩) (n - (j + 1)) (cap - (j + 1))]).run Tryd.prog w1 = .ok v2 w2 ∧
      Below W.heap.size W w1 ∧ Below W.heap.size W w2 ∧ OwnRow (PlaceAt B w2) 84 2 w2 B v2 (S.eraseIdx j) ∧ ∃ b, v2.ownBlock = some b ∧ W.heap.size ≤ b := by
  subst hn
  have hlc : S.length ≤ cap := by
    obtain ⟨A, c, e, hc⟩ := OwnRow.slice_ ho
    injection e with _ _ e
    omega
  have hbW : Below W.heap.size W (W.alloc (.cells #[] 84)) := below_alloc (Below.refl _ _) _
  have ho1 : OwnRow (PlaceAt B (W.alloc (.cells #[] 84))) 84 2 (W.alloc (.cells #[] 84)) B (.slice (some ⟨bl, 0, none⟩) S.length cap) S := (OwnRow.below ho hbW).imp_ (fun _ _ hp => hp.step (SK.of_below hbW))
  have hr1 : ReadsRow (PlaceAt B (W.alloc (.cells #[] 84))) 2 (W.alloc (.cells #[] 84)) (some ⟨bl, 0, none⟩) S.length S := by
    obtain ⟨A, c, e, _, hr⟩ := OwnRow.reads ho1
    injection e with e _ _
    subst e
    exact hr
  have hempty : OwnRow (PlaceAt B (W.alloc (.cells #[] 84))) 84 2 (W.alloc (.cells #[] 84)) W.heap.size (.slice (some ⟨W.heap.size, 0, none⟩) 0 0) [] :=
    orow_built (ps := []) (cs := []) ⟨rfl, fun j p h => by simp at h⟩ (Nat.le_refl _) (by simp)
  have hsz : W.heap.size ≤ (W.alloc (.cells #[] 84)).heap.size := by simp
  obtain ⟨v1, w1, hx1, hown1, hg1, hat1⟩ := run_rows (P := Tryd.prog) (W := W.alloc (.cells #[] 84)) 78 78 _ 32 place_one Tryd.underlying78 info84 rfl (by decide) (by decide) _ [] (S.take j) _ j cap hempty (rows_take hr1 (by omega)) hsz (by simp; omega)
  have hbl : bl < W.heap.size := by
    obtain ⟨_, cells, hc⟩ := orow_typed ho bl rfl
    exact lt_of_block hc
  have hb1 : Below W.heap.size W w1 := ⟨hg1.os, hg1.tape, hg1.output, by have := hg1.size; simp at this; omega, fun k hk => by
    rw [hg1.block k (by simp; omega) (by simp [Value.ownBlock]; omega)]
    exact hbW.block k hk⟩
  have hbk1 : ∃ b, v1.ownBlock = some b ∧ W.heap.size ≤ b := by
    rcases hat1 with h | ⟨b, h, hle⟩
    · exact ⟨W.heap.size, by rw [h]; rfl, Nat.le_refl _⟩
    · exact ⟨b, h, by simp at hle; omega⟩
  have hown1' : OwnRow (PlaceAt B w1) 84 2 w1 W.heap.size v1 (S.take j) := by
    refine (show OwnRow (PlaceAt B (W.alloc (.cells #[] 84))) 84 2 w1 W.heap.size v1 (S.take j) from hown1).imp_ (fun _ _ hp => hp.step ?_)
    obtain ⟨inner, hin, _⟩ := hempty
    exact SK.of_grown hg1 hin hB (by decide)
  have hr2 : ReadsRow (PlaceAt B w1) 2 w1 (some ⟨bl, 0, none⟩) S.length S := by
    have ho2 : OwnRow (PlaceAt B w1) 84 2 w1 B (.slice (some ⟨bl, 0, none⟩) S.length cap) S := (OwnRow.below ho hb1).imp_ (fun _ _ hp => hp.step (SK.of_below hb1))
    obtain ⟨A, c, e, _, hr⟩ := OwnRow.reads ho2
    injection e with e _ _
    subst e
    exact hr
  obtain ⟨v2, w2, hx2, hown2, hg2, hat2⟩ := run_rows (P := Tryd.prog) (W := w1) 78 78 _ 32 place_one Tryd.underlying78 info84 rfl (by decide) (by decide) v1 (S.take j) (S.drop (j + 1)) _ (S.length - (j + 1)) (cap - (j + 1)) hown1' (rows_drop (n := j + 1) hr2 (by omega) hlc) hb1.size (by rw [List.length_take]; omega)
  refine ⟨v1, w1, v2, w2, hx1, hx2, hb1, ?_, ?_, ?_⟩
  · refine ⟨hg2.os.trans hb1.os, hg2.tape.trans hb1.tape, hg2.output.trans hb1.output, Nat.le_trans hb1.size hg2.size, fun k hk => ?_⟩
    rw [hg2.block k (Nat.lt_of_lt_of_le hk hb1.size) (by obtain ⟨b, hb, hle⟩ := hbk1; rw [hb]; intro e; injection e with e; omega)]
    exact hb1.block k hk
  · rw [List.eraseIdx_eq_take_drop_succ]
    refine orow_low ((show OwnRow (PlaceAt B w1) 84 2 w2 W.heap.size v2 (S.take j ++ S.drop (j + 1)) from hown2).imp_ (fun _ _ hp => hp.step ?_)) hB
    obtain ⟨inner, hin, _⟩ := hown1'
    exact SK.of_grown hg2 hin hB (by decide)
  · rcases hat2 with h | ⟨b, h, hle⟩
    · rw [h]; exact hbk1
    · exact ⟨b, h, Nat.le_trans hb1.size hle⟩
theorem same16_calls {B : Nat} {w : World} {v1 v2 : Value} {xs ys : List ByteArray} (h1 : Fl B w v1 xs) (h2 : Fl B w v2 ys) (hl : xs.length ≤ 1000000) :
    Calls Tryd.prog 47 #[v1, v2] w fun e w' => e = .returned (.bool (decide (xs = ys))) ∧ Below w.heap.size w w' := by
  obtain ⟨A1, c1, rfl, l1, r1⟩ := h1
  obtain ⟨A2, c2, rfl, l2, r2⟩ := h2
  refine (haversackref16_Same.calls _ A1 c1 xs A2 c2 ys _ w r1.now l1 r2.now l2 (same16_eq xs ys hl)).mono ?_
  rintro e w' ⟨he, hd⟩
  exact ⟨he, hd.below⟩
end Go.Proofs.YtnenlkojecicfaaDoor.V


namespace Go.Proofs.YtnenlkojecicfaaDoor.V
open Go.RowKit Go.Proofs.YtnenlkojecicfaaDoorW.PrintWords Go.Proofs.YtnenlkojecicfaaDoor.P

theorem clone_row {B n c : Nat} {W : World} {A : Option Addr} {S : List S74} (hB : B ≤ W.heap.size) (ho : OwnRow (PlaceAt B W) 74 2 W B (.slice A n c) S) (hl : S.length ≤ 1000000) :
    ∃ v1 w1, (Builtin.append_ #[66, 66] 66 #[.slice (some ⟨W.heap.size, 0, none⟩) 0 0, .slice A n c]).run Tryd.prog (W.alloc (.cells #[] 74)) = .ok v1 w1 ∧
      Below W.heap.size W w1 ∧ OwnRow (PlaceAt B w1) 74 2 w1 W.heap.size v1 S := by
  have hbW : Below W.heap.size W (W.alloc (.cells #[] 74)) := below_alloc (Below.refl _ _) _
  have ho1 : OwnRow (PlaceAt B (W.alloc (.cells #[] 74))) 74 2 (W.alloc (.cells #[] 74)) B (.slice A n c) S := (OwnRow.below ho hbW).imp_ (fun _ _ hp => hp.step (SK.of_below hbW))
  have hr1 : ReadsRow (PlaceAt B (W.alloc (.cells #[] 74))) 2 (W.alloc (.cells #[] 74)) A n S := by
    obtain ⟨A', c', e, _, hr⟩ := OwnRow.reads ho1
    injection e with e1 e2 _
    subst e1 e2
    exact hr
  have hempty : OwnRow (PlaceAt B (W.alloc (.cells #[] 74))) 74 2 (W.alloc (.cells #[] 74)) W.heap.size (.slice (some ⟨W.heap.size, 0, none⟩) 0 0) [] :=
    orow_built (ps := []) (cs := []) ⟨rfl, fun j p h => by simp at h⟩ (Nat.le_refl _) (by simp)
  have hsz : W.heap.size ≤ (W.alloc (.cells #[] 74)).heap.size := by simp
  have hn : n = S.length := hr1.1.symm
  obtain ⟨v1, w1, hx1, hown1, hg1, hat1⟩ := run_rows (P := Tryd.prog) (W := W.alloc (.cells #[] 74)) 66 66 _ 32 place_one Tryd.underlying66 info74 rfl (by decide) (by decide) _ [] S A n c hempty hr1 hsz (by simp; omega)
  have hb1 : Below W.heap.size W w1 := ⟨hg1.os, hg1.tape, hg1.output, by have := hg1.size; simp at this; omega, fun k hk => by
    rw [hg1.block k (by simp; omega) (by simp [Value.ownBlock]; omega)]
    exact hbW.block k hk⟩
  refine ⟨v1, w1, hx1, hb1, ?_⟩
  refine (show OwnRow (PlaceAt B (W.alloc (.cells #[] 74))) 74 2 w1 W.heap.size v1 S from hown1).imp_ (fun _ _ hp => hp.step ?_)
  obtain ⟨inner, hin, _⟩ := hempty
  exact SK.of_grown hg1 hin hB (by decide)
set_option maxRecDepth 100000 in
set_option maxHeartbeats 2000000 in
theorem pclone_calls {B : Nat} {W : World} {v : Value} {S : List S74} (hB : B ≤ W.heap.size) (ho : OwnRow (PlaceAt B W) 74 2 W B v S) (hl : S.length ≤ 1000000) :
    Calls Tryd.prog 44 #[v] W fun e w' => ∃ v' : Value, e = .returned v' ∧ OwnRow (PlaceAt B w') 74 2 w' W.heap.size v' S ∧ Below W.heap.size W w' := by
  obtain ⟨A, c, rfl, hc⟩ := OwnRow.slice_ ho
  obtain ⟨v1, w1, hx, hb1, ho1⟩ := clone_row hB ho hl
  have HX := Aside0.mk hx
  have HB1 := Aside0.mk hb1
  have HO1 := Aside0.mk ho1
  have HO := Aside0.mk ho
  clear hx hb1 ho1 ho
  have hnil := @Lib.run_eql_slice_nil Tryd.prog
  rcases A with _ | ad
  · have hS : S = [] := by
      rcases Nat.eq_zero_or_pos S.length with h | h
      · exact List.length_eq_zero_iff.1 h
      · obtain ⟨A, c', e, _, hr⟩ := OwnRow.reads HO.out
        obtain ⟨ad, he, _⟩ := hr.2.2 h
        injection e with e _ _
        rw [← e] at he
        cases he
    have HS := Lib.hid hS
    clear hS
    go_enter Tryd.func44, Tryd.ntmps44
    go_wp2_with fail
    go_ret
    exact ⟨_, rfl, by rw [HS.out]; exact OwnRow.none_ _ _ _ _ _, Below.refl _ _⟩
  · go_enter Tryd.func44, Tryd.ntmps44
    go_wp2_with (at_builtin; (refine rows_plain rfl (.tmp 5) (.tmp 6) 66 rfl rfl rfl HX.out ?_))
    go_ret
    exact ⟨_, rfl, HO1.out, HB1.out⟩
set_option maxRecDepth 100000 in
set_option maxHeartbeats 4000000 in
theorem copy_calls {B g : Nat} {w : World} {lv : Value} {S : List S74} {top : Int} (hv : ViewAt 70 74 B w g lv S top) (hl : S.length ≤ 1000000) :
    Calls Tryd.prog 20 #[.pointer (some ⟨g, 0, none⟩)] w fun e w' => ∃ (g' : Nat) (lv' : Value), e = .returned (.pointer (some ⟨g', 0, none⟩)) ∧ ViewAt 70 74 B w' g' lv' S top ∧ w.heap.size ≤ g' ∧ (∀ k, lv'.ownBlock = some k → w.heap.size ≤ k) ∧ Below w.heap.size w w' := by
  have HV := Aside0.mk hv
  have hc0 := hv.c0
  have hc1 := hv.c1
  obtain ⟨Al, cl, hlv, _⟩ := hv.slice
  subst hlv
  have HVd := Aside0.mk (hv.below (below_drew (Below.refl _ _)))
  have HSZ : Aside0 (B ≤ w.drew.heap.size) := ⟨Nat.le_of_lt (Nat.lt_of_le_of_lt hv.hB (HVd.out.lt g (.inl rfl)))⟩
  clear hv
  go_enter Tryd.func20, Tryd.ntmps20
  go_wp2_with fail
  go_region_held3 (fun w' => w'.cell? ⟨g, 0, none⟩ = some (.slice Al S.length cl) ∧ w'.cell? ⟨g, 1, none⟩ = some (.int .i64 top)) (first | exact ⟨hc0, hc1⟩ | exact p2 | exact p3 _)
    (first | (go_at_call 44; refine (pclone_calls HSZ.out HVd.out.row hl).mono ?_; rintro e w2 ⟨v2, rfl, ho2, hb2⟩; obtain ⟨A2, c2, hv2, _⟩ := OwnRow.slice_ ho2; subst hv2; have p2 : w2.cell? ⟨g, 0, none⟩ = some (.slice Al S.length cl) ∧ w2.cell? ⟨g, 1, none⟩ = some (.int .i64 top) := ⟨pw_cell_below hb2 hc0, pw_cell_below hb2 hc1⟩; have p3 : ∀ o, (w2.alloc o).cell? ⟨g, 0, none⟩ = some (.slice Al S.length cl) ∧ (w2.alloc o).cell? ⟨g, 1, none⟩ = some (.int .i64 top) := fun o => ⟨pw_cell_below (below_alloc (Below.refl _ _) o) p2.1, pw_cell_below (below_alloc (Below.refl _ _) o) p2.2⟩))
  all_goals
    go_wp2
    go_ret
    have hsz : w.heap.size ≤ w2.heap.size := hb2.size
    have hB2 : B ≤ w2.heap.size := Nat.le_trans HSZ.out hsz
    have hbl : Below w2.heap.size w2 (w2.alloc (.cells #[.slice A2 S.length c2, .int .i64 top] 70)) := below_alloc (Below.refl _ _) _
    refine ⟨w2.heap.size, .slice A2 S.length c2, rfl, ⟨hB2, heap_alloc_new w2 _, ?_⟩, hsz, fun k hk => orow_base ho2 k hk, ?_⟩
    · exact orow_low ((OwnRow.below ho2 hbl).imp_ (fun _ _ hp => hp.step (SK.of_below hbl))) HSZ.out
    · exact (show Below w.heap.size w w2 from ⟨hb2.os, hb2.tape, hb2.output, hb2.size, hb2.block⟩).trans (hbl.mono hsz)
end Go.Proofs.YtnenlkojecicfaaDoor.V
