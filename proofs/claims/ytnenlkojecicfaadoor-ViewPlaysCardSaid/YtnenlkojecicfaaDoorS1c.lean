/- (*View).Sync: a message goes into the two maps. (*View).Sync: what stands in memory between its steps. A view's place gets other flags, in place. -/
import Derived.Test.YtnenlkojecicfaaDoorS0
set_option linter.unusedVariables false
set_option linter.unusedSimpArgs false
namespace Go.Proofs.YtnenlkojecicfaaDoor.V
open Go.RowKit Go.Proofs.YtnenlkojecicfaaDoorW.PrintWords Go.Proofs.YtnenlkojecicfaaDoor.P

theorem Tr.cell {X : Nat → Prop} {w w1 : World} (h : Tr X w w1) {a : Addr} {v : Value} (hc : w.cell? a = some v) (hX : ¬ X a.block) : w1.cell? a = some v := by
  rw [← hc]
  exact World.cell?_of_block (h.keep a.block (World.block_lt_of_cell? w _ hc) hX)
theorem rise_fresh {l : List S43} (h : Rise l) {k : Nat} {x : S43} (hx : l[k]? = some x) : ∀ m ∈ l.take k, m.f0 ≠ x.f0 := by
  intro m hm
  obtain ⟨j, hj⟩ := List.getElem?_of_mem hm
  obtain ⟨hk, rfl⟩ := List.getElem?_eq_some_iff.1 hx
  have hjk : j < k := by
    have := (List.getElem?_eq_some_iff.1 hj).1
    simp at this
    omega
  rw [List.getElem?_take, if_pos hjk] at hj
  obtain ⟨hj1, rfl⟩ := List.getElem?_eq_some_iff.1 hj
  have := List.pairwise_iff_getElem.1 h.1 j k hj1 hk hjk
  omega
theorem take_snoc {α : Type} {l : List α} {k : Nat} {x : α} (hx : l[k]? = some x) : l.take (k + 1) = l.take k ++ [x] := by
  obtain ⟨hk, rfl⟩ := List.getElem?_eq_some_iff.1 hx
  exact List.take_succ_eq_append_getElem hk
theorem fill {B b8 b9 k : Nat} {l : List S43} {x : S43} {w2 : World} {vf : Value} (hF : FMap B w2 b8 (l.take k)) (hT : TMap w2 b9 (l.take k)) (hx : l[k]? = some x) (hR : Rise l) (hw : (Lit.int .i64 x.f0).wf = true)
    (h8 : B ≤ b8) (h9 : B ≤ b9) (hne : b8 ≠ b9) (hfl : Fl B w2 vf (flagsF x.f1)) :
    ∃ st w3 w4 w5, (Instr.mapEntry 71 (.map (some b8)) (.int .i64 x.f0)).run Tryd.prog w2 = .ok (.tuple #[.slice none 0 0, st]) w3 ∧
      (Instr.entryStore 71 (.map (some b8)) st vf).run Tryd.prog w3 = .ok () w4 ∧
      (Instr.mapUpdate 29 (.map (some b9)) (.int .i64 x.f0) (.bool true)).run Tryd.prog w4 = .ok () w5 ∧
      Tr (fun k => k = b8) w2 w3 ∧ Tr (fun k => k = b8) w2 w4 ∧ Tr (fun k => k = b8 ∨ k = b9) w2 w5 ∧ SK [9, 43] B w2 w5 ∧
      FMap B w5 b8 (l.take (k + 1)) ∧ TMap w5 b9 (l.take (k + 1)) := by
  have hfr := rise_fresh hR hx
  have hF' := hF
  obtain ⟨kvs, hm, hl, hk⟩ := hF
  obtain ⟨st, w3, r3, m3, t3, hst⟩ := hm.entry Tryd.underlying71 zero31 hw (hF'.keys hfr hl hk)
  obtain ⟨w4, r4, m4, t4⟩ := hst w3 vf rfl
  have t24 : Tr (fun k => k = b8) w2 w4 := t3.trans t4 (fun i _ h => h)
  have hT4 : TMap w4 b9 (l.take k) := MapAt.step hT t24 (fun e => hne e.symm)
  obtain ⟨w5, r5, m5, t5⟩ := MapAt.update hT4 Tryd.underlying29 hw (fun p hp e => by
    obtain ⟨m, hm1, rfl⟩ := List.mem_map.1 hp
    exact hfr m hm1 e) (.bool true)
  have t25 : Tr (fun k => k = b8 ∨ k = b9) w2 w5 := (t24.mono (Y := fun k => k = b8 ∨ k = b9) (fun i _ h => .inl h)).trans t5 (fun i _ h => .inr h)
  have s24 : ∀ T, SK T B w2 w4 := fun T => SK.of_tr t24 (fun i hi => by subst hi; exact hm.not_sol h8)
  have s45 : ∀ T, SK T B w4 w5 := fun T => SK.of_tr t5 (fun i hi => by subst hi; exact MapAt.not_sol hT4 h9)
  have s25 : ∀ T, SK T B w2 w5 := fun T => (s24 T).trans (s45 T)
  refine ⟨st, w3, w4, w5, r3, r4, r5, t3, t24, t25, s25 _, ⟨kvs ++ [(x.f0, vf)], m4.step t5 hne, ?_, fun j m hj => ?_⟩, ?_⟩
  · rw [take_snoc hx, List.length_append, List.length_append, hl]
    rfl
  · rw [take_snoc hx] at hj
    rcases Nat.lt_or_ge j (l.take k).length with hlt | hge
    · rw [List.getElem?_append_left hlt] at hj
      obtain ⟨v, h1, h2⟩ := hk j m hj
      exact ⟨v, by rw [List.getElem?_append_left (by rw [hl]; exact hlt)]; exact h1, h2.step (s25 _)⟩
    · rw [List.getElem?_append_right hge] at hj
      have h0 : j - (l.take k).length = 0 := by
        have := (List.getElem?_eq_some_iff.1 hj).1
        simp at this
        simp
        omega
      rw [h0] at hj
      injection hj with hj
      subst hj
      refine ⟨vf, ?_, hfl.step (s25 _)⟩
      rw [List.getElem?_append_right (by rw [hl]; exact hge), hl, h0]
      rfl
  · unfold TMap
    rw [take_snoc hx, List.map_append]
    exact m5
theorem cut_at {l : List S43} {S : List S74} {j : Nat} (hj : j < S.length) : (S.take (j + 1) ++ stayF l (S.drop (j + 1)))[j]? = S[j]? := by
  rw [List.getElem?_append_left (by simp; omega), List.getElem?_take, if_pos (by omega)]
theorem drop_at {α : Type} {S : List α} {j : Nat} {p : α} (hp : S[j]? = some p) : S.drop j = p :: S.drop (j + 1) := by
  obtain ⟨hk, rfl⟩ := List.getElem?_eq_some_iff.1 hp
  exact List.drop_eq_getElem_cons hk
theorem cut_yes {l : List S43} {S : List S74} {j : Nat} {p : S74} (hp : S[j]? = some p) (h : thereF l p.f0 = true) :
    S.take (j + 1) ++ stayF l (S.drop (j + 1)) = S.take j ++ stayF l (S.drop j) ∧ goneF l j (S.drop j) = goneF l (j + 1) (S.drop (j + 1)) := by
  rw [drop_at hp, take_snoc hp, List.append_assoc]
  refine ⟨?_, ?_⟩
  · unfold stayF
    rw [List.filter_cons, if_pos h]
    rfl
  · rw [goneF, if_pos h, List.append_nil]
theorem cut_no {l : List S43} {S : List S74} {j : Nat} {p : S74} (hp : S[j]? = some p) (h : thereF l p.f0 = false) :
    (S.take (j + 1) ++ stayF l (S.drop (j + 1))).eraseIdx j = S.take j ++ stayF l (S.drop j) ∧ goneF l j (S.drop j) = goneF l (j + 1) (S.drop (j + 1)) ++ [⟨1, (j : Int) + 1, []⟩] := by
  have hk := (List.getElem?_eq_some_iff.1 hp).1
  rw [drop_at hp, take_snoc hp]
  refine ⟨?_, ?_⟩
  · rw [List.append_assoc, List.eraseIdx_append_of_length_le (by simp; omega)]
    have : j - (S.take j).length = 0 := by simp; omega
    rw [this]
    unfold stayF
    rw [List.filter_cons, if_neg (by rw [h]; simp)]
    rfl
  · rw [goneF, if_neg (by rw [h]; simp)]
theorem cut_len {l : List S43} {S : List S74} (j : Nat) : (S.take j ++ stayF l (S.drop j)).length ≤ S.length := by
  have := stayF_len l (S.drop j)
  simp at *
  omega
theorem gone_len {l : List S43} {S : List S74} (j : Nat) : (goneF l j (S.drop j)).length ≤ S.length := by
  have := goneF_len l (S.drop j) j
  simp at *
  omega
end Go.Proofs.YtnenlkojecicfaaDoor.V


namespace Go.Proofs.YtnenlkojecicfaaDoor.V
open Go.RowKit Go.Proofs.YtnenlkojecicfaaDoorW.PrintWords Go.Proofs.YtnenlkojecicfaaDoor.P

theorem view_apart {α : Type} {R : α → List Value → Prop} {tg tp B g e size base : Nat} {w : World} {lv vo : Value} {S : List S74} {top : Int} {ts : List α} (hv : ViewAt tg tp B w g lv S top) (ho : OwnRow R e size w base vo ts) (h1 : e ≠ tg) (h2 : e ≠ tp) :
    ∀ k, vo.ownBlock = some k → ¬ VX g lv k := by
  intro k hk hx
  obtain ⟨_, c, hc⟩ := orow_typed ho k hk
  obtain ⟨_, t, c2, ht, hc2⟩ := hv.typed k hx
  rw [hc] at hc2
  injection hc2 with hc2
  injection hc2 with _ e1 _
  subst e1
  rcases ht with rfl | rfl
  · exact h1 rfl
  · exact h2 rfl
theorem map_apart {tg tp B g b : Nat} {w : World} {lv : Value} {S : List S74} {top : Int} {kvs : List (Int × Value)} (hv : ViewAt tg tp B w g lv S top) (hm : MapAt w b kvs) : ¬ VX g lv b := by
  intro hx
  obtain ⟨_, t, c2, ht, hc2⟩ := hv.typed b hx
  exact hm.ne_cells hc2 rfl
theorem map_apart2 {α : Type} {R : α → List Value → Prop} {e size base b : Nat} {w : World} {vo : Value} {ts : List α} {kvs : List (Int × Value)} (ho : OwnRow R e size w base vo ts) (hm : MapAt w b kvs) : ¬ vo.ownBlock = some b := by
  intro hx
  obtain ⟨_, c, hc⟩ := orow_typed ho b hx
  exact hm.ne_cells hc rfl
theorem TRow.step {B base : Nat} {w w1 : World} {v : Value} {ts : List S65} {X : Nat → Prop} (h : TRow B w base v ts) (ht : Tr X w w1) (hX : ∀ k, v.ownBlock = some k → ¬ X k) (hs : SK [9] B w w1) : TRow B w1 base v ts :=
  orow_move h (fun k hk => ht.keep k (by obtain ⟨_, c, hc⟩ := orow_typed h k hk; exact lt_of_block hc) (hX k hk)) (fun _ _ hp => hp.step hs)
structure SyncAt (B : Nat) (w0 : World) (g : Nat) (lv0 : Value) (b8 b9 : Nat) (Av : Option Addr) (l : List S43) (w : World) (lv : Value) (S : List S74) (top : Int) (vo : Value) (O : List S65) : Prop where
  hb : B ≤ w0.heap.size ∧ w0.heap.size ≤ b8 ∧ w0.heap.size ≤ b9
  view : ViewAt 70 74 B w g lv S top
  out : TRow B w w0.heap.size vo O
  fm : FMap B w b8 l
  tm : TMap w b9 l
  mails : Mails B w Av l.length l
  tr : Tr (VX g lv0) w0 w
  own : lv.ownBlock = lv0.ownBlock ∨ ∃ b, lv.ownBlock = some b ∧ w0.heap.size ≤ b
section
variable {B g b8 b9 : Nat} {w0 w w1 : World} {lv0 lv lv1 vo vo1 : Value} {Av : Option Addr} {l : List S43} {S S1 : List S74} {top top1 : Int} {O O1 : List S65}
/-- The view turns; nothing else. -/
theorem SyncAt.view_to (h : SyncAt B w0 g lv0 b8 b9 Av l w lv S top vo O) (ht : Tr (VX g lv) w w1) (hv : ViewAt 70 74 B w1 g lv1 S1 top1) (ho : lv1.ownBlock = lv.ownBlock ∨ ∃ b, lv1.ownBlock = some b ∧ w.heap.size ≤ b) :
    SyncAt B w0 g lv0 b8 b9 Av l w1 lv1 S1 top1 vo O := by
  have s9 : SK [9] B w w1 := h.view.sk ht (by simp) (by simp)
  refine ⟨h.hb, hv, h.out.step ht (view_apart h.view h.out (by decide) (by decide)) s9, h.fm.step ht ?_ s9, MapAt.step h.tm ht (map_apart h.view h.tm), h.mails.step (h.view.sk ht (by simp) (by simp)), h.tr.trans ht (fun i hi hx => VX_old h.own hi hx), own_chain h.own ho h.tr.size⟩
  obtain ⟨kvs, hm, _⟩ := h.fm
  exact map_apart h.view hm
/-- What is told grows; nothing else turns. -/
theorem SyncAt.out_to (h : SyncAt B w0 g lv0 b8 b9 Av l w lv S top vo O) (ht : Tr (fun k => vo.ownBlock = some k) w w1) (ho : TRow B w1 w0.heap.size vo1 O1) :
    SyncAt B w0 g lv0 b8 b9 Av l w1 lv S top vo1 O1 := by
  have sT : ∀ T : List Nat, 65 ∉ T → SK T B w w1 := fun T hT => SK.of_tr ht (fun k hk => by
    obtain ⟨h1, c, hc⟩ := orow_typed h.out k hk
    exact not_sol (Nat.le_trans h.hb.1 h1) hc hT)
  have s9 : SK [9] B w w1 := sT _ (by simp)
  refine ⟨h.hb, h.view.step ht (fun k hx hk => view_apart h.view h.out (by decide) (by decide) k hk hx) s9, ho, h.fm.step ht ?_ s9, MapAt.step h.tm ht (map_apart2 h.out h.tm), h.mails.step (sT _ (by simp)), h.tr.trans ht (fun i hi hk => absurd (orow_base h.out i hk) (by omega)), h.own⟩
  obtain ⟨kvs, hm, _⟩ := h.fm
  exact map_apart2 h.out hm
theorem SyncAt.below (h : SyncAt B w0 g lv0 b8 b9 Av l w lv S top vo O) (hb : Below w.heap.size w w1) : SyncAt B w0 g lv0 b8 b9 Av l w1 lv S top vo O :=
  ⟨h.hb, h.view.below hb, h.out.step (Tr.of_below hb (fun _ => False)) (fun _ _ hf => hf) (SK.of_below hb), h.fm.below hb, MapAt.below h.tm hb, h.mails.below hb, h.tr.then_below hb, h.own⟩
theorem SyncAt.oB (h : SyncAt B w0 g lv0 b8 b9 Av l w lv S top vo O) : w0.heap.size ≤ w.heap.size := h.tr.size
end
theorem told_one (t : S65) {v : Value} {A : Option Addr} {n c : Nat} (hv : v = .slice A n c) : ∀ u ∈ [Value.int .i64 t.f0, .int .i64 t.f1, v], u.oneCell' = true := by
  subst hv
  intro u hu
  simp only [List.mem_cons, List.mem_nil_iff, or_false] at hu
  rcases hu with rfl | rfl | rfl <;> rfl
end Go.Proofs.YtnenlkojecicfaaDoor.V


namespace Go.Proofs.YtnenlkojecicfaaDoor.V
open Go.RowKit Go.Proofs.YtnenlkojecicfaaDoorW.PrintWords Go.Proofs.YtnenlkojecicfaaDoor.P

theorem own_setc {w : World} {base g n cap size o : Nat} {e : TypeId} {xs : List Value} (h : w.ownsRow base e size (.slice (some ⟨g, 0, none⟩) n cap) n xs) (ho : o < n * size) (v : Value) :
    (w.setCell ⟨g, o, none⟩ v).ownsRow base e size (.slice (some ⟨g, 0, none⟩) n cap) n (xs.set o v) ∧ w.grownBy (w.setCell ⟨g, o, none⟩ v) (some g) := by
  obtain ⟨h1, h2⟩ := h
  rcases h2 with ⟨hv, _⟩ | ⟨g', cap', cur, hv, hb, hh, hn, hm, hs, ht⟩
  · cases hv
  injection hv with e1 _ e3
  injection e1 with e1
  injection e1 with e1
  subst e1
  subst e3
  refine ⟨⟨by rw [List.length_set]; exact h1, .inr ⟨g, cap, cur.setIfInBounds o v, rfl, hb, ?_, hn, hm, by rw [Array.size_setIfInBounds]; exact hs, ?_⟩⟩, ⟨rfl, rfl, rfl, by simp [World.setCell], fun k' _ hk' => Below.heap_setCell _ _ _ _ (fun e => hk' (by rw [e]))⟩⟩
  · simp [World.setCell, Array.getElem?_modify, hh]
  · rw [Array.toList_setIfInBounds, List.take_set, ht]
theorem reps_set {B k : Nat} {w w1 : World} {S : List S74} {inner : List Value} {p : S74} {v : Value} {fs : List ByteArray} (hr : Reps (PlaceAt B w) 2 S inner) (hp : S[k]? = some p) (hf : Fl B w1 v fs) (hs : SK [9] B w w1) :
    Reps (PlaceAt B w1) 2 (S.set k ⟨p.f0, fs⟩) (inner.set (k * 2 + 1) v) := by
  have hk := (List.getElem?_eq_some_iff.1 hp).1
  refine ⟨by rw [List.length_set, List.length_set]; exact hr.1, fun j x hj => ?_⟩
  have hil := hr.1
  by_cases hjk : j = k
  · subst hjk
    rw [List.getElem?_set_self (by omega)] at hj
    injection hj with hj
    subst hj
    obtain ⟨v0, hc, _⟩ := hr.2 j p hp
    refine ⟨v, ?_, hf⟩
    rw [show [Value.int .i64 (⟨p.f0, fs⟩ : S74).f0, v] = [Value.int .i64 p.f0, v0].set 1 v from rfl, ← hc]
    apply List.ext_getElem?
    intro i
    by_cases hi : i < 2
    · rw [List.getElem?_take, if_pos hi, List.getElem?_drop, List.getElem?_set, List.getElem?_set]
      by_cases h1 : i = 1
      · subst h1
        rw [if_pos rfl, if_pos (by omega), if_pos rfl, if_pos (by rw [hc]; simp)]
      · rw [if_neg (by omega), if_neg (by omega), List.getElem?_take, if_pos hi, List.getElem?_drop]
    · rw [List.getElem?_eq_none (by simp; omega), List.getElem?_eq_none (by simp; omega)]
  · rw [List.getElem?_set_ne (fun e => hjk e.symm)] at hj
    have := (hr.2 j x hj).step hs
    have e : List.take 2 (List.drop (j * 2) (inner.set (k * 2 + 1) v)) = List.take 2 (List.drop (j * 2) inner) := by
      apply List.ext_getElem?
      intro i
      by_cases hi : i < 2
      · rw [List.getElem?_take, if_pos hi, List.getElem?_drop, List.getElem?_set, if_neg (by omega), List.getElem?_take, if_pos hi, List.getElem?_drop]
      · rw [List.getElem?_eq_none (by simp; omega), List.getElem?_eq_none (by simp; omega)]
    rw [e]
    exact this
theorem ViewAt.setFlags {tg tp B g bl n cap k : Nat} {w : World} {S : List S74} {top : Int} {p : S74} {v : Value} {fs : List ByteArray} (h : ViewAt tg tp B w g (.slice (some ⟨bl, 0, none⟩) n cap) S top) (hn : n = S.length) (hp : S[k]? = some p) (hf : Fl B w v fs) (hne : tg ≠ tp) (h9 : tp ≠ 9) :
    ViewAt tg tp B (w.setCell ⟨bl, k * 2 + 1, none⟩ v) g (.slice (some ⟨bl, 0, none⟩) n cap) (S.set k ⟨p.f0, fs⟩) top ∧ Tr (VX g (.slice (some ⟨bl, 0, none⟩) n cap)) w (w.setCell ⟨bl, k * 2 + 1, none⟩ v) := by
  subst hn
  have hk := (List.getElem?_eq_some_iff.1 hp).1
  obtain ⟨hB, c, hc⟩ := orow_typed h.row bl rfl
  have ht : Tr (fun k => k = bl) w (w.setCell ⟨bl, k * 2 + 1, none⟩ v) := Tr.setCell (Tr.refl (fun k => k = bl) w) (.inl rfl) v
  have hs : SK [9] B w (w.setCell ⟨bl, k * 2 + 1, none⟩ v) := SK.of_tr ht (fun i hi => by subst hi; exact not_sol hB hc (by simpa using h9))
  have hgb : g ≠ bl := fun e => h.ne_own hne (by rw [e]; rfl)
  refine ⟨⟨h.hB, (ht.keep g (lt_of_block h.blk) hgb).trans h.blk, ?_⟩, ht.mono (fun i _ hi => .inr (by rw [hi]; rfl))⟩
  obtain ⟨inner, ho, hr⟩ := h.row
  obtain ⟨h1, _⟩ := own_setc ho (o := k * 2 + 1) (by omega) v
  refine ⟨_, ?_, reps_set hr hp (hf.step hs) hs⟩
  rw [List.length_set]
  exact h1
theorem ViewAt.frow {tg tp B g bl n cap : Nat} {w : World} {S : List S74} {top : Int} (h : ViewAt tg tp B w g (.slice (some ⟨bl, 0, none⟩) n cap) S top) (j : Nat) : w.frozen? ⟨bl, j, none⟩ = false := by
  obtain ⟨hB, c, hc⟩ := orow_typed h.row bl rfl
  simp [World.frozen?, hc]
theorem set_map {f : S74 → S74} {G : List S74} {k : Nat} {p : S74} (hp : G[k]? = some p) : ((G.take k).map f ++ G.drop k).set k (f p) = (G.take (k + 1)).map f ++ G.drop (k + 1) := by
  have hk := (List.getElem?_eq_some_iff.1 hp).1
  rw [drop_at hp, take_snoc hp, List.set_append, if_neg (by simp; omega)]
  have : k - ((G.take k).map f).length = 0 := by simp; omega
  rw [this, List.map_append, List.append_assoc]
  rfl
theorem same_map {f : S74 → S74} {G : List S74} {k : Nat} {p : S74} (hp : G[k]? = some p) (hf : f p = p) : (G.take k).map f ++ G.drop k = (G.take (k + 1)).map f ++ G.drop (k + 1) := by
  rw [drop_at hp, take_snoc hp, List.map_append, List.append_assoc]
  simp [hf]
theorem at_map {f : S74 → S74} {G : List S74} {k : Nat} {p : S74} (hp : G[k]? = some p) : ((G.take k).map f ++ G.drop k)[k]? = some p := by
  have hk := (List.getElem?_eq_some_iff.1 hp).1
  rw [List.getElem?_append_right (by simp; omega)]
  have : k - ((G.take k).map f).length = 0 := by simp; omega
  rw [this, drop_at hp]
  rfl
theorem map_len {f : S74 → S74} {G : List S74} {k : Nat} (hk : k ≤ G.length) : ((G.take k).map f ++ G.drop k).length = G.length := by
  simp
  omega
theorem flagsO_snoc {l : List S43} {G : List S74} {k : Nat} {p : S74} (hp : G[k]? = some p) : flagsO l 0 (G.take (k + 1)) = flagsO l 0 (G.take k) ++ flagO l k p := by
  have hk := (List.getElem?_eq_some_iff.1 hp).1
  rw [take_snoc hp, flagsO_append]
  have : 0 + (G.take k).length = k := by simp; omega
  rw [this]
  simp [flagsO]
theorem mem_growF {p : S74} (l : List S43) : ∀ (s : List S74 × Int), p ∈ (l.foldl growS s).1 → p ∈ s.1 ∨ ∃ m ∈ l, p.f0 = m.f0 := by
  induction l with
  | nil => exact fun s h => .inl h
  | cons a r ih =>
    intro s h
    rw [List.foldl_cons] at h
    rcases ih _ h with h | ⟨m, hm, he⟩
    · unfold growS at h
      split at h
      · rcases List.mem_append.1 h with h | h
        · exact .inl h
        · exact .inr ⟨a, List.mem_cons_self, by rw [List.mem_singleton.1 h]⟩
      · exact .inl h
    · exact .inr ⟨m, List.mem_cons_of_mem _ hm, he⟩
theorem syncG_wf {q : Bool} {S : List S74} {top : Int} {l : List S43} (hS : ∀ p ∈ S, (Lit.int .i64 p.f0).wf = true) (hl : ∀ m ∈ l, (Lit.int .i64 m.f0).wf = true) : ∀ p ∈ (syncG q S top l).1, (Lit.int .i64 p.f0).wf = true := by
  intro p hp
  rcases mem_growF l _ hp with h | ⟨m, hm, he⟩
  · refine hS p ?_
    unfold syncS1 at h
    simp only at h
    split at h
    · exact h
    · exact (List.mem_filter.1 h).1
  · rw [he]
    exact hl m hm
theorem flagP_no {l : List S43} {p : S74} (h : ¬ (thereF l p.f0 = true ∧ p.f1 ≠ look l p.f0)) (k : Nat) : flagP l p = p ∧ flagO l k p = [] := by
  unfold flagP flagO
  rw [if_neg h, if_neg h]
  exact ⟨rfl, rfl⟩
theorem flagP_yes {l : List S43} {p : S74} (h : thereF l p.f0 = true ∧ p.f1 ≠ look l p.f0) (k : Nat) : flagP l p = ⟨p.f0, look l p.f0⟩ ∧ flagO l k p = [⟨3, (k : Int) + 1, look l p.f0⟩] := by
  unfold flagP flagO
  rw [if_pos h, if_pos h]
  exact ⟨rfl, rfl⟩
end Go.Proofs.YtnenlkojecicfaaDoor.V
