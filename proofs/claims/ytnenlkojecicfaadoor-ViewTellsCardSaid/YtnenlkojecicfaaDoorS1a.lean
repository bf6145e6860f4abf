/- (*View).Sync: a message goes into the two maps. -/
import Derived.Test.YtnenlkojecicfaaDoorS0
set_option linter.unusedVariables false
set_option linter.unusedSimpArgs false
namespace Go.Proofs.YtnenlkojecicfaaDoor.V
open Go.RowKit Go.Proofs.YtnenlkojecicfaaDoorW.PrintWords Go.Proofs.YtnenlkojecicfaaDoor.P

theorem Tr.cell {X : Nat → Prop} {w w1 : World} (h : Tr X w w1) {a : Addr} {v : Value} (hc : w.cell? a = some v) (hX : ¬ X a.block) : w1.cell? a = some v := by
  rw [← hc]
  exact World.cell?_of_block (h.keep a.block (World.block_lt_of_cell? w _ hc) hX)
theorem rise_fresh {l : List S43} (h : Rise l) {k : Nat} {x : S43} (hx : l[k]? = some x) : ∀ m ∈ l.take k, m.f0 ≠ x.f0 := by
  intro m hm
  obtain ⟨j, hj⟩ := List.getElem?_of_mem hm
  obtain ⟨hk, rfl⟩ := List.getElem?_eq_some_iff.1 hx
  have hjk : j < k := by
    have := (List.getElem?_eq_some_iff.1 hj).1
    simp at this
    omega
  rw [List.getElem?_take, if_pos hjk] at hj
  obtain ⟨hj1, rfl⟩ := List.getElem?_eq_some_iff.1 hj
  have := List.pairwise_iff_getElem.1 h.1 j k hj1 hk hjk
  omega
theorem take_snoc {α : Type} {l : List α} {k : Nat} {x : α} (hx : l[k]? = some x) : l.take (k + 1) = l.take k ++ [x] := by
  obtain ⟨hk, rfl⟩ := List.getElem?_eq_some_iff.1 hx
  exact List.take_succ_eq_append_getElem hk
theorem fill {B b8 b9 k : Nat} {l : List S43} {x : S43} {w2 : World} {vf : Value} (hF : FMap B w2 b8 (l.take k)) (hT : TMap w2 b9 (l.take k)) (hx : l[k]? = some x) (hR : Rise l) (hw : (Lit.int .i64 x.f0).wf = true)
    (h8 : B ≤ b8) (h9 : B ≤ b9) (hne : b8 ≠ b9) (hfl : Fl B w2 vf (flagsF x.f1)) :
    ∃ st w3 w4 w5, (Instr.mapEntry 71 (.map (some b8)) (.int .i64 x.f0)).run Tryd.prog w2 = .ok (.tuple #[.slice none 0 0, st]) w3 ∧
      (Instr.entryStore 71 (.map (some b8)) st vf).run Tryd.prog w3 = .ok () w4 ∧
      (Instr.mapUpdate 29 (.map (some b9)) (.int .i64 x.f0) (.bool true)).run Tryd.prog w4 = .ok () w5 ∧
      Tr (fun k => k = b8) w2 w3 ∧ Tr (fun k => k = b8) w2 w4 ∧ Tr (fun k => k = b8 ∨ k = b9) w2 w5 ∧ SK [9, 43] B w2 w5 ∧
      FMap B w5 b8 (l.take (k + 1)) ∧ TMap w5 b9 (l.take (k + 1)) := by
  have hfr := rise_fresh hR hx
  have hF' := hF
  obtain ⟨kvs, hm, hl, hk⟩ := hF
  obtain ⟨st, w3, r3, m3, t3, hst⟩ := hm.entry Tryd.underlying71 zero31 hw (hF'.keys hfr hl hk)
  obtain ⟨w4, r4, m4, t4⟩ := hst w3 vf rfl
  have t24 : Tr (fun k => k = b8) w2 w4 := t3.trans t4 (fun i _ h => h)
  have hT4 : TMap w4 b9 (l.take k) := MapAt.step hT t24 (fun e => hne e.symm)
  obtain ⟨w5, r5, m5, t5⟩ := MapAt.update hT4 Tryd.underlying29 hw (fun p hp e => by
    obtain ⟨m, hm1, rfl⟩ := List.mem_map.1 hp
    exact hfr m hm1 e) (.bool true)
  have t25 : Tr (fun k => k = b8 ∨ k = b9) w2 w5 := (t24.mono (Y := fun k => k = b8 ∨ k = b9) (fun i _ h => .inl h)).trans t5 (fun i _ h => .inr h)
  have s24 : ∀ T, SK T B w2 w4 := fun T => SK.of_tr t24 (fun i hi => by subst hi; exact hm.not_sol h8)
  have s45 : ∀ T, SK T B w4 w5 := fun T => SK.of_tr t5 (fun i hi => by subst hi; exact MapAt.not_sol hT4 h9)
  have s25 : ∀ T, SK T B w2 w5 := fun T => (s24 T).trans (s45 T)
  refine ⟨st, w3, w4, w5, r3, r4, r5, t3, t24, t25, s25 _, ⟨kvs ++ [(x.f0, vf)], m4.step t5 hne, ?_, fun j m hj => ?_⟩, ?_⟩
  · rw [take_snoc hx, List.length_append, List.length_append, hl]
    rfl
  · rw [take_snoc hx] at hj
    rcases Nat.lt_or_ge j (l.take k).length with hlt | hge
    · rw [List.getElem?_append_left hlt] at hj
      obtain ⟨v, h1, h2⟩ := hk j m hj
      exact ⟨v, by rw [List.getElem?_append_left (by rw [hl]; exact hlt)]; exact h1, h2.step (s25 _)⟩
    · rw [List.getElem?_append_right hge] at hj
      have h0 : j - (l.take k).length = 0 := by
        have := (List.getElem?_eq_some_iff.1 hj).1
        simp at this
        simp
        omega
      rw [h0] at hj
      injection hj with hj
      subst hj
      refine ⟨vf, ?_, hfl.step (s25 _)⟩
      rw [List.getElem?_append_right (by rw [hl]; exact hge), hl, h0]
      rfl
  · unfold TMap
    rw [take_snoc hx, List.map_append]
    exact m5
theorem cut_at {l : List S43} {S : List S74} {j : Nat} (hj : j < S.length) : (S.take (j + 1) ++ stayF l (S.drop (j + 1)))[j]? = S[j]? := by
  rw [List.getElem?_append_left (by simp; omega), List.getElem?_take, if_pos (by omega)]
theorem drop_at {α : Type} {S : List α} {j : Nat} {p : α} (hp : S[j]? = some p) : S.drop j = p :: S.drop (j + 1) := by
  obtain ⟨hk, rfl⟩ := List.getElem?_eq_some_iff.1 hp
  exact List.drop_eq_getElem_cons hk
theorem cut_yes {l : List S43} {S : List S74} {j : Nat} {p : S74} (hp : S[j]? = some p) (h : thereF l p.f0 = true) :
    S.take (j + 1) ++ stayF l (S.drop (j + 1)) = S.take j ++ stayF l (S.drop j) ∧ goneF l j (S.drop j) = goneF l (j + 1) (S.drop (j + 1)) := by
  rw [drop_at hp, take_snoc hp, List.append_assoc]
  refine ⟨?_, ?_⟩
  · unfold stayF
    rw [List.filter_cons, if_pos h]
    rfl
  · rw [goneF, if_pos h, List.append_nil]
theorem cut_no {l : List S43} {S : List S74} {j : Nat} {p : S74} (hp : S[j]? = some p) (h : thereF l p.f0 = false) :
    (S.take (j + 1) ++ stayF l (S.drop (j + 1))).eraseIdx j = S.take j ++ stayF l (S.drop j) ∧ goneF l j (S.drop j) = goneF l (j + 1) (S.drop (j + 1)) ++ [⟨1, (j : Int) + 1, []⟩] := by
  have hk := (List.getElem?_eq_some_iff.1 hp).1
  rw [drop_at hp, take_snoc hp]
  refine ⟨?_, ?_⟩
  · rw [List.append_assoc, List.eraseIdx_append_of_length_le (by simp; omega)]
    have : j - (S.take j).length = 0 := by simp; omega
    rw [this]
    unfold stayF
    rw [List.filter_cons, if_neg (by rw [h]; simp)]
    rfl
  · rw [goneF, if_neg (by rw [h]; simp)]
theorem cut_len {l : List S43} {S : List S74} (j : Nat) : (S.take j ++ stayF l (S.drop j)).length ≤ S.length := by
  have := stayF_len l (S.drop j)
  simp at *
  omega
theorem gone_len {l : List S43} {S : List S74} (j : Nat) : (goneF l j (S.drop j)).length ≤ S.length := by
  have := goneF_len l (S.drop j) j
  simp at *
  omega
end Go.Proofs.YtnenlkojecicfaaDoor.V
