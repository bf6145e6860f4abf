/- A view's place gets other flags, in place. -/
import Derived.Test.YtnenlkojecicfaaDoorS1b
set_option linter.unusedVariables false
set_option linter.unusedSimpArgs false
namespace Go.Proofs.YtnenlkojecicfaaDoor.V
open Go.RowKit Go.Proofs.YtnenlkojecicfaaDoorW.PrintWords Go.Proofs.YtnenlkojecicfaaDoor.P

theorem own_setc {w : World} {base g n cap size o : Nat} {e : TypeId} {xs : List Value} (h : w.ownsRow base e size (.slice (some ⟨g, 0, none⟩) n cap) n xs) (ho : o < n * size) (v : Value) :
    (w.setCell ⟨g, o, none⟩ v).ownsRow base e size (.slice (some ⟨g, 0, none⟩) n cap) n (xs.set o v) ∧ w.grownBy (w.setCell ⟨g, o, none⟩ v) (some g) := by
  obtain ⟨h1, h2⟩ := h
  rcases h2 with ⟨hv, _⟩ | ⟨g', cap', cur, hv, hb, hh, hn, hm, hs, ht⟩
  · cases hv
  injection hv with e1 _ e3
  injection e1 with e1
  injection e1 with e1
  subst e1
  subst e3
  refine ⟨⟨by rw [List.length_set]; exact h1, .inr ⟨g, cap, cur.setIfInBounds o v, rfl, hb, ?_, hn, hm, by rw [Array.size_setIfInBounds]; exact hs, ?_⟩⟩, ⟨rfl, rfl, rfl, by simp [World.setCell], fun k' _ hk' => Below.heap_setCell _ _ _ _ (fun e => hk' (by rw [e]))⟩⟩
  · simp [World.setCell, Array.getElem?_modify, hh]
  · rw [Array.toList_setIfInBounds, List.take_set, ht]
theorem reps_set {B k : Nat} {w w1 : World} {S : List S74} {inner : List Value} {p : S74} {v : Value} {fs : List ByteArray} (hr : Reps (PlaceAt B w) 2 S inner) (hp : S[k]? = some p) (hf : Fl B w1 v fs) (hs : SK [9] B w w1) :
    Reps (PlaceAt B w1) 2 (S.set k ⟨p.f0, fs⟩) (inner.set (k * 2 + 1) v) := by
  have hk := (List.getElem?_eq_some_iff.1 hp).1
  refine ⟨by rw [List.length_set, List.length_set]; exact hr.1, fun j x hj => ?_⟩
  have hil := hr.1
  by_cases hjk : j = k
  · subst hjk
    rw [List.getElem?_set_self (by omega)] at hj
    injection hj with hj
    subst hj
    obtain ⟨v0, hc, _⟩ := hr.2 j p hp
    refine ⟨v, ?_, hf⟩
    rw [show [Value.int .i64 (⟨p.f0, fs⟩ : S74).f0, v] = [Value.int .i64 p.f0, v0].set 1 v from rfl, ← hc]
    apply List.ext_getElem?
    intro i
    by_cases hi : i < 2
    · rw [List.getElem?_take, if_pos hi, List.getElem?_drop, List.getElem?_set, List.getElem?_set]
      by_cases h1 : i = 1
      · subst h1
        rw [if_pos rfl, if_pos (by omega), if_pos rfl, if_pos (by rw [hc]; simp)]
      · rw [if_neg (by omega), if_neg (by omega), List.getElem?_take, if_pos hi, List.getElem?_drop]
    · rw [List.getElem?_eq_none (by simp; omega), List.getElem?_eq_none (by simp; omega)]
  · rw [List.getElem?_set_ne (fun e => hjk e.symm)] at hj
    have := (hr.2 j x hj).step hs
    have e : List.take 2 (List.drop (j * 2) (inner.set (k * 2 + 1) v)) = List.take 2 (List.drop (j * 2) inner) := by
      apply List.ext_getElem?
      intro i
      by_cases hi : i < 2
      · rw [List.getElem?_take, if_pos hi, List.getElem?_drop, List.getElem?_set, if_neg (by omega), List.getElem?_take, if_pos hi, List.getElem?_drop]
      · rw [List.getElem?_eq_none (by simp; omega), List.getElem?_eq_none (by simp; omega)]
    rw [e]
    exact this
theorem ViewAt.setFlags {tg tp B g bl n cap k : Nat} {w : World} {S : List S74} {top : Int} {p : S74} {v : Value} {fs : List ByteArray} (h : ViewAt tg tp B w g (.slice (some ⟨bl, 0, none⟩) n cap) S top) (hn : n = S.length) (hp : S[k]? = some p) (hf : Fl B w v fs) (hne : tg ≠ tp) (h9 : tp ≠ 9) :
    ViewAt tg tp B (w.setCell ⟨bl, k * 2 + 1, none⟩ v) g (.slice (some ⟨bl, 0, none⟩) n cap) (S.set k ⟨p.f0, fs⟩) top ∧ Tr (VX g (.slice (some ⟨bl, 0, none⟩) n cap)) w (w.setCell ⟨bl, k * 2 + 1, none⟩ v) := by
  subst hn
  have hk := (List.getElem?_eq_some_iff.1 hp).1
  obtain ⟨hB, c, hc⟩ := orow_typed h.row bl rfl
  have ht : Tr (fun k => k = bl) w (w.setCell ⟨bl, k * 2 + 1, none⟩ v) := Tr.setCell (Tr.refl (fun k => k = bl) w) (.inl rfl) v
  have hs : SK [9] B w (w.setCell ⟨bl, k * 2 + 1, none⟩ v) := SK.of_tr ht (fun i hi => by subst hi; exact not_sol hB hc (by simpa using h9))
  have hgb : g ≠ bl := fun e => h.ne_own hne (by rw [e]; rfl)
  refine ⟨⟨h.hB, (ht.keep g (lt_of_block h.blk) hgb).trans h.blk, ?_⟩, ht.mono (fun i _ hi => .inr (by rw [hi]; rfl))⟩
  obtain ⟨inner, ho, hr⟩ := h.row
  obtain ⟨h1, _⟩ := own_setc ho (o := k * 2 + 1) (by omega) v
  refine ⟨_, ?_, reps_set hr hp (hf.step hs) hs⟩
  rw [List.length_set]
  exact h1
theorem ViewAt.frow {tg tp B g bl n cap : Nat} {w : World} {S : List S74} {top : Int} (h : ViewAt tg tp B w g (.slice (some ⟨bl, 0, none⟩) n cap) S top) (j : Nat) : w.frozen? ⟨bl, j, none⟩ = false := by
  obtain ⟨hB, c, hc⟩ := orow_typed h.row bl rfl
  simp [World.frozen?, hc]
theorem set_map {f : S74 → S74} {G : List S74} {k : Nat} {p : S74} (hp : G[k]? = some p) : ((G.take k).map f ++ G.drop k).set k (f p) = (G.take (k + 1)).map f ++ G.drop (k + 1) := by
  have hk := (List.getElem?_eq_some_iff.1 hp).1
  rw [drop_at hp, take_snoc hp, List.set_append, if_neg (by simp; omega)]
  have : k - ((G.take k).map f).length = 0 := by simp; omega
  rw [this, List.map_append, List.append_assoc]
  rfl
theorem same_map {f : S74 → S74} {G : List S74} {k : Nat} {p : S74} (hp : G[k]? = some p) (hf : f p = p) : (G.take k).map f ++ G.drop k = (G.take (k + 1)).map f ++ G.drop (k + 1) := by
  rw [drop_at hp, take_snoc hp, List.map_append, List.append_assoc]
  simp [hf]
theorem at_map {f : S74 → S74} {G : List S74} {k : Nat} {p : S74} (hp : G[k]? = some p) : ((G.take k).map f ++ G.drop k)[k]? = some p := by
  have hk := (List.getElem?_eq_some_iff.1 hp).1
  rw [List.getElem?_append_right (by simp; omega)]
  have : k - ((G.take k).map f).length = 0 := by simp; omega
  rw [this, drop_at hp]
  rfl
theorem map_len {f : S74 → S74} {G : List S74} {k : Nat} (hk : k ≤ G.length) : ((G.take k).map f ++ G.drop k).length = G.length := by
  simp
  omega
theorem flagsO_snoc {l : List S43} {G : List S74} {k : Nat} {p : S74} (hp : G[k]? = some p) : flagsO l 0 (G.take (k + 1)) = flagsO l 0 (G.take k) ++ flagO l k p := by
  have hk := (List.getElem?_eq_some_iff.1 hp).1
  rw [take_snoc hp, flagsO_append]
  have : 0 + (G.take k).length = k := by simp; omega
  rw [this]
  simp [flagsO]
theorem mem_growF {p : S74} (l : List S43) : ∀ (s : List S74 × Int), p ∈ (l.foldl growS s).1 → p ∈ s.1 ∨ ∃ m ∈ l, p.f0 = m.f0 := by
  induction l with
  | nil => exact fun s h => .inl h
  | cons a r ih =>
    intro s h
    rw [List.foldl_cons] at h
    rcases ih _ h with h | ⟨m, hm, he⟩
    · unfold growS at h
      split at h
      · rcases List.mem_append.1 h with h | h
        · exact .inl h
        · exact .inr ⟨a, List.mem_cons_self, by rw [List.mem_singleton.1 h]⟩
      · exact .inl h
    · exact .inr ⟨m, List.mem_cons_of_mem _ hm, he⟩
theorem syncG_wf {q : Bool} {S : List S74} {top : Int} {l : List S43} (hS : ∀ p ∈ S, (Lit.int .i64 p.f0).wf = true) (hl : ∀ m ∈ l, (Lit.int .i64 m.f0).wf = true) : ∀ p ∈ (syncG q S top l).1, (Lit.int .i64 p.f0).wf = true := by
  intro p hp
  rcases mem_growF l _ hp with h | ⟨m, hm, he⟩
  · refine hS p ?_
    unfold syncS1 at h
    simp only at h
    split at h
    · exact h
    · exact (List.mem_filter.1 h).1
  · rw [he]
    exact hl m hm
theorem flagP_no {l : List S43} {p : S74} (h : ¬ (thereF l p.f0 = true ∧ p.f1 ≠ look l p.f0)) (k : Nat) : flagP l p = p ∧ flagO l k p = [] := by
  unfold flagP flagO
  rw [if_neg h, if_neg h]
  exact ⟨rfl, rfl⟩
theorem flagP_yes {l : List S43} {p : S74} (h : thereF l p.f0 = true ∧ p.f1 ≠ look l p.f0) (k : Nat) : flagP l p = ⟨p.f0, look l p.f0⟩ ∧ flagO l k p = [⟨3, (k : Int) + 1, look l p.f0⟩] := by
  unfold flagP flagO
  rw [if_pos h, if_pos h]
  exact ⟨rfl, rfl⟩
end Go.Proofs.YtnenlkojecicfaaDoor.V
