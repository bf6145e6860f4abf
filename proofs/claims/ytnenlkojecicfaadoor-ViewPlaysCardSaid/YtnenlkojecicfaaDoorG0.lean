/- A view in memory: what it says, what moves it. -/
import Derived.Test.YtnenlkojecicfaaDoorF1
import Derived.Test.YtnenlkojecicfaaDoorV2
set_option linter.unusedVariables false
set_option linter.unusedSimpArgs false
namespace Go.Proofs.YtnenlkojecicfaaDoor.V
open Go.RowKit Go.Proofs.YtnenlkojecicfaaDoorW.PrintWords Go.Proofs.YtnenlkojecicfaaDoor.P

/-- A place: its UID, its flags (in blocks that nobody writes). -/
def PlaceAt (B : Nat) (w : World) (p : S74) (cs : List Value) : Prop := ∃ v, cs = [.int .i64 p.f0, v] ∧ Fl B w v p.f1
theorem PlaceAt.step {B : Nat} {w w1 : World} {p : S74} {cs : List Value} (h : PlaceAt B w p cs) (hk : SK [9] B w w1) : PlaceAt B w1 p cs := by
  obtain ⟨v, e, hf⟩ := h
  exact ⟨v, e, hf.step hk⟩
/-- A view: at block g (type tg) the row of its places (type tp) and the greatest UID. -/
structure ViewAt (tg tp B : Nat) (w : World) (g : Nat) (lv : Value) (S : List S74) (top : Int) : Prop where
  hB : B ≤ g
  blk : w.heap[g]? = some (.cells #[lv, .int .i64 top] tg (0, 0))
  row : OwnRow (PlaceAt B w) tp 2 w B lv S
/-- The blocks of a view. -/
def VX (g : Nat) (lv : Value) (k : Nat) : Prop := k = g ∨ lv.ownBlock = some k
theorem orow_typed {α : Type} {R : α → List Value → Prop} {e : TypeId} {size base : Nat} {w : World} {v : Value} {ps : List α} (h : OwnRow R e size w base v ps) (k : Nat) (hk : v.ownBlock = some k) : base ≤ k ∧ ∃ cells, w.heap[k]? = some (.cells cells e (0, 0)) := by
  obtain ⟨inner, ho, _⟩ := h
  exact ⟨own_base ho k hk, own_typed ho k hk⟩
theorem orow_move {α : Type} {R R' : α → List Value → Prop} {e : TypeId} {size base : Nat} {w w1 : World} {v : Value} {ps : List α} (h : OwnRow R e size w base v ps) (hm : ∀ k, v.ownBlock = some k → w1.heap[k]? = w.heap[k]?) (hR : ∀ p c, R p c → R' p c) : OwnRow R' e size w1 base v ps := by
  obtain ⟨inner, ho, hr⟩ := h
  exact ⟨inner, own_move ho hm, hr.imp_ hR⟩
section
variable {tg tp B g : Nat} {w w1 : World} {lv : Value} {S : List S74} {top : Int} {X : Nat → Prop}
theorem ViewAt.typed (h : ViewAt tg tp B w g lv S top) (k : Nat) (hk : VX g lv k) : B ≤ k ∧ ∃ t cells, (t = tg ∨ t = tp) ∧ w.heap[k]? = some (.cells cells t (0, 0)) := by
  rcases hk with rfl | hk
  · exact ⟨h.hB, tg, _, .inl rfl, h.blk⟩
  · obtain ⟨h1, c, h2⟩ := orow_typed h.row k hk
    exact ⟨h1, tp, c, .inr rfl, h2⟩
theorem ViewAt.lt (h : ViewAt tg tp B w g lv S top) (k : Nat) (hk : VX g lv k) : k < w.heap.size := by
  obtain ⟨_, _, _, _, hc⟩ := h.typed k hk
  exact lt_of_block hc
/-- What turns a view's blocks alone turns nothing of other types. -/
theorem ViewAt.sk (h : ViewAt tg tp B w g lv S top) (ht : Tr (VX g lv) w w1) {T : List Nat} (h1 : tg ∉ T) (h2 : tp ∉ T) : SK T B w w1 :=
  SK.of_tr ht (fun k hk => by
    obtain ⟨hb, t, c, ht, hc⟩ := h.typed k hk
    rcases ht with rfl | rfl
    · exact not_sol hb hc h1
    · exact not_sol hb hc h2)
theorem ViewAt.step (h : ViewAt tg tp B w g lv S top) (ht : Tr X w w1) (hX : ∀ k, VX g lv k → ¬ X k) (hs : SK [9] B w w1) : ViewAt tg tp B w1 g lv S top :=
  ⟨h.hB, (ht.keep g (lt_of_block h.blk) (hX g (.inl rfl))).trans h.blk, orow_move h.row (fun k hk => ht.keep k (h.lt k (.inr hk)) (hX k (.inr hk))) (fun _ _ hp => hp.step hs)⟩
theorem ViewAt.below (h : ViewAt tg tp B w g lv S top) (hb : Below w.heap.size w w1) : ViewAt tg tp B w1 g lv S top :=
  h.step (Tr.of_below hb (fun _ => False)) (fun _ _ hf => hf) (SK.of_below hb)
theorem ViewAt.c0 (h : ViewAt tg tp B w g lv S top) : w.cell? ⟨g, 0, none⟩ = some lv := by simp [World.cell?, h.blk]
theorem ViewAt.c1 (h : ViewAt tg tp B w g lv S top) : w.cell? ⟨g, 1, none⟩ = some (.int .i64 top) := by simp [World.cell?, h.blk]
theorem ViewAt.fz (h : ViewAt tg tp B w g lv S top) (j : Nat) : w.frozen? ⟨g, j, none⟩ = false := by simp [World.frozen?, h.blk]
theorem ViewAt.slice (h : ViewAt tg tp B w g lv S top) : ∃ A c, lv = .slice A S.length c ∧ S.length ≤ c := OwnRow.slice_ h.row
/-- The greatest UID is written. -/
theorem ViewAt.setTop (h : ViewAt tg tp B w g lv S top) (hne : tg ≠ tp) (h9 : tg ≠ 9) (n : Int) : ViewAt tg tp B (w.setCell ⟨g, 1, none⟩ (.int .i64 n)) g lv S n := by
  have hs : SK [9] B w (w.setCell ⟨g, 1, none⟩ (.int .i64 n)) := SK.of_tr (Tr.setCell (Tr.refl (fun k => k = g) w) (.inl rfl) _) (fun k hk => by
    subst hk
    exact not_sol h.hB h.blk (by simpa using h9))
  refine ⟨h.hB, ?_, orow_move h.row (fun k hk => Below.heap_setCell _ _ _ _ (fun e => ?_)) (fun _ _ hp => hp.step hs)⟩
  · simp [World.setCell, Array.getElem?_modify, h.blk]
  · obtain ⟨_, c, hc⟩ := orow_typed h.row k hk
    simp only at e
    subst e
    rw [h.blk] at hc
    injection hc with hc
    injection hc with _ e2 _
    exact hne e2
theorem ViewAt.ne_own (h : ViewAt tg tp B w g lv S top) (hne : tg ≠ tp) : ¬ lv.ownBlock = some g := fun e => by
  obtain ⟨_, c, hc⟩ := orow_typed h.row g e
  rw [h.blk] at hc
  injection hc with hc
  injection hc with _ e2 _
  exact hne e2
/-- Another row is stored into the view. -/
theorem ViewAt.setRow {w3 : World} {v1 : Value} {S1 : List S74} (h : ViewAt tg tp B w1 g lv S top) (hne : tg ≠ tp) (h9 : tg ≠ 9) (ht : Tr (fun k => lv.ownBlock = some k) w1 w3) (ho : OwnRow (PlaceAt B w3) tp 2 w3 B v1 S1) :
    w3.cell? ⟨g, 0, none⟩ = some lv ∧ w3.frozen? ⟨g, 0, none⟩ = false ∧ ViewAt tg tp B (w3.setCell ⟨g, 0, none⟩ v1) g v1 S1 top ∧ Tr (VX g lv) w1 (w3.setCell ⟨g, 0, none⟩ v1) := by
  have hb : w3.heap[g]? = some (.cells #[lv, .int .i64 top] tg (0, 0)) := (ht.keep g (lt_of_block h.blk) (h.ne_own hne)).trans h.blk
  have hs : SK [9] B w3 (w3.setCell ⟨g, 0, none⟩ v1) := SK.of_tr (Tr.setCell (Tr.refl (fun k => k = g) w3) (.inl rfl) _) (fun k hk => by
    subst hk
    exact not_sol h.hB hb (by simpa using h9))
  refine ⟨by simp [World.cell?, hb], by simp [World.frozen?, hb], ⟨h.hB, ?_, orow_move ho (fun k hk => Below.heap_setCell _ _ _ _ (fun e => ?_)) (fun _ _ hp => hp.step hs)⟩, ?_⟩
  · simp [World.setCell, Array.getElem?_modify, hb]
  · obtain ⟨_, c, hc⟩ := orow_typed ho k hk
    simp only at e
    subst e
    rw [hb] at hc
    injection hc with hc
    injection hc with _ e2 _
    exact hne e2
  · exact (ht.mono (Y := VX g lv) (fun k _ hk => .inr hk)).setCell (.inl (.inl rfl)) _
end
theorem VX_old {g N : Nat} {lv lvr : Value} (h : lvr.ownBlock = lv.ownBlock ∨ ∃ b, lvr.ownBlock = some b ∧ N ≤ b) {i : Nat} (hi : i < N) (hx : VX g lvr i) : VX g lv i := by
  rcases hx with hx | hx
  · exact .inl hx
  · rcases h with h | ⟨b, hb, hN⟩
    · exact .inr (h ▸ hx)
    · rw [hb] at hx
      injection hx with hx
      omega
theorem own_chain {N M : Nat} {lv lvr v1 : Value} (h : lvr.ownBlock = lv.ownBlock ∨ ∃ b, lvr.ownBlock = some b ∧ N ≤ b) (h1 : v1.ownBlock = lvr.ownBlock ∨ ∃ b, v1.ownBlock = some b ∧ M ≤ b) (hM : N ≤ M) : v1.ownBlock = lv.ownBlock ∨ ∃ b, v1.ownBlock = some b ∧ N ≤ b := by
  rcases h1 with h1 | ⟨b, hb, hN⟩
  · rw [h1]; exact h
  · exact .inr ⟨b, hb, by omega⟩
/-- What growing makes of places: those that are above. -/
def growS (s : List S74 × Int) (m : S43) : List S74 × Int := if s.2 < m.f0 then (s.1 ++ [⟨m.f0, flagsF m.f1⟩], m.f0) else s
def growF (S : List S74) (top : Int) (ms : List S43) : List S74 × Int := ms.foldl growS (S, top)
def growTo (S : List S74) (top : Int) (ms : List S43) (k : Nat) : List S74 × Int := (ms.take k).foldl growS (S, top)
theorem growTo_succ {S : List S74} {top : Int} {ms : List S43} {k : Nat} {m : S43} (h : ms[k]? = some m) : growTo S top ms (k + 1) = growS (growTo S top ms k) m := by
  obtain ⟨hk, rfl⟩ := List.getElem?_eq_some_iff.1 h
  unfold growTo
  rw [List.take_succ_eq_append_getElem hk, List.foldl_append]
  rfl
theorem growTo_len (S : List S74) (top : Int) (ms : List S43) (k : Nat) : (growTo S top ms k).1.length ≤ S.length + k := by
  unfold growTo
  have : ∀ (l : List S43) (s : List S74 × Int), (l.foldl growS s).1.length ≤ s.1.length + l.length := by
    intro l
    induction l with
    | nil => exact fun s => by simp
    | cons a r ih =>
      intro s
      have h1 := ih (growS s a)
      have h2 : (growS s a).1.length ≤ s.1.length + 1 := by unfold growS; split <;> simp
      rw [List.foldl_cons, List.length_cons]
      omega
  have h := this (ms.take k) (S, top)
  have h2 : (ms.take k).length ≤ k := List.length_take_le _ _
  simp only at h
  omega
theorem growTo_ge (S : List S74) (top : Int) (ms : List S43) (k : Nat) : S.length ≤ (growTo S top ms k).1.length := by
  unfold growTo
  have : ∀ (l : List S43) (s : List S74 × Int), s.1.length ≤ (l.foldl growS s).1.length := by
    intro l
    induction l with
    | nil => exact fun s => Nat.le_refl _
    | cons a r ih =>
      intro s
      have h1 := ih (growS s a)
      have h2 : s.1.length ≤ (growS s a).1.length := by unfold growS; split <;> simp
      rw [List.foldl_cons]
      omega
  exact this (ms.take k) (S, top)
theorem info74 : (Tryd.prog.info? 74).map (fun i => (i.zero, i.size, i.bytes)) = some (some (.agg #[.int .i64 0, .slice none 0 0]), 2, 32) := by kernel_rfl
end Go.Proofs.YtnenlkojecicfaaDoor.V
