/- (*View).Sync: what stands in memory between its steps. -/
import Derived.Test.YtnenlkojecicfaaDoorS1a
set_option linter.unusedVariables false
set_option linter.unusedSimpArgs false
namespace Go.Proofs.YtnenlkojecicfaaDoor.V
open Go.RowKit Go.Proofs.YtnenlkojecicfaaDoorW.PrintWords Go.Proofs.YtnenlkojecicfaaDoor.P

theorem view_apart {α : Type} {R : α → List Value → Prop} {tg tp B g e size base : Nat} {w : World} {lv vo : Value} {S : List S74} {top : Int} {ts : List α} (hv : ViewAt tg tp B w g lv S top) (ho : OwnRow R e size w base vo ts) (h1 : e ≠ tg) (h2 : e ≠ tp) :
    ∀ k, vo.ownBlock = some k → ¬ VX g lv k := by
  intro k hk hx
  obtain ⟨_, c, hc⟩ := orow_typed ho k hk
  obtain ⟨_, t, c2, ht, hc2⟩ := hv.typed k hx
  rw [hc] at hc2
  injection hc2 with hc2
  injection hc2 with _ e1 _
  subst e1
  rcases ht with rfl | rfl
  · exact h1 rfl
  · exact h2 rfl
theorem map_apart {tg tp B g b : Nat} {w : World} {lv : Value} {S : List S74} {top : Int} {kvs : List (Int × Value)} (hv : ViewAt tg tp B w g lv S top) (hm : MapAt w b kvs) : ¬ VX g lv b := by
  intro hx
  obtain ⟨_, t, c2, ht, hc2⟩ := hv.typed b hx
  exact hm.ne_cells hc2 rfl
theorem map_apart2 {α : Type} {R : α → List Value → Prop} {e size base b : Nat} {w : World} {vo : Value} {ts : List α} {kvs : List (Int × Value)} (ho : OwnRow R e size w base vo ts) (hm : MapAt w b kvs) : ¬ vo.ownBlock = some b := by
  intro hx
  obtain ⟨_, c, hc⟩ := orow_typed ho b hx
  exact hm.ne_cells hc rfl
theorem TRow.step {B base : Nat} {w w1 : World} {v : Value} {ts : List S65} {X : Nat → Prop} (h : TRow B w base v ts) (ht : Tr X w w1) (hX : ∀ k, v.ownBlock = some k → ¬ X k) (hs : SK [9] B w w1) : TRow B w1 base v ts :=
  orow_move h (fun k hk => ht.keep k (by obtain ⟨_, c, hc⟩ := orow_typed h k hk; exact lt_of_block hc) (hX k hk)) (fun _ _ hp => hp.step hs)
structure SyncAt (B : Nat) (w0 : World) (g : Nat) (lv0 : Value) (b8 b9 : Nat) (Av : Option Addr) (l : List S43) (w : World) (lv : Value) (S : List S74) (top : Int) (vo : Value) (O : List S65) : Prop where
  hb : B ≤ w0.heap.size ∧ w0.heap.size ≤ b8 ∧ w0.heap.size ≤ b9
  view : ViewAt 70 74 B w g lv S top
  out : TRow B w w0.heap.size vo O
  fm : FMap B w b8 l
  tm : TMap w b9 l
  mails : Mails B w Av l.length l
  tr : Tr (VX g lv0) w0 w
  own : lv.ownBlock = lv0.ownBlock ∨ ∃ b, lv.ownBlock = some b ∧ w0.heap.size ≤ b
section
variable {B g b8 b9 : Nat} {w0 w w1 : World} {lv0 lv lv1 vo vo1 : Value} {Av : Option Addr} {l : List S43} {S S1 : List S74} {top top1 : Int} {O O1 : List S65}
/-- The view turns; nothing else. -/
theorem SyncAt.view_to (h : SyncAt B w0 g lv0 b8 b9 Av l w lv S top vo O) (ht : Tr (VX g lv) w w1) (hv : ViewAt 70 74 B w1 g lv1 S1 top1) (ho : lv1.ownBlock = lv.ownBlock ∨ ∃ b, lv1.ownBlock = some b ∧ w.heap.size ≤ b) :
    SyncAt B w0 g lv0 b8 b9 Av l w1 lv1 S1 top1 vo O := by
  have s9 : SK [9] B w w1 := h.view.sk ht (by simp) (by simp)
  refine ⟨h.hb, hv, h.out.step ht (view_apart h.view h.out (by decide) (by decide)) s9, h.fm.step ht ?_ s9, MapAt.step h.tm ht (map_apart h.view h.tm), h.mails.step (h.view.sk ht (by simp) (by simp)), h.tr.trans ht (fun i hi hx => VX_old h.own hi hx), own_chain h.own ho h.tr.size⟩
  obtain ⟨kvs, hm, _⟩ := h.fm
  exact map_apart h.view hm
/-- What is told grows; nothing else turns. -/
theorem SyncAt.out_to (h : SyncAt B w0 g lv0 b8 b9 Av l w lv S top vo O) (ht : Tr (fun k => vo.ownBlock = some k) w w1) (ho : TRow B w1 w0.heap.size vo1 O1) :
    SyncAt B w0 g lv0 b8 b9 Av l w1 lv S top vo1 O1 := by
  have sT : ∀ T : List Nat, 65 ∉ T → SK T B w w1 := fun T hT => SK.of_tr ht (fun k hk => by
    obtain ⟨h1, c, hc⟩ := orow_typed h.out k hk
    exact not_sol (Nat.le_trans h.hb.1 h1) hc hT)
  have s9 : SK [9] B w w1 := sT _ (by simp)
  refine ⟨h.hb, h.view.step ht (fun k hx hk => view_apart h.view h.out (by decide) (by decide) k hk hx) s9, ho, h.fm.step ht ?_ s9, MapAt.step h.tm ht (map_apart2 h.out h.tm), h.mails.step (sT _ (by simp)), h.tr.trans ht (fun i hi hk => absurd (orow_base h.out i hk) (by omega)), h.own⟩
  obtain ⟨kvs, hm, _⟩ := h.fm
  exact map_apart2 h.out hm
theorem SyncAt.below (h : SyncAt B w0 g lv0 b8 b9 Av l w lv S top vo O) (hb : Below w.heap.size w w1) : SyncAt B w0 g lv0 b8 b9 Av l w1 lv S top vo O :=
  ⟨h.hb, h.view.below hb, h.out.step (Tr.of_below hb (fun _ => False)) (fun _ _ hf => hf) (SK.of_below hb), h.fm.below hb, MapAt.below h.tm hb, h.mails.below hb, h.tr.then_below hb, h.own⟩
theorem SyncAt.oB (h : SyncAt B w0 g lv0 b8 b9 Av l w lv S top vo O) : w0.heap.size ≤ w.heap.size := h.tr.size
end
theorem told_one (t : S65) {v : Value} {A : Option Addr} {n c : Nat} (hv : v = .slice A n c) : ∀ u ∈ [Value.int .i64 t.f0, .int .i64 t.f1, v], u.oneCell' = true := by
  subst hv
  intro u hu
  simp only [List.mem_cons, List.mem_nil_iff, or_false] at hu
  rcases hu with rfl | rfl | rfl <;> rfl
end Go.Proofs.YtnenlkojecicfaaDoor.V
