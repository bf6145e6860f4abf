/- What stands in memory between the calls of a law: the view, sets of UIDs, UIDs. -/
import Derived.Test.YtnenlkojecicfaaDoorP2
import Derived.Test.YtnenlkojecicfaaDoorC1
import Derived.Test.YtnenlkojecicfaaDoorS1c
set_option linter.unusedVariables false
set_option linter.unusedSimpArgs false
namespace Go.Proofs.YtnenlkojecicfaaDoor.V
open Go.RowKit Go.Proofs.YtnenlkojecicfaaDoorW.PrintWords Go.Proofs.YtnenlkojecicfaaDoor.P

/-- A set of UIDs. -/
def BMap (w : World) (b : Nat) (us : List Int) : Prop := MapAt w b (us.map (fun u => (u, Value.bool true)))
section
variable {w w1 : World} {b : Nat} {us : List Int} {u : Int}
theorem BMap.lookup (h : BMap w b us) (hu : (Lit.int .i64 u).wf = true) : (Instr.lookup 29 (.map (some b)) (.int .i64 u) false).run Tryd.prog w = .ok (.bool (us.contains u)) w := by
  cases ht : us.contains u with
  | true => exact MapAt.lookup h Tryd.underlying29 hu (List.mem_map.2 ⟨u, by simpa using ht, rfl⟩)
  | false =>
    refine MapAt.lookup_none h Tryd.underlying29 (zero4 w) hu (fun p hp e => ?_)
    obtain ⟨x, hx, rfl⟩ := List.mem_map.1 hp
    subst e
    simp at ht
    exact ht hx
theorem BMap.update (h : BMap w b us) (hu : (Lit.int .i64 u).wf = true) (hn : u ∉ us) :
    ∃ w1, (Instr.mapUpdate 29 (.map (some b)) (.int .i64 u) (.bool true)).run Tryd.prog w = .ok () w1 ∧ BMap w1 b (us ++ [u]) ∧ Tr (fun k => k = b) w w1 := by
  obtain ⟨w1, h1, h2, h3⟩ := MapAt.update h Tryd.underlying29 hu (fun p hp e => by
    obtain ⟨x, hx, rfl⟩ := List.mem_map.1 hp
    subst e
    exact hn hx) (.bool true)
  exact ⟨w1, h1, by unfold BMap; rw [List.map_append]; exact h2, h3⟩
theorem BMap.made (w : World) : BMap (w.alloc (.map #[] 0)) w.heap.size [] := MapAt.made w
theorem BMap.below (h : BMap w b us) (hb : Below w.heap.size w w1) : BMap w1 b us := MapAt.below h hb
theorem BMap.step {X : Nat → Prop} (h : BMap w b us) (ht : Tr X w w1) (hX : ¬ X b) : BMap w1 b us := MapAt.step h ht hX
theorem BMap.lt (h : BMap w b us) : b < w.heap.size := MapAt.lt h
theorem BMap.sk (h : BMap w b us) {T : List Nat} {B : Nat} (hB : B ≤ b) (ht : Tr (fun k => k = b) w w1) : SK T B w w1 := SK.of_tr ht (fun k e => by subst e; exact MapAt.not_sol h hB)
end
theorem take_fresh {us : List Int} (h : us.Pairwise (· < ·)) {k : Nat} {u : Int} (hu : us[k]? = some u) : u ∉ us.take k := by
  intro hg
  obtain ⟨j, hj⟩ := List.getElem?_of_mem hg
  have hjk : j < k := by
    have := (List.getElem?_eq_some_iff.1 hj).1
    rw [List.length_take] at this
    omega
  rw [List.getElem?_take_of_lt hjk] at hj
  obtain ⟨hk, e1⟩ := List.getElem?_eq_some_iff.1 hu
  obtain ⟨hj', e2⟩ := List.getElem?_eq_some_iff.1 hj
  have := List.pairwise_iff_getElem.1 h j k hj' hk hjk
  omega
/-- UIDs that are read, in blocks that nobody writes. -/
def IL (B : Nat) (w : World) (v : Value) (ns : List Int) : Prop := ∃ A c, v = .slice A ns.length c ∧ ns.length ≤ c ∧ Rd [3] B (Kd.int .i64) w A ns.length ns
theorem IL.step {B : Nat} {w w1 : World} {v : Value} {ns : List Int} (h : IL B w v ns) (hk : SK [3] B w w1) : IL B w1 v ns := by
  obtain ⟨A, c, e, hl, hr⟩ := h
  exact ⟨A, c, e, hl, hr.step hk⟩
theorem IL.below {B : Nat} {w w1 : World} {v : Value} {ns : List Int} (h : IL B w v ns) (hb : Below w.heap.size w w1) : IL B w1 v ns := h.step (SK.of_below hb)
theorem IL.ic {B : Nat} {w : World} {v : Value} {ns : List Int} (h : IL B w v ns) : IC w v ns := by
  obtain ⟨A, c, e, hl, hr⟩ := h
  exact ⟨A, c, e, hl, hr.now⟩
theorem IRow.il {w : World} {base : Nat} {v : Value} {ns : List Int} (h : IRow w base v ns) (B : Nat) : IL B w v ns := by
  have hR : (Kd.int .i64).R 3 w base (fun _ => True) v ns := ⟨fun _ _ => trivial, h⟩
  obtain ⟨A, c, rfl, hl, _⟩ := Kd.R_reads hR
  exact ⟨A, c, rfl, hl, Rd.of_R hR (by intro q hq; simpa [Kd.int, Kd.scalar] using hq)⟩
theorem IC.il {w : World} {v : Value} {ns : List Int} (h : IC w v ns) : IL w.heap.size w v ns := by
  obtain ⟨A, c, e, hl, hr⟩ := h
  exact ⟨A, c, e, hl, Rd.of_C (Kd.heap_int .i64) hr⟩
theorem il_spot {w : World} {A : Option Addr} {ns : List Int} (h : Kd.C (Kd.int .i64) w A ns.length ns) (hne : 0 < ns.length) :
    ∃ b o, A = some ⟨b, o, none⟩ ∧ ∀ j, j < ns.length → w.cell? ⟨b, o + j, none⟩ = some (.int .i64 (ns.getD j 0)) := by
  obtain ⟨_, _, h1⟩ := h
  obtain ⟨ad, rfl, hc⟩ := h1 hne
  have at_ : ∀ j, j < ns.length → w.cell? (ad.add j) = some (.int .i64 (ns.getD j 0)) := fun j hj => by
    have hg : ns[j]? = some (ns[j]'hj) := List.getElem?_eq_getElem hj
    obtain ⟨c, _, rfl, hcc⟩ := hc j _ hg
    have := hcc 0 _ rfl
    rw [show (Kd.int .i64).sz = 1 from rfl, Nat.mul_one, Nat.add_zero] at this
    rw [this]
    simp [List.getD, hg]
  have h0 := at_ 0 hne
  have hs := spot_none h0
  rw [Addr.add, if_pos rfl] at hs
  obtain ⟨b, o, s⟩ := ad
  simp only at hs
  subst hs
  exact ⟨b, o, rfl, fun j hj => by rw [← Addr.add_lit]; exact at_ j hj⟩
theorem IL.cells {B : Nat} {w : World} {v : Value} {ns : List Int} (h : IL B w v ns) (hne : 0 < ns.length) :
    ∃ b o c, v = .slice (some ⟨b, o, none⟩) ns.length c ∧ ns.length ≤ c ∧ ∀ (j : Nat) (u : Int), ns[j]? = some u → w.cell? ⟨b, o + j, none⟩ = some (.int .i64 u) := by
  obtain ⟨A, c, e, hl, hr⟩ := h
  obtain ⟨b, o, rfl, hc⟩ := il_spot hr.now hne
  refine ⟨b, o, c, e, hl, fun j u hj => ?_⟩
  have hjl := (List.getElem?_eq_some_iff.1 hj).1
  have := hc j hjl
  rw [List.getD_eq_getElem?_getD, hj] at this
  exact this
/-- Between calls: the view in memory; what came in stays. -/
structure LawAt (B : Nat) (w0 : World) (g : Nat) (w : World) (lv : Value) (S : List S74) (top : Int) (n : Nat) : Prop where
  hB : B = w0.heap.size
  vw : Vw S top n
  view : ViewAt 70 74 B w g lv S top
  low : Below B w0 w
section
variable {B g b n : Nat} {w0 w w1 : World} {lv lv1 : Value} {S S1 : List S74} {top top1 : Int} {us : List Int}
theorem LawAt.size (h : LawAt B w0 g w lv S top n) : B ≤ w.heap.size := by rw [h.hB]; exact h.low.size
theorem LawAt.below (h : LawAt B w0 g w lv S top n) (hb : Below w.heap.size w w1) : LawAt B w0 g w1 lv S top n :=
  ⟨h.hB, h.vw, h.view.below hb, h.low.trans (hb.mono h.size)⟩
theorem LawAt.view_low (h : LawAt B w0 g w lv S top n) (ht : Tr (VX g lv) w w1) : Below B w0 w1 :=
  h.low.trans (ht.below (fun k hk hx => by have := (h.view.typed k hx).1; omega) h.size)
/-- A call of the view. -/
theorem LawAt.to (h : LawAt B w0 g w lv S top n) (ht : Tr (VX g lv) w w1) (hv : ViewAt 70 74 B w1 g lv1 S1 top1) {m : Nat} (hw : Vw S1 top1 m) : LawAt B w0 g w1 lv1 S1 top1 m :=
  ⟨h.hB, hw, hv, h.view_low ht⟩
/-- A set is written. -/
theorem LawAt.set (h : LawAt B w0 g w lv S top n) (hb : BMap w b us) (hB : B ≤ b) (ht : Tr (fun k => k = b) w w1) : LawAt B w0 g w1 lv S top n :=
  ⟨h.hB, h.vw, h.view.step ht (fun k hk e => by subst e; exact map_apart h.view hb hk) (hb.sk hB ht), h.low.trans (ht.below (fun k hk e => by omega) h.size)⟩
theorem LawAt.il_to (h : LawAt B w0 g w lv S top n) {v : Value} {ns : List Int} (hi : IL B w v ns) (ht : Tr (VX g lv) w w1) : IL B w1 v ns := hi.step (h.view.sk ht (by decide) (by decide))
theorem LawAt.set_to (h : LawAt B w0 g w lv S top n) (hb : BMap w b us) (ht : Tr (VX g lv) w w1) : BMap w1 b us := hb.step ht (map_apart h.view hb)
end
/-- A row of one's own is written: nothing of other types turns. -/
theorem orow_sk {α : Type} {R : α → List Value → Prop} {e size base B : Nat} {T : List Nat} {w w1 : World} {v : Value} {ps : List α} (ho : OwnRow R e size w base v ps) (hB : B ≤ base) (he : e ∉ T) (ht : Tr (fun k => v.ownBlock = some k) w w1) : SK T B w w1 :=
  SK.of_tr ht (fun k hk => by
    obtain ⟨h1, cells, hc⟩ := orow_typed ho k hk
    exact not_sol (Nat.le_trans hB h1) hc he)
theorem LawAt.row_to {α : Type} {R : α → List Value → Prop} {e size base B g n : Nat} {w0 w w1 : World} {lv v : Value} {S : List S74} {top : Int} {ps : List α} (h : LawAt B w0 g w lv S top n) (ho : OwnRow R e size w base v ps) (hB : B ≤ base)
    (h1 : e ≠ 70) (h2 : e ≠ 74) (h3 : e ≠ 9) (ht : Tr (fun k => v.ownBlock = some k) w w1) : LawAt B w0 g w1 lv S top n :=
  ⟨h.hB, h.vw, h.view.step ht (fun k hk e => view_apart h.view ho h1 h2 k e hk) (orow_sk ho hB (by simpa using h3) ht), h.low.trans (ht.below (fun k hk e => by have := orow_base ho k e; omega) h.size)⟩
/-- The calls that came in, in any world behind. -/
theorem acts_at {w0 w : World} {A : Option Addr} {l : List S33} (h : Kd.C k33 w0 A l.length l) (hb : Below w0.heap.size w0 w) (hq : ∀ x ∈ l, ActQ x) (k : Nat) (hk : k < l.length) :
    ∃ ad x A1 c1 A3 c3, A = some ad ∧ l[k]? = some x ∧ (w.cell? (ad.add (k * 4)) = some (.int .i64 x.f0) ∧
      w.cell? ⟨(ad.add (k * 4)).block, (ad.add (k * 4)).off + 1, none⟩ = some (.slice A1 x.f1.length c1) ∧
      w.cell? ⟨(ad.add (k * 4)).block, (ad.add (k * 4)).off + 2, none⟩ = some (.int .i64 x.f2) ∧
      w.cell? ⟨(ad.add (k * 4)).block, (ad.add (k * 4)).off + 3, none⟩ = some (.slice A3 x.f3.length c3)) ∧
      Mails w0.heap.size w A1 x.f1.length x.f1 ∧ Rd [9] w0.heap.size Kd.string w A3 x.f3.length x.f3 ∧ ActQ x := by
  obtain ⟨ad, x, A1, c1, A3, c3, e, hlt, hx, ⟨g0, g1, g2, g3⟩, gm, gf⟩ := act_at h k hk
  have cc : ∀ (p : Addr) (v : Value), w0.cell? p = some v → w.cell? p = some v := fun p v hp => by
    rw [← hp]
    exact hb.cell (World.block_lt_of_cell? w0 _ hp)
  have hs : SK [9, 43] w0.heap.size w0 w := SK.of_below hb
  exact ⟨ad, x, A1, c1, A3, c3, e, hx, ⟨cc _ _ g0, cc _ _ g1, cc _ _ g2, cc _ _ g3⟩, gm.step hs, gf.step (SK.of_below hb), hq x (List.mem_of_getElem? hx)⟩
end Go.Proofs.YtnenlkojecicfaaDoor.V
