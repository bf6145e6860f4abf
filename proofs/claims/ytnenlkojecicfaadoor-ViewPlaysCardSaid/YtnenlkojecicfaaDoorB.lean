/- What of memory stays as it is: the words that the walks of the view seat use. -/
import Derived.Test.YtnenlkojecicfaaDoorPx0
set_option linter.unusedVariables false
set_option linter.unusedSimpArgs false
namespace Go.Proofs.YtnenlkojecicfaaDoor.V
open Go.RowKit Go.Proofs.YtnenlkojecicfaaDoorW.PrintWords Go.Proofs.YtnenlkojecicfaaDoor.P

/-- All that was there is as it was, but for the blocks of X. -/
structure Tr (X : Nat → Prop) (w w' : World) : Prop where
  os : w'.os = w.os
  tape : w'.tape = w.tape
  output : w'.output = w.output
  size : w.heap.size ≤ w'.heap.size
  keep : ∀ k, k < w.heap.size → ¬ X k → w'.heap[k]? = w.heap[k]?
section
variable {X Y : Nat → Prop} {w w1 w2 : World}
theorem Tr.refl (X : Nat → Prop) (w : World) : Tr X w w := ⟨rfl, rfl, rfl, Nat.le_refl _, fun _ _ _ => rfl⟩
theorem Tr.of_below (h : Below w.heap.size w w1) (X : Nat → Prop) : Tr X w w1 := ⟨h.os, h.tape, h.output, h.size, fun k hk _ => h.block k hk⟩
theorem Tr.trans (h : Tr X w w1) (k : Tr Y w1 w2) (hs : ∀ i, i < w.heap.size → Y i → X i) : Tr X w w2 :=
  ⟨k.os.trans h.os, k.tape.trans h.tape, k.output.trans h.output, Nat.le_trans h.size k.size, fun i hi hn =>
    (k.keep i (Nat.lt_of_lt_of_le hi h.size) (fun hy => hn (hs i hi hy))).trans (h.keep i hi hn)⟩
theorem Tr.mono (h : Tr X w w1) (hs : ∀ i, i < w.heap.size → X i → Y i) : Tr Y w w1 := ⟨h.os, h.tape, h.output, h.size, fun i hi hn => h.keep i hi (fun hx => hn (hs i hi hx))⟩
theorem Tr.then_below (h : Tr X w w1) (k : Below w1.heap.size w1 w2) : Tr X w w2 := h.trans (Tr.of_below k (fun _ => False)) (fun _ _ hf => hf.elim)
theorem Tr.below {B : Nat} (h : Tr X w w1) (hX : ∀ k, k < B → ¬ X k) (hB : B ≤ w.heap.size) : Below B w w1 := ⟨h.os, h.tape, h.output, h.size, fun k hk => h.keep k (by omega) (hX k hk)⟩
theorem Tr.to_below (h : Tr (fun k => w.heap.size ≤ k) w w1) : Below w.heap.size w w1 := h.below (fun k hk hx => by omega) (Nat.le_refl _)
theorem Tr.alloc (h : Tr X w w1) (o : Obj) : Tr X w (w1.alloc o) := h.then_below (below_alloc (Below.refl _ _) o)
theorem Tr.drew (h : Tr X w w1) : Tr X w w1.drew := h.then_below (below_drew (Below.refl _ _))
theorem Tr.drewN (h : Tr X w w1) (n : Nat) : Tr X w (w1.drewN n) := h.then_below (pw_below_drewN (Below.refl _ _) n)
theorem Tr.setCell (h : Tr X w w1) {p : Addr} (hp : X p.block ∨ w.heap.size ≤ p.block) (u : Value) : Tr X w (w1.setCell p u) :=
  h.trans (Y := fun k => k = p.block) ⟨rfl, rfl, rfl, by simp [World.setCell], fun k _ hn => Below.heap_setCell _ _ _ _ hn⟩ (fun i hi he => by subst he; rcases hp with hp | hp; exact hp; omega)
theorem Tr.grown (h : Tr X w w1) {row : Option Nat} (hg : w1.grownBy w2 row) (hr : ∀ k, row = some k → X k ∨ w.heap.size ≤ k) : Tr X w w2 :=
  h.trans (Y := fun k => row = some k) ⟨hg.os, hg.tape, hg.output, hg.size, fun k hk hn => hg.block k hk (fun e => hn e.symm)⟩ (fun i hi he => by rcases hr i he with hp | hp; exact hp; omega)
end

/-- Blocks that nobody writes: those below B, and those of the types T. -/
def Sol (T : List Nat) (B : Nat) (w : World) (k : Nat) : Prop := k < B ∨ ∃ t c f, t ∈ T ∧ w.heap[k]? = some (.cells c t f)
def SK (T : List Nat) (B : Nat) (w w' : World) : Prop := w.heap.size ≤ w'.heap.size ∧ ∀ k, k < w.heap.size → Sol T B w k → w'.heap[k]? = w.heap[k]?
section
variable {T T' : List Nat} {B : Nat} {w w1 w2 : World} {X : Nat → Prop}
theorem lt_of_block {w : World} {k : Nat} {o : Obj} (h : w.heap[k]? = some o) : k < w.heap.size := (Array.getElem?_eq_some_iff.1 h).1
theorem SK.refl (T : List Nat) (B : Nat) (w : World) : SK T B w w := ⟨Nat.le_refl _, fun _ _ _ => rfl⟩
theorem Sol.step (h : SK T B w w1) {k : Nat} (hs : Sol T B w k) : Sol T B w1 k := by
  rcases hs with hs | ⟨t, c, f, ht, hc⟩
  · exact .inl hs
  · exact .inr ⟨t, c, f, ht, (h.2 k (lt_of_block hc) (.inr ⟨t, c, f, ht, hc⟩)).trans hc⟩
theorem SK.trans (h : SK T B w w1) (k : SK T B w1 w2) : SK T B w w2 :=
  ⟨Nat.le_trans h.1 k.1, fun i hi hs => (k.2 i (Nat.lt_of_lt_of_le hi h.1) (hs.step h)).trans (h.2 i hi hs)⟩
theorem SK.of_tr (h : Tr X w w1) (hX : ∀ k, X k → ¬ Sol T B w k) : SK T B w w1 := ⟨h.size, fun k hk hs => h.keep k hk (fun hx => hX k hx hs)⟩
theorem SK.of_below (h : Below w.heap.size w w1) : SK T B w w1 := ⟨h.size, fun k hk _ => h.block k hk⟩
theorem SK.sub (h : SK T B w w1) (hT : ∀ t, t ∈ T' → t ∈ T) : SK T' B w w1 := ⟨h.1, fun k hk hs => h.2 k hk (by
  rcases hs with hs | ⟨t, c, f, ht, hc⟩
  · exact .inl hs
  · exact .inr ⟨t, c, f, hT t ht, hc⟩)⟩
theorem not_sol {k t : Nat} {c : Array Value} {f : Nat × Nat} (hB : B ≤ k) (hc : w.heap[k]? = some (.cells c t f)) (ht : t ∉ T) : ¬ Sol T B w k := by
  rintro (hs | ⟨t', c', f', ht', hc'⟩)
  · omega
  · rw [hc] at hc'
    injection hc' with hc'
    injection hc' with _ e _
    subst e
    exact ht ht'
end

/-- A row that is read, in blocks that nobody writes. -/
def Rd {α : Type} (T : List Nat) (B : Nat) (d : Kd α) (w : World) (A : Option Addr) (n : Nat) (xs : List α) : Prop := Kd.F d w (Sol T B w) A n xs
section
variable {α : Type} {T : List Nat} {B n : Nat} {d : Kd α} {w w1 : World} {A : Option Addr} {xs : List α}
theorem Rd.now (h : Rd T B d w A n xs) : d.C w A n xs := Kd.F_now h
theorem Rd.step (h : Rd T B d w A n xs) (hk : SK T B w w1) : Rd T B d w1 A n xs := Kd.F_mono (Kd.F_step h (fun k hok hlt => hk.2 k hlt hok)) (fun _ hs => hs.step hk)
theorem Rd.below (h : Rd T B d w A n xs) (hb : Below w.heap.size w w1) : Rd T B d w1 A n xs := h.step (SK.of_below hb)
theorem Rd.nil (T : List Nat) (B : Nat) (d : Kd α) (w : World) : Rd T B d w none 0 [] := Kd.F_nil d w _
theorem Rd.sub {T' : List Nat} (h : Rd T' B d w A n xs) (hT : ∀ t, t ∈ T' → t ∈ T) : Rd T B d w A n xs := Kd.F_mono h (fun k hs => by
  rcases hs with hs | ⟨t, c, f, ht, hc⟩
  · exact .inl hs
  · exact .inr ⟨t, c, f, hT t ht, hc⟩)
end
/-- What was made anew, of types T alone. -/
theorem Rd.of_R {α : Type} {T : List Nat} {d : Kd α} {e B base c : Nat} {w : World} {ok : Nat → Prop} {A : Option Addr} {xs : List α} (h : d.R e w base ok (.slice A xs.length c) xs) (hT : ∀ q, q ∈ e :: d.E → q ∈ T) : Rd T B d w A xs.length xs :=
  Kd.F_mono (Kd.R_F (Kd.R_bound h)) (fun k hk => by
    obtain ⟨_, _, _, q, hq, cells, hc⟩ := hk
    exact .inr ⟨q, cells, (0, 0), hT q hq, hc⟩)
/-- What came in lies below. -/
theorem Rd.of_C {α : Type} {T : List Nat} {d : Kd α} (hd : Kd.Heap d) {w : World} {A : Option Addr} {n : Nat} {xs : List α} (h : d.C w A n xs) : Rd T w.heap.size d w A n xs :=
  Kd.F_mono (Kd.C_F hd h) (fun _ hk => .inl hk)

/-- An append to a row of another type turns nothing of these. -/
theorem SK.of_grown {T : List Nat} {B base n size : Nat} {e : TypeId} {w w1 : World} {v : Value} {xs : List Value} (hg : w.grownBy w1 v.ownBlock) (ho : w.ownsRow base e size v n xs) (hB : B ≤ base) (he : e ∉ T) : SK T B w w1 := by
  refine ⟨hg.size, fun k hk hs => hg.block k hk (fun ek => ?_)⟩
  obtain ⟨cells, hc⟩ := own_typed ho k ek.symm
  exact not_sol (Nat.le_trans hB (own_base ho k ek.symm)) hc he hs
theorem Tr.of_grown {base n size : Nat} {e : TypeId} {w w1 : World} {v : Value} {xs : List Value} (hg : w.grownBy w1 v.ownBlock) (ho : w.ownsRow base e size v n xs) : Tr (fun k => v.ownBlock = some k) w w1 :=
  (Tr.refl _ w).grown hg (fun _ h => .inl h)

/-- A row of elements of type t that is read: in blocks that nobody writes; R is what an element's cells say. -/
def Rw {α : Type} (t B : Nat) (R : World → α → List Value → Prop) (size : Nat) (w : World) (A : Option Addr) (n : Nat) (xs : List α) : Prop :=
  ReadsRow (R w) size w A n xs ∧ (0 < n → ∃ ad, A = some ad ∧ Sol [t] B w ad.block)
section
variable {α : Type} {t B size n : Nat} {R : World → α → List Value → Prop} {w w1 : World} {A : Option Addr} {xs : List α} {T : List Nat}
theorem Rw.nil (t B : Nat) (R : World → α → List Value → Prop) (size : Nat) (w : World) : Rw t B R size w none 0 [] := ⟨⟨rfl, by omega, fun h => absurd h (by omega)⟩, fun h => absurd h (by omega)⟩
theorem Rw.step (h : Rw t B R size w A n xs) (hk : SK T B w w1) (ht : t ∈ T) (hR : ∀ x c, R w x c → R w1 x c) : Rw t B R size w1 A n xs := by
  obtain ⟨⟨h1, h2, h3⟩, h4⟩ := h
  have hk' : SK [t] B w w1 := hk.sub (by simpa using ht)
  refine ⟨⟨h1, h2, fun hn => ?_⟩, fun hn => ?_⟩
  · obtain ⟨ad, rfl, hc⟩ := h3 hn
    obtain ⟨ad', e, hs⟩ := h4 hn
    injection e with e
    subst e
    refine ⟨ad, rfl, fun j p hj => ?_⟩
    obtain ⟨c, hl, hr, hcc⟩ := hc j p hj
    refine ⟨c, hl, hR _ _ hr, fun i u hu => ?_⟩
    have h5 := hcc i u hu
    have h6 := World.block_lt_of_cell? w _ h5
    have hb := hk'.2 (ad.add (j * size + i)).block h6 (by rw [add_block]; exact hs)
    rw [← h5]
    exact World.cell?_of_block hb
  · obtain ⟨ad, e, hs⟩ := h4 hn
    exact ⟨ad, e, hs.step hk'⟩
end
/-- A row of one's own is one that is read. -/
theorem Rw.of_own {α : Type} {t B size base : Nat} {R : World → α → List Value → Prop} {w : World} {v : Value} {xs : List α} (h : OwnRow (R w) t size w base v xs) :
    ∃ A c, v = .slice A xs.length c ∧ xs.length ≤ c ∧ Rw t B R size w A xs.length xs := by
  obtain ⟨A, c, hv, hl, hr⟩ := h.reads
  obtain ⟨inner, ho, _⟩ := h
  refine ⟨A, c, hv, hl, hr, fun hn => ?_⟩
  subst hv
  obtain ⟨g, cap, he, _⟩ := ho.form hn
  injection he with he _ _
  subst he
  obtain ⟨cells, hc⟩ := own_typed ho g rfl
  exact ⟨_, rfl, .inr ⟨t, cells, (0, 0), by simp, hc⟩⟩
/-- Flags, as a value that is read. -/
def Fl (B : Nat) (w : World) (v : Value) (fs : List ByteArray) : Prop := ∃ A c, v = .slice A fs.length c ∧ fs.length ≤ c ∧ Rd [9] B Kd.string w A fs.length fs
theorem Fl.step {B : Nat} {w w1 : World} {v : Value} {fs : List ByteArray} (h : Fl B w v fs) (hk : SK [9] B w w1) : Fl B w1 v fs := by
  obtain ⟨A, c, e, hl, hr⟩ := h
  exact ⟨A, c, e, hl, hr.step hk⟩
theorem Fl.nil (B : Nat) (w : World) : Fl B w (.slice none 0 0) [] := ⟨none, 0, rfl, by simp, Rd.nil _ _ _ _⟩

section
variable {P : Program} {ops : Array Oper} {rest : List Oper} {o : Oper} {a : Act} {Q : Exit → Act → World → Prop} {K : Act → World → Prop} {α : Type}
/-- append(v, x), x's cells are cs; behind 'at_builtin'. -/
theorem app_row {W : World} (Rf : World → α → List Value → Prop) (base B : Nat) (hgd : o.guard = none) (s x : Operand) (t e : TypeId) (z : Value) (size bytes : Nat)
    (ho : o.op = .call { callee := .builtin .append, args := #[s, x], argTypes := #[t, t] })
    (ht : P.underlying t = some (.slice e)) (hinfo : (P.info? e).map (fun i => (i.zero, i.size, i.bytes)) = some (some z, size, bytes)) (hz : z.cells.size = size) (hs0 : 0 < size) (hb0 : 0 < bytes)
    (v : Value) (ps : List α) (p : α) (cs : List Value) (hs : a.eval s = v) (m : Nat) (hx : a.eval x = .slice (some ⟨m, 0, none⟩) 1 1) (hm : W.heap.size = m) (hp : Rf W p cs) (hcs : cs.length = size) (h1 : ∀ u ∈ cs, u.oneCell' = true)
    (HO : OwnRow (Rf W) e size W base v ps) (hbase : base ≤ W.heap.size) (hB : B ≤ base) (he : e ∉ [9]) (hl : (ps.length + 1) * bytes ≤ 140737488355328)
    (hstep : ∀ w1, SK [9] B W w1 → ∀ p c, Rf W p c → Rf w1 p c)
    (h : ∀ v1 w1, OwnRow (Rf w1) e size w1 base v1 (ps ++ [p]) → Tr (fun k => v.ownBlock = some k) W w1 → (v1.ownBlock = v.ownBlock ∨ ∃ b, v1.ownBlock = some b ∧ W.heap.size ≤ b) → wpList P ops Q rest (a.put o.dst v1) w1) :
    wpList P ops Q (o :: rest) a (W.alloc (.cells cs.toArray e)) := by
  subst hm
  refine OwnRow.append (w0 := W) base hgd s x t e z size bytes ho ht hinfo hz hs0 hb0 v ps p cs hs hx hp hcs h1 HO (Below.refl _ _) hbase hl ?_
  intro v1 w1 ho1 _ hg hat
  obtain ⟨inner, hown, _⟩ := HO
  exact h v1 w1 (ho1.imp_ (hstep w1 (SK.of_grown hg hown hB he))) (Tr.of_grown hg hown) hat
/-- The same as a step of a region that draws. -/
theorem app_step {W : World} (Rf : World → α → List Value → Prop) (base B : Nat) (hw : Region.wanted o (yielded ops a.tmps) = true) (s x : Operand) (t e : TypeId) (z : Value) (size bytes : Nat)
    (ho : o.op = .call { callee := .builtin .append, args := #[s, x], argTypes := #[t, t] })
    (ht : P.underlying t = some (.slice e)) (hinfo : (P.info? e).map (fun i => (i.zero, i.size, i.bytes)) = some (some z, size, bytes)) (hz : z.cells.size = size) (hs0 : 0 < size) (hb0 : 0 < bytes)
    (v : Value) (ps : List α) (p : α) (cs : List Value) (hs : a.eval s = v) (m : Nat) (hx : a.eval x = .slice (some ⟨m, 0, none⟩) 1 1) (hm : W.heap.size = m) (hp : Rf W p cs) (hcs : cs.length = size) (h1 : ∀ u ∈ cs, u.oneCell' = true)
    (HO : OwnRow (Rf W) e size W base v ps) (hbase : base ≤ W.heap.size) (hB : B ≤ base) (he : e ∉ [9]) (hl : (ps.length + 1) * bytes ≤ 140737488355328)
    (hstep : ∀ w1, SK [9] B W w1 → ∀ p c, Rf W p c → Rf w1 p c)
    (h : ∀ v1 w1, OwnRow (Rf w1) e size w1 base v1 (ps ++ [p]) → Tr (fun k => v.ownBlock = some k) W w1 → (v1.ownBlock = v.ownBlock ∨ ∃ b, v1.ownBlock = some b ∧ W.heap.size ≤ b) → K (a.put o.dst v1) w1) :
    if Region.wanted o (yielded ops a.tmps) = true then Oper.wp P o a (W.alloc (.cells cs.toArray e)) K Q else K (a.put o.dst undef) (W.alloc (.cells cs.toArray e)) := by
  subst hm
  refine OwnRow.append_step (w0 := W) base hw s x t e z size bytes ho ht hinfo hz hs0 hb0 v ps p cs hs hx hp hcs h1 HO (Below.refl _ _) hbase hl ?_
  intro v1 w1 ho1 _ hg hat
  obtain ⟨inner, hown, _⟩ := HO
  exact h v1 w1 (ho1.imp_ (hstep w1 (SK.of_grown hg hown hB he))) (Tr.of_grown hg hown) hat
end

section
variable {P : Program} {ops : Array Oper} {rest : List Oper} {o : Oper} {a : Act} {Q : Exit → Act → World → Prop} {α : Type}
/-- append(v, x) where what an element's cells say hangs on no world. -/
theorem app_plain {W : World} (R : α → List Value → Prop) (base : Nat) (hgd : o.guard = none) (s x : Operand) (t e : TypeId) (z : Value) (size bytes : Nat)
    (ho : o.op = .call { callee := .builtin .append, args := #[s, x], argTypes := #[t, t] })
    (ht : P.underlying t = some (.slice e)) (hinfo : (P.info? e).map (fun i => (i.zero, i.size, i.bytes)) = some (some z, size, bytes)) (hz : z.cells.size = size) (hs0 : 0 < size) (hb0 : 0 < bytes)
    (v : Value) (ps : List α) (p : α) (cs : List Value) (hs : a.eval s = v) (m : Nat) (hx : a.eval x = .slice (some ⟨m, 0, none⟩) 1 1) (hm : W.heap.size = m) (hp : R p cs) (hcs : cs.length = size) (h1 : ∀ u ∈ cs, u.oneCell' = true)
    (HO : OwnRow R e size W base v ps) (hbase : base ≤ W.heap.size) (hl : (ps.length + 1) * bytes ≤ 140737488355328)
    (h : ∀ v1 w1, OwnRow R e size w1 base v1 (ps ++ [p]) → Tr (fun k => v.ownBlock = some k) W w1 → (v1.ownBlock = v.ownBlock ∨ ∃ b, v1.ownBlock = some b ∧ W.heap.size ≤ b) → wpList P ops Q rest (a.put o.dst v1) w1) :
    wpList P ops Q (o :: rest) a (W.alloc (.cells cs.toArray e)) := by
  subst hm
  refine OwnRow.append (w0 := W) base hgd s x t e z size bytes ho ht hinfo hz hs0 hb0 v ps p cs hs hx hp hcs h1 HO (Below.refl _ _) hbase hl ?_
  intro v1 w1 ho1 _ hg hat
  obtain ⟨inner, hown, _⟩ := HO
  exact h v1 w1 ho1 (Tr.of_grown hg hown) hat
end
theorem orow_base {α : Type} {R : α → List Value → Prop} {e : TypeId} {size base : Nat} {w : World} {v : Value} {ps : List α} (h : OwnRow R e size w base v ps) (k : Nat) (hk : v.ownBlock = some k) : base ≤ k := by
  obtain ⟨inner, ho, _⟩ := h
  exact own_base ho k hk
end Go.Proofs.YtnenlkojecicfaaDoor.V
