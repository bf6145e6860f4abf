/- slices.Delete at []place, one element: it is taken out in place. -/
import Derived.Test.YtnenlkojecicfaaDoorG2
import Derived.Deep.RegionLaw
import Derived.Lib.SliceRun
set_option linter.unusedVariables false
set_option linter.unusedSimpArgs false
namespace Go.Proofs.YtnenlkojecicfaaDoor.V
open Go.RowKit Go.Proofs.YtnenlkojecicfaaDoorW.PrintWords Go.Proofs.YtnenlkojecicfaaDoor.P

section
variable {α : Type} {R : α → List Value → Prop} {e size base : Nat} {w : World} {v : Value} {ps : List α}
/-- A row of one's own as a row of bare cells. -/
theorem orow_raw (h : OwnRow R e size w base v ps) (hR : ∀ (p : α) (c : List Value), R p c → c.length = size ∧ ∀ u ∈ c, u.oneCell' = true) :
    ∃ rows : List (List Value), (Kd.raw size).R e w base (fun _ => True) v rows ∧ rows.length = ps.length ∧ ∀ (j : Nat) (p : α), ps[j]? = some p → ∃ c, rows[j]? = some c ∧ R p c := by
  obtain ⟨inner, ho, hr⟩ := h
  refine ⟨Kd.chunks size ps.length inner, ⟨fun _ _ => trivial, inner, ?_, Kd.reps_raw hr hR⟩, Kd.chunks_length _ _ _, fun j p hj => ?_⟩
  · rw [Kd.chunks_length]; exact ho
  · exact ⟨_, Kd.chunks_at (List.getElem?_eq_some_iff.1 hj).1, hr.2 j p hj⟩
theorem orow_of_raw {ok : Nat → Prop} {rows : List (List Value)} (h : (Kd.raw size).R e w base ok v rows) (hl : rows.length = ps.length) (hR : ∀ (j : Nat) (p : α), ps[j]? = some p → ∃ c, rows[j]? = some c ∧ R p c) : OwnRow R e size w base v ps := by
  obtain ⟨_, inner, ho, hr⟩ := h
  refine ⟨inner, by rw [← hl]; exact ho, by rw [← hl]; exact hr.1, fun j p hj => ?_⟩
  obtain ⟨c, hc, hp⟩ := hR j p hj
  obtain ⟨e1, _⟩ := hr.2 j c hc
  rw [show List.take size (List.drop (j * size) inner) = c from e1]
  exact hp
end
/-- Cells beyond a row's last element are written: the row is as it was. -/
theorem own_beyond {w : World} {base g n cap size o : Nat} {e : TypeId} {xs vs : List Value} (h : w.ownsRow base e size (.slice (some ⟨g, 0, none⟩) n cap) n xs) (ho : n * size ≤ o) (hf : o + vs.length ≤ cap * size) :
    (w.setCells g o vs).ownsRow base e size (.slice (some ⟨g, 0, none⟩) n cap) n xs ∧ w.grownBy (w.setCells g o vs) (some g) := by
  obtain ⟨h1, h2⟩ := h
  rcases h2 with ⟨hv, _⟩ | ⟨g', cap', cur, hv, hb, hh, hn, hm, hs, ht⟩
  · cases hv
  injection hv with e1 _ e3
  injection e1 with e1
  injection e1 with e1
  subst e1
  subst e3
  obtain ⟨cur', h3, h4, h5⟩ := setCells_row vs o w cur hh (by omega)
  obtain ⟨s1, s2, s3, s4⟩ := setCells_same g vs o w
  refine ⟨⟨h1, .inr ⟨g, cap, cur', rfl, hb, h3, hn, hm, by omega, ?_⟩⟩, ⟨s1, s2, s3, by rw [s4]; exact Nat.le_refl _, fun k' _ hk' => setCells_far vs _ k' (fun he => hk' (by rw [he]))⟩⟩
  have h6 : (cur.toList.take o).length = o := by rw [List.length_take, Array.length_toList]; omega
  rw [h5, List.append_assoc, List.take_append_of_le_length (by omega), List.take_take, Nat.min_eq_left ho]
  exact ht
theorem own_room {w : World} {base g n cap size : Nat} {e : TypeId} {xs : List Value} (h : w.ownsRow base e size (.slice (some ⟨g, 0, none⟩) n cap) n xs) :
    ∃ cur : Array Value, w.heap[g]? = some (.cells cur e (0, 0)) ∧ cap * size ≤ cur.size := by
  obtain ⟨h1, h2⟩ := h
  rcases h2 with ⟨hv, _⟩ | ⟨g', cap', cur, hv, hb, hh, hn, hm, hs, ht⟩
  · cases hv
  injection hv with e1 _ e3
  injection e1 with e1
  injection e1 with e1
  subst e1
  subst e3
  exact ⟨cur, hh, by omega⟩
/-- 'clear' of one place. -/
theorem run_clear_place (w : World) (ty : TypeId) (b o c : Nat) (hc : ∀ j, j < 2 → (w.cell? ⟨b, o + j, none⟩).isSome = true) (hf : ∀ j, j < 2 → w.frozen? ⟨b, o + j, none⟩ = false) :
    (Builtin.clear_ #[66] ty #[.slice (some ⟨b, o, none⟩) 1 c]).run Tryd.prog w = .ok (.tuple #[]) (w.setCells b o [.int .i64 0, .slice none 0 0]) := by
  have hz : (zeroValue 74).run Tryd.prog w = .ok (.agg #[.int .i64 0, .slice none 0 0]) w := by kernel_rfl
  have hst := run_storeCells_cells (P := Tryd.prog) b o [.int .i64 0, .slice none 0 0] 0 w (by simpa using hc) (by simpa using hf) (by intro v hv'; simp at hv'; rcases hv' with rfl | rfl <;> rfl)
  simp only [Nat.add_zero] at hst
  have hzc : (Builtin.zeroCells (Value.agg #[.int .i64 0, .slice none 0 0]).cells 1).toList = [.int .i64 0, .slice none 0 0] := by
    simp [Builtin.zeroCells, Value.cells]
    rfl
  simp [Builtin.clear_, run_underlying Tryd.underlying66, hz, hzc, hst]

set_option maxRecDepth 100000 in
set_option maxHeartbeats 4000000 in
theorem delete_calls (B : Nat) (v : Value) (S : List S74) (i : Nat) (w : World) (hB : B ≤ w.heap.size) (ho : OwnRow (PlaceAt B w) 74 2 w B v S) (hi : i < S.length) (hS : S.length ≤ 1000000) :
    Calls Tryd.prog 40 #[v, .int .i64 i, .int .i64 (i + 1)] w fun e w' => ∃ v' : Value, e = .returned v' ∧ v'.ownBlock = v.ownBlock ∧ OwnRow (PlaceAt B w') 74 2 w' B v' (S.eraseIdx i) ∧ Tr (fun k => v.ownBlock = some k) w w' := by
  obtain ⟨Al, cl, hlv, hcl⟩ := OwnRow.slice_ ho
  obtain ⟨g, rfl⟩ : ∃ g, Al = some ⟨g, 0, none⟩ := by
    obtain ⟨inner, h, _⟩ := ho
    subst hlv
    obtain ⟨g, cap, he, _⟩ := h.form (by omega)
    injection he with he _ _
    exact ⟨g, he⟩
  subst hlv
  have HO := Aside0.mk ho
  have HB := Aside0.mk hB
  obtain ⟨rows, hR, hrl, hrc⟩ := orow_raw ho (fun p c hp => by
    obtain ⟨v, rfl, A, cc, rfl, _⟩ := hp
    exact ⟨rfl, by intro u hu; simp only [List.mem_cons, List.mem_nil_iff, or_false] at hu; rcases hu with rfl | rfl <;> rfl⟩)
  obtain ⟨m, hm⟩ : ∃ m, S.length = m + 1 := ⟨S.length - 1, by omega⟩
  rw [hm] at hR hi hcl hS
  have HR : Aside0 ((Kd.raw 2).R 74 w.drew B (fun _ => True) (.slice (some ⟨g, 0, none⟩) (m + 1) cl) rows) := ⟨Kd.R_below hR (below_drew (Below.refl _ _))⟩
  have HC := Lib.hid hrc
  have HL := Lib.hid hrl
  have HM := Lib.hid hm
  rw [hm]
  have hic : i ≤ cl := by omega
  have hjc : i + 1 ≤ cl := by omega
  have him : i ≤ m := by omega
  have hi0 : (0 : Int) ≤ (i : Int) + 1 := by omega
  clear hB ho hR hrc hrl hm
  have ho := HO.out
  rw [HM.out] at ho
  have HO' := Aside0.mk ho
  clear ho
  go_enter Tryd.func40, Tryd.ntmps40
  go_wp2_with fail
  go_region_law (refine Kd.R_delete_step (w0 := w) (Kd.raw 2) B (by rfl) (.tmp 22) (.tmp 25) 66 74 (by rfl) Tryd.underlying66 (by kernel_rfl) (by rfl) (by rfl) ?hA ?hm HR.out ?hk ?HB ?hbase ?_; (case hA => (split <;> first | rfl | (rw [Option.map_some, Addr.add_lit, Nat.zero_add]; rfl))); (case hm => omega); (case hk => omega); (case HB => exact below_drew (Below.refl _ _)); (case hbase => exact HB.out); intro w1 hr1 hb1 hg1)
  have ho := HO'.out
  have hel : (rows.eraseIdx i).length = m := by
    have e1 := HL.out
    have e2 := HM.out
    rw [List.length_eraseIdx, if_pos (by omega)]
    omega
  obtain ⟨cur, hcur, hcsz⟩ : ∃ cur : Array Value, w1.heap[g]? = some (.cells cur 74 (0, 0)) ∧ cl * 2 ≤ cur.size := by
    obtain ⟨_, inner, h, _⟩ := hr1
    rw [show m + 1 - 1 = (rows.eraseIdx i).length from hel.symm] at h
    exact own_room h
  have hclr : ∀ ty, (Builtin.clear_ #[66] ty #[.slice (some ⟨g, m * 2, none⟩) 1 (cl - m)]).run Tryd.prog w1 = .ok (.tuple #[]) (w1.setCells g (m * 2) [.int .i64 0, .slice none 0 0]) := fun ty =>
    run_clear_place w1 ty g (m * 2) (cl - m) (fun j hj => by
      simp [World.cell?, hcur]
      omega) (fun j hj => by simp [World.frozen?, hcur])
  have hgB : B ≤ g ∧ ∃ c f, w.heap[g]? = some (.cells c 74 f) := by
    obtain ⟨h1, c, h2⟩ := orow_typed ho g rfl
    exact ⟨h1, c, _, h2⟩
  have htr : Tr (fun k => (Value.slice (some ⟨g, 0, none⟩) (m + 1) cl).ownBlock = some k) w w1 := (Tr.drew (Tr.refl _ w)).grown hg1 (fun k hk => .inl hk)
  have hsk : SK [9] B w w1 := SK.of_tr htr (fun k hk => by
    injection hk with hk
    simp only at hk
    subst hk
    obtain ⟨h1, c, f, h2⟩ := hgB
    exact not_sol h1 h2 (by simp))
  have ho1 : OwnRow (PlaceAt B w1) 74 2 w1 B (.slice (some ⟨g, 0, none⟩) m cl) (S.eraseIdx i) := by
    refine orow_of_raw (ok := fun _ => True) (rows := rows.eraseIdx i) hr1 (by rw [hel, List.length_eraseIdx, if_pos (by have := HM.out; omega)]; have := HM.out; omega) (fun j p hj => ?_)
    rw [List.getElem?_eraseIdx] at hj ⊢
    split at hj
    · rename_i hji
      obtain ⟨c, hc, hp⟩ := HC.out j p hj
      rw [if_pos hji]
      exact ⟨c, hc, hp.step hsk⟩
    · rename_i hji
      obtain ⟨c, hc, hp⟩ := HC.out _ p hj
      rw [if_neg hji]
      exact ⟨c, hc, hp.step hsk⟩
  have hfin : Hid (OwnRow (PlaceAt B (w1.setCells g (m * 2) [.int .i64 0, .slice none 0 0])) 74 2 (w1.setCells g (m * 2) [.int .i64 0, .slice none 0 0]) B (.slice (some ⟨g, 0, none⟩) m cl) (S.eraseIdx i) ∧ Tr (fun k => (Value.slice (some ⟨g, 0, none⟩) (m + 1) cl).ownBlock = some k) w (w1.setCells g (m * 2) [.int .i64 0, .slice none 0 0])) := by
    have hlen : (S.eraseIdx i).length = m := by rw [List.length_eraseIdx, if_pos (by have := HM.out; omega)]; have := HM.out; omega
    have ho2 := ho1
    obtain ⟨inner, h, hr⟩ := ho1
    rw [show OwnRow (PlaceAt B w1) 74 2 w1 B (.slice (some ⟨g, 0, none⟩) m cl) (S.eraseIdx i) = OwnRow (PlaceAt B w1) 74 2 w1 B (.slice (some ⟨g, 0, none⟩) (S.eraseIdx i).length cl) (S.eraseIdx i) by rw [hlen]] at ho2
    obtain ⟨inner, h, hr⟩ := ho2
    obtain ⟨h1, h2⟩ := own_beyond (o := m * 2) (vs := [.int .i64 0, .slice none 0 0]) h (by omega) (by simp; omega)
    have ht2 := htr.grown h2 (fun k hk => .inl hk)
    have hs2 : SK [9] B w1 (w1.setCells g (m * 2) [.int .i64 0, .slice none 0 0]) := SK.of_grown (v := .slice (some ⟨g, 0, none⟩) (S.eraseIdx i).length cl) h2 h (Nat.le_refl _) (by simp)
    refine ⟨?_, ht2⟩
    rw [← hlen]
    refine ⟨inner, ?_, hr.imp_ (fun _ _ hp => hp.step ?_)⟩
    · rw [hlen] at h1 ⊢
      exact h1
    · rw [hlen]
      exact hs2
  have hmc : m ≤ cl := by omega
  have hmc2 : ¬ cl = m := by omega
  clear hb1 hg1 hr1 hcur hcsz hgB htr hsk ho1 ho hel
  go_wp2_with fail
  all_goals
    go_ret
    first
      | exact ⟨_, rfl, rfl, hfin.out.1, hfin.out.2⟩
      | (have hh : cl = i + 1 := by assumption
         subst hh
         exact ⟨_, rfl, rfl, hfin.out.1, hfin.out.2⟩)
end Go.Proofs.YtnenlkojecicfaaDoor.V
