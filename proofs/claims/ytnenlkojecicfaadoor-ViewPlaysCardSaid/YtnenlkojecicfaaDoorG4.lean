/- view.New: a view that knows some messages. -/
import Derived.Test.YtnenlkojecicfaaDoorG1
set_option linter.unusedVariables false
set_option linter.unusedSimpArgs false
namespace Go.Proofs.YtnenlkojecicfaaDoor.V
open Go.RowKit Go.Proofs.YtnenlkojecicfaaDoorW.PrintWords Go.Proofs.YtnenlkojecicfaaDoor.P

theorem mem_risingF {ms : List S43} : ∀ (acc : List S43) (m : S43), m ∈ risingF acc ms → m ∈ acc ∨ m ∈ ms := by
  induction ms with
  | nil => exact fun acc m h => .inl h
  | cons a r ih =>
    intro acc m h
    unfold risingF at h
    rcases ih _ m h with h | h
    · split at h
      · rcases List.mem_append.1 h with h | h
        · exact .inl h
        · exact .inr (by rw [List.mem_singleton.1 h]; exact List.mem_cons_self)
      · exact .inl h
    · exact .inr (List.mem_cons_of_mem _ h)
theorem rising_small {ms : List S43} (hsm : ∀ m ∈ ms, ∀ f ∈ m.f1, f.size ≤ 140737488351232) : ∀ m ∈ risingF [] ms, ∀ f ∈ m.f1, f.size ≤ 140737488351232 := fun m hm => by
  rcases mem_risingF [] m hm with h | h
  · cases h
  · exact hsm m h
theorem rising_len (ms : List S43) : (risingF [] ms).length ≤ ms.length := by simpa using risingF_len [] ms

/-- A row of messages of one's own, as messages that are read. -/
theorem MRow.mails {B base : Nat} {w : World} {v : Value} {ms : List S43} (h : MRow B w base v ms) : ∃ A c, v = .slice A ms.length c ∧ Mails B w A ms.length ms := by
  obtain ⟨A, c, e, _, hr⟩ := Rw.of_own (R := MailAt B) h
  exact ⟨A, c, e, hr⟩
theorem ViewAt.new (B : Nat) (w : World) (hB : B ≤ w.heap.size) : ViewAt 70 74 B (w.alloc (.cells #[.slice none 0 0, .int .i64 0] 70)) w.heap.size (.slice none 0 0) [] 0 :=
  ⟨hB, heap_alloc_new w _, OwnRow.none_ _ _ _ _ _⟩

set_option maxRecDepth 100000 in
set_option maxHeartbeats 2000000 in
theorem new_calls (B : Nat) (A : Option Addr) (c : Nat) (ms : List S43) (w : World) (hB : B ≤ w.heap.size) (hr : Mails B w A ms.length ms) (hsm : ∀ m ∈ ms, ∀ f ∈ m.f1, f.size ≤ 140737488351232) (hlen : ms.length ≤ 1000) :
    Calls Tryd.prog 12 #[.slice A ms.length c] w fun e w' => ∃ (g : Nat) (lv : Value), e = .returned (.pointer (some ⟨g, 0, none⟩)) ∧
      ViewAt 70 74 B w' g lv (growF [] 0 (risingF [] ms)).1 (growF [] 0 (risingF [] ms)).2 ∧ Aside0 (∀ k, VX g lv k → w.heap.size ≤ k) ∧ Below w.heap.size w w' := by
  have HBB := Aside0.mk hB
  have HR := Aside0.mk hr
  clear hB hr
  go_enter Tryd.func12, Tryd.ntmps12
  go_wp2_with fail
  refine (rising_calls B A c ms _ (by have := HBB.out; simp; omega) (HR.out.below (below_alloc (Below.refl _ _) _)) (by omega)).mono ?_
  rintro e w1 ⟨v, rfl, ho1, hb1⟩
  have HV := Aside0.mk ((ViewAt.new B w HBB.out).below hb1)
  have HB1 := Aside0.mk hb1
  obtain ⟨Av, cv, hv, hm1⟩ := ho1.mails
  subst hv
  have HM1 := Aside0.mk hm1
  clear ho1 hm1 hb1
  go_wp2_with fail
  refine (grow_calls B w.heap.size (.slice none 0 0) [] 0 Av cv (risingF [] ms) w1 (by have := HBB.out; have := HB1.out.size; simp at this; omega) HV.out HM1.out (rising_small hsm) (by have := rising_len ms; simp; omega)).mono ?_
  rintro e w2 ⟨lv', rfl, hv2, ht2, hat2⟩
  have HV2 := Aside0.mk hv2
  have HT2 := Aside0.mk ht2
  have HA2 := Aside0.mk hat2
  clear hv2 ht2 hat2
  go_wp2
  go_ret
  have hsz : w.heap.size < w1.heap.size := by have := HB1.out.size; simp at this; omega
  have hnew : ∀ k, VX w.heap.size lv' k → w.heap.size ≤ k := by
    intro k hk
    rcases hk with rfl | hk
    · exact Nat.le_refl _
    · rcases HA2.out with h | ⟨b, hb, hle⟩
      · rw [h] at hk; simp [Value.ownBlock] at hk
      · rw [hb] at hk; injection hk with hk; omega
  refine ⟨_, lv', rfl, HV2.out, ⟨hnew⟩, ?_⟩
  refine ((below_alloc (Below.refl _ _) _).trans (HB1.out.mono (by simp))).trans (HT2.out.below (fun k hk hx => ?_) (by omega))
  rcases hx with hx | hx
  · omega
  · simp [Value.ownBlock] at hx
end Go.Proofs.YtnenlkojecicfaaDoor.V
