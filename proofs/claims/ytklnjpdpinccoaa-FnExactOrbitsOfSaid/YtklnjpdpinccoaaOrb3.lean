/- A graph that a call builds: the empty graph, the graph of an order. -/
import Derived.Test.YtklnjpdpinccoaaOrb2
namespace Go.Proofs.Ytklnjpdpinccoaa
open Go.RowKit
theorem repl_snoc (k : Nat) : (List.replicate (k + 1) ([] : List Int)) = List.replicate k [] ++ [[]] := by
  rw [List.replicate_succ']
set_option maxHeartbeats 2000000 in
theorem l1Empty_any {n : Nat} {w : World} (hn : n ≤ 16) : Calls Try.prog 105 #[.int .i64 (n : Int)] w fun e w' => ∃ u, e = .returned (.agg #[u]) ∧ OwnR w' w.heap.size w'.heap.size 26 2 u (List.replicate n []) ∧ Below w.heap.size w w' := by
  have hq0 : Below w.heap.size w ((w.alloc (.cells #[.slice none 0 0] 28)).alloc (.cells #[.slice none 0 0] 28)) := ((Below.refl _ _).alloc (Nat.le_refl _) _).alloc (by simp) _
  have hr0 := (own_new w w.heap.size 28 (.slice none 0 0) (Nat.le_refl _)).alloc (.cells #[.slice none 0 0] 28)
  have hg0 := own_new (w.alloc (.cells #[.slice none 0 0] 28)) (w.heap.size + 1) 28 (.slice none 0 0) (by simp)
  rw [show (w.alloc (.cells #[.slice none 0 0] 28)).heap.size = w.heap.size + 1 by simp] at hg0
  have hR0 : OwnR ((w.alloc (.cells #[.slice none 0 0] 28)).alloc (.cells #[.slice none 0 0] 28)) w.heap.size ((w.alloc (.cells #[.slice none 0 0] 28)).alloc (.cells #[.slice none 0 0] 28)).heap.size 26 2 (.slice none 0 0) (List.replicate 0 []) := ⟨[], rfl, Own.nil _ _ _ _, fun b hb => by simp [Value.ownBlock] at hb, ApartL.nil, fun i hi => by simp at hi⟩
  go_enter Try.func105, Try.ntmps105
  go_wp2
  go_loopw [4] (fun i wr => ∃ (k : Nat) (u : Value), k ≤ n ∧ i = .int .i64 k ∧ OwnR wr w.heap.size wr.heap.size 26 2 u (List.replicate k []) ∧ Own wr w.heap.size 28 1 (.slice (some ⟨w.heap.size, 0, none⟩) 1 1) 1 [.slice none 0 0] ∧ Own wr (w.heap.size + 1) 28 1 (.slice (some ⟨w.heap.size + 1, 0, none⟩) 1 1) 1 [u] ∧ Below w.heap.size w wr) (fun i _ => n - (intOf i).toNat)
  case atStart => exact ⟨0, _, Nat.zero_le _, rfl, hR0, hr0, hg0, hq0⟩
  case round =>
    clear hR0 hr0 hg0 hq0
    obtain ⟨k, u, hk, rfl, hR, hr, hg, hq⟩ := hrel
    obtain ⟨wi, rfl⟩ : ∃ wx : World, wx = wr := ⟨_, rfl⟩
    obtain ⟨g1, g2, -, g3⟩ := own_cell hg
    obtain ⟨r1, r2, -, r3⟩ := own_cell hr
    obtain ⟨ua, uc, rfl⟩ := hR.isSlice
    rw [List.length_replicate] at *
    by_cases hlt : k < n
    · have hba : Below wi.heap.size wi (wi.alloc (.cells #[] 2)) := (Below.refl _ _).alloc (Nat.le_refl _) _
      have hv2 : Own (wi.alloc (.cells #[] 2)) wi.heap.size 2 1 (.slice (some ⟨wi.heap.size, 0, none⟩) 0 0) ([] : List Int).length (([] : List Int).map (.int .i64)) := World.ownsRow_lit (base := wi.heap.size) (e := 2) (size := 1) wi #[] 0 (Nat.le_refl _) (by unfold maxLen; omega) rfl
      have hr3 := hr.below hba (Nat.le_refl _)
      have hg4 := hg.below hba (Nat.le_refl _)
      have hq2 := hq.trans (hba.mono hq.size)
      obtain ⟨vs, hvl, hown, hbC, hap, hrows⟩ := hR
      rw [List.length_replicate] at hvl hown
      have hown2 := hown.below hba (Nat.le_refl _)
      have hrows2 : ∀ i (h : i < (List.replicate k ([] : List Int)).length) (h2 : i < vs.length), Own (wi.alloc (.cells #[] 2)) w.heap.size 2 1 vs[i] (List.replicate k ([] : List Int))[i].length ((List.replicate k ([] : List Int))[i].map (.int .i64)) ∧ (∀ b, vs[i].ownBlock = some b → b < wi.heap.size ∧ _) := fun i h h2 => ⟨(hrows i h h2).1.below hba (Nat.le_refl _), (hrows i h h2).2⟩
      have hB2 := hq.size
      clear hrows
      go_wp2_with (at_builtin; refine wpList_append1b elRows rfl _ _ rfl hown2 rfl (by first | rfl | simp) rfl rfl (by omega) (by simp; omega) ?_; intro o5 w5 hown5 hkept hmv; have hg5 := hg4.kept hkept (fun b hb he => own_type hg4 hown2 (by decide) b hb he); have hr5 := hr3.kept hkept (fun b hb he => own_type hr3 hown2 (by decide) b hb he); obtain ⟨x1, x2, -, x3⟩ := own_cell hg5; obtain ⟨oa5, oc5, rfl⟩ := hown5.isSlice)
      have hR5 : OwnR w5 w.heap.size w5.heap.size 26 2 (.slice oa5 (k + 1) oc5) (List.replicate k [] ++ [[]]) := ownR_snoc (by rw [List.length_replicate]; exact hvl) (by simp) hap hrows2 hbC (by rw [List.length_replicate]; exact hown5) (hv2.weak hB2) (fun b hb => by simp [Value.ownBlock] at hb; omega) hkept (by
        rcases hmv with h | h
        · exact .inl h
        · exact .inr ⟨_, h, by simp⟩)
      have hq5 := hkept.below hq2 hq2.size (fun c h => (hown2.lt c h).1)
      go_roundw
      case rel => exact ⟨k + 1, _, by omega, by go_num, by rw [repl_snoc]; exact (hR5.setOther hg5 (by decide) (by decide) _).weaken (Nat.le_refl _) (by simp), hr5.keep (fun b hb => Below.heap_setCell _ _ _ _ (by have hbe : w.heap.size = b := (by simpa [Value.ownBlock] using hb); (simp; omega))), own_set hg5 _, hq5.setCell (by simp) _⟩
      case measure => simp [intOf]; omega
    · obtain rfl : k = n := by omega
      go_wp2
      refine bodyPost_ret (v := .agg #[.slice ua k uc]) (by simp [results, Try.results105, go_sem, r1]) rfl ⟨_, rfl, ?_, ?_⟩
      · exact (hR.setOther hr (by decide) (by decide) _).weaken (Nat.le_refl _) (by simp)
      · exact hq.setCell (by simp) _
end Go.Proofs.Ytklnjpdpinccoaa
