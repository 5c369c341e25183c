/- A graph that a call builds: the empty graph, the graph of an order. -/
import Derived.Test.YtpdlcnpmljfclaaDoorEdge
import Derived.Test.YtpdlcnpmljfclaaDoorReach2
namespace Go.Proofs.YtpdlcnpmljfclaaDoor
open Go.RowKit
theorem natsI_snocN (l : List Nat) (x : Nat) : natsI (l ++ [x]) = natsI l ++ [(x : Int)] := by simp [natsI]
theorem l1All_any {n : Nat} {w : World} (hn : n ≤ 16) : Calls Tryd.prog 83 #[.int .i64 (n : Int)] w fun e w' => ∃ u, e = .returned u ∧ Own w' w.heap.size 2 1 u (natsI (List.range n)).length ((natsI (List.range n)).map (.int .i64)) ∧ Below w.heap.size w w' := by
  have hq0 : Below w.heap.size w (w.alloc (.cells #[] 2)) := (Below.refl _ _).alloc (Nat.le_refl _) _
  have ho0 : Own (w.alloc (.cells #[] 2)) w.heap.size 2 1 (.slice (some ⟨w.heap.size, 0, none⟩) 0 0) 0 [] := by
    have := World.ownsRow_lit (base := w.heap.size) (e := 2) (size := 1) w #[] 0 (Nat.le_refl _) (by unfold maxLen; omega) rfl
    simpa [Own] using this
  go_enter Tryd.func83, Tryd.ntmps83
  go_wp2
  go_loopw [3, 4] (fun o i wr => ∃ k : Nat, k ≤ n ∧ i = .int .i64 k ∧ Own wr w.heap.size 2 1 o k ((natsI (List.range k)).map (.int .i64)) ∧ Below w.heap.size w wr) (fun _ i _ => n - (intOf i).toNat)
  case atStart => exact ⟨0, Nat.zero_le _, rfl, by simpa [natsI] using ho0, hq0⟩
  case round =>
    clear hq0 ho0
    obtain ⟨k, hk, rfl, hown, hq⟩ := hrel
    have hB := hq.size
    by_cases hlt : k < n
    · go_wp2_with (at_builtin; refine wpList_append1 elI64 rfl _ _ rfl hown rfl rfl rfl (by omega) hB ?_; intro v' w1 hown1 hkept hmv)
      go_roundw
      case rel => exact ⟨k + 1, by omega, by go_num, by rw [List.range_succ, natsI_snocN, List.map_append]; exact hown1, hkept.below hq hB hown.ge⟩
      case measure => simp [intOf]; omega
    · obtain rfl : k = n := by omega
      go_wp2
      go_ret
      exact ⟨_, rfl, by rw [natsI_len, List.length_range]; exact hown, hq⟩


end Go.Proofs.YtpdlcnpmljfclaaDoor
