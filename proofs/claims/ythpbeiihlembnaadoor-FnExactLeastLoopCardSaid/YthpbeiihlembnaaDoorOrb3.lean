/- A graph that a call builds: the empty graph, the graph of an order. -/
import Derived.Test.YthpbeiihlembnaaDoorEdge
import Derived.Test.YthpbeiihlembnaaDoorReach2
namespace Go.Proofs.YthpbeiihlembnaaDoor
open Go.RowKit
theorem natsI_snocN (l : List Nat) (x : Nat) : natsI (l ++ [x]) = natsI l ++ [(x : Int)] := by simp [natsI]
theorem l1All_any {n : Nat} {w : World} (hn : n ≤ 16) : Calls Tryd.prog 81 #[.int .i64 (n : Int)] w fun e w' => ∃ u, e = .returned u ∧ Own w' w.heap.size 2 1 u (natsI (List.range n)).length ((natsI (List.range n)).map (.int .i64)) ∧ Below w.heap.size w w' := by
  have hq0 : Below w.heap.size w (w.alloc (.cells #[] 2)) := (Below.refl _ _).alloc (Nat.le_refl _) _
  have ho0 : Own (w.alloc (.cells #[] 2)) w.heap.size 2 1 (.slice (some ⟨w.heap.size, 0, none⟩) 0 0) 0 [] := by
    have := World.ownsRow_lit (base := w.heap.size) (e := 2) (size := 1) w #[] 0 (Nat.le_refl _) (by unfold maxLen; omega) rfl
    simpa [Own] using this
  go_enter Tryd.func81, Tryd.ntmps81
  go_wp2
  go_loopw [3, 4] (fun o i wr => ∃ k : Nat, k ≤ n ∧ i = .int .i64 k ∧ Own wr w.heap.size 2 1 o k ((natsI (List.range k)).map (.int .i64)) ∧ Below w.heap.size w wr) (fun _ i _ => n - (intOf i).toNat)
  case atStart => exact ⟨0, Nat.zero_le _, rfl, by simpa [natsI] using ho0, hq0⟩
  case round =>
    clear hq0 ho0
    obtain ⟨k, hk, rfl, hown, hq⟩ := hrel
    have hB := hq.size
    by_cases hlt : k < n
    · go_wp2_with (at_builtin; refine wpList_append1 elI64 rfl _ _ rfl hown rfl rfl rfl (by omega) hB ?_; intro v' w1 hown1 hkept hmv)
      go_roundw
      case rel => exact ⟨k + 1, by omega, by go_num, by rw [List.range_succ, natsI_snocN, List.map_append]; exact hown1, hkept.below hq hB hown.ge⟩
      case measure => simp [intOf]; omega
    · obtain rfl : k = n := by omega
      go_wp2
      go_ret
      exact ⟨_, rfl, by rw [natsI_len, List.length_range]; exact hown, hq⟩
def wout (xs : List Int) (v : Int) : List Int := xs.filter fun x => decide (x ≠ v)
theorem wout_yes {xs : List Int} {v : Int} {k : Nat} (hk : k < xs.length) (h : xs[k] ≠ v) : wout (xs.take (k + 1)) v = wout (xs.take k) v ++ [xs[k]] := by
  rw [List.take_succ_eq_append_getElem hk, wout, List.filter_append]
  simp [wout, h]
theorem wout_no {xs : List Int} {v : Int} {k : Nat} (hk : k < xs.length) (h : xs[k] = v) : wout (xs.take (k + 1)) v = wout (xs.take k) v := by
  rw [List.take_succ_eq_append_getElem hk, wout, List.filter_append]
  simp [wout, h]
theorem wout_len (xs : List Int) (v : Int) : (wout xs v).length ≤ xs.length := List.length_filter_le _ _
theorem l2Without_any {S : Nat → Prop} {u : Value} {xs : List Int} {v : Int} {w : World} (hu : SlI S w .i64 u xs) (hx : xs.length ≤ 1048576) :
    Calls Tryd.prog 149 #[u, .int .i64 v] w fun e w' => ∃ r, e = .returned r ∧ Own w' w.heap.size 2 1 r (wout xs v).length ((wout xs v).map (.int .i64)) ∧ Below w.heap.size w w' := by
  have hq0 : Below w.heap.size w (w.alloc (.cells #[] 2)) := (Below.refl _ _).alloc (Nat.le_refl _) _
  have ho0 : Own (w.alloc (.cells #[] 2)) w.heap.size 2 1 (.slice (some ⟨w.heap.size, 0, none⟩) 0 0) 0 [] := by
    have := World.ownsRow_lit (base := w.heap.size) (e := 2) (size := 1) w #[] 0 (Nat.le_refl _) (by unfold maxLen; omega) rfl
    simpa [Own] using this
  obtain ⟨ua, ub, uo, uc, rfl, hul, hua, huc⟩ := hu
  go_enter Tryd.func149, Tryd.ntmps149
  go_wp2
  go_loopw [5, 6] (fun o i wr => ∃ k : Nat, k ≤ xs.length ∧ i = .int .i64 k ∧ Own wr w.heap.size 2 1 o (wout (xs.take k) v).length ((wout (xs.take k) v).map (.int .i64)) ∧ Below w.heap.size w wr) (fun _ i _ => xs.length - (intOf i).toNat)
  case atStart => exact ⟨0, Nat.zero_le _, rfl, by simpa [wout] using ho0, hq0⟩
  case round =>
    clear hq0 ho0
    obtain ⟨k, hk, rfl, hown, hq⟩ := hrel
    have hB := hq.size
    by_cases hlt : k < xs.length
    · have hcell := huc k hlt
      obtain ⟨rfl, -⟩ := hua (by omega)
      have hcw := (hq.cell (cell_lt hcell)).trans hcell
      have hll := wout_len (xs.take k) v
      have htl : (xs.take k).length ≤ xs.length := by simp; omega
      by_cases hv : xs[k] = v
      · have HS := Lib.hid (wout_no hlt hv)
        have hnv : (xs[k] != v) = false := by simp [hv]
        generalize xs[k] = x at *
        go_wp2
        go_roundw
        case rel => exact ⟨k + 1, by omega, by go_num, by rw [HS.out]; exact hown, hq⟩
        case measure => simp [intOf]; omega
      · have HS := Lib.hid (wout_yes hlt hv)
        have hnv : (xs[k] != v) = true := by rw [bne_iff_ne]; exact hv
        generalize xs[k] = x at *
        go_wp2_with (at_builtin; refine wpList_append1 elI64 rfl _ _ rfl hown rfl rfl rfl (by omega) hB ?_; intro v' w1 hown1 hkept hmv)
        go_roundw
        case rel => exact ⟨k + 1, by omega, by go_num, by rw [HS.out, List.length_append, List.map_append]; exact hown1, hkept.below hq hB hown.ge⟩
        case measure => simp [intOf]; omega
    · obtain rfl : k = xs.length := by omega
      rw [List.take_length] at hown
      go_wp2
      go_ret
      exact ⟨_, rfl, hown, hq⟩


end Go.Proofs.YthpbeiihlembnaaDoor
