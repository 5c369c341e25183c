/- What the laws write into results and read again: marks. -/
import Derived.Test.YtklnjpdpinccoaaDoorLaws
namespace Go.Proofs.YtklnjpdpinccoaaDoor
open Go.RowKit
/-- The marks k, k + 1, .. -/
def marksL (k : Int) (n : Nat) : List Int := (List.range n).map fun i : Nat => k + (i : Int)
theorem marksL_len (k : Int) (n : Nat) : (marksL k n).length = n := by simp [marksL]
theorem marksL_get {k : Int} {n i : Nat} (h : i < (marksL k n).length) : (marksL k n)[i] = k + (i : Int) := by simp [marksL]
/-- The first j are marked, the others are as they were. -/
def marked (k : Int) (xs : List Int) (j : Nat) : List Int := marksL k j ++ xs.drop j
theorem marked_zero (k : Int) (xs : List Int) : marked k xs 0 = xs := by simp [marked, marksL]
theorem marked_all (k : Int) (xs : List Int) : marked k xs xs.length = marksL k xs.length := by simp [marked]
theorem marksL_succ (k : Int) (n : Nat) : marksL k (n + 1) = marksL k n ++ [k + (n : Int)] := by simp [marksL, List.range_succ]
theorem marked_set {k : Int} {xs : List Int} {j : Nat} (hj : j < xs.length) : (marked k xs j).set j (k + (j : Int)) = marked k xs (j + 1) := by
  unfold marked
  rw [List.drop_eq_getElem_cons hj, List.set_append, if_neg (by rw [marksL_len]; omega), marksL_len, Nat.sub_self, List.set_cons_zero, marksL_succ]
  simp
set_option maxHeartbeats 1000000 in
theorem markInt64S_any {B n : Nat} {v : Value} {xs : List Int} {k : Int} {w : World} (hv : Own w B 2 1 v n (xs.map (.int .i64))) (hn : n ≤ 1048576) (hk0 : 0 ≤ k) (hk1 : k ≤ 1125899906842624) :
    Calls Tryd.prog 40 #[v, .int .i64 k] w fun e w' => e = .returned (.int .i64 (k + n)) ∧ Own w' B 2 1 v n ((marksL k n).map (.int .i64)) ∧ KeptBut w w' v.ownBlock := by
  have hln : xs.length = n := by have := hv.1; simpa using this
  rcases hv.2 with ⟨rfl, rfl⟩ | ⟨g, cap, cur, rfl, hbg, hg, hnc, -⟩
  · have hx : xs = [] := List.eq_nil_of_length_eq_zero hln
    subst hx
    go_enter Tryd.func40, Tryd.ntmps40
    go_wp2
    go_loopw [5, 1] (fun i m wr => i = .int .i64 0 ∧ m = .int .i64 k ∧ w = wr) (fun _ _ _ => 0)
    case atStart => exact ⟨rfl, rfl, rfl⟩
    case round =>
      obtain ⟨rfl, rfl, rfl⟩ := hrel
      go_wp2
      go_ret
      exact ⟨ret_int (by simp), by simpa [marksL] using hv, rfl, rfl, rfl, Nat.le_refl _, fun _ _ _ => rfl⟩
  · have hgl := (Array.getElem?_eq_some_iff.1 hg).1
    go_enter Tryd.func40, Tryd.ntmps40
    go_wp2
    go_loopw [5, 1] (fun i m wr => ∃ j : Nat, j ≤ n ∧ i = .int .i64 j ∧ m = .int .i64 (k + (j : Int)) ∧ Own wr B 2 1 (.slice (some ⟨g, 0, none⟩) n cap) n ((marked k xs j).map (.int .i64)) ∧ KeptBut w wr (some g)) (fun i _ _ => n - (intOf i).toNat)
    case atStart => exact ⟨0, Nat.zero_le _, rfl, by simp, by rw [marked_zero]; exact hv, rfl, rfl, rfl, Nat.le_refl _, fun _ _ _ => rfl⟩
    case round =>
      obtain ⟨j, hj, rfl, rfl, hown, hkp⟩ := hrel
      by_cases hlt : j < n
      · have hfz := World.ownsRow.frozenAt hown j
        obtain ⟨u0, hdst⟩ : ∃ u, wr.cell? ⟨g, j, none⟩ = some u := ⟨_, (World.ownsRow.cellAt hown j (by omega)).trans (List.getElem?_eq_getElem (by rw [hown.1]; omega))⟩
        have hset := Lib.hid (marked_set (k := k) (show j < xs.length by omega))
        have HO := Lib.hid hown; clear hown
        go_wp2
        go_roundw
        case rel =>
          refine ⟨j + 1, by omega, by go_num, by first | go_num | (congr 1; omega), ?_, hkp.1, hkp.2.1, hkp.2.2.1, by simpa using hkp.2.2.2.1, fun b hb hne => (Below.heap_setCell _ _ _ _ (fun e => hne (by simp at e; rw [e]))).trans (hkp.2.2.2.2 b hb hne)⟩
          have h1 := HO.out.stored j (.int .i64 (k + (j : Int)))
          rw [← hset.out, List.map_set]; exact h1
        case measure => simp [intOf]; omega
      · obtain rfl : j = n := by omega
        go_wp2
        go_ret
        refine ⟨rfl, ?_, hkp⟩
        rw [← hln, marked_all, hln] at hown
        exact hown
set_option maxHeartbeats 1000000 in
theorem heldInt64S_any {S : Nat → Prop} {n : Nat} {v : Value} {k : Int} {w : World} (hv : SlI S w .i64 v (marksL k n)) (hn : n ≤ 1048576) (hk0 : 0 ≤ k) (hk1 : k ≤ 1125899906842624) :
    Calls Tryd.prog 41 #[v, .int .i64 k] w fun e w' => e = .returned (.int .i64 (k + n)) ∧ Drawn w w' := by
  obtain ⟨a, b, off, cap, rfl, hl, ha, hc0⟩ := hv
  simp only [marksL_len] at hl ha ⊢
  go_enter Tryd.func41, Tryd.ntmps41
  go_wp2
  go_loopw [5, 1] (fun i m wr => ∃ j : Nat, j ≤ n ∧ i = .int .i64 j ∧ m = .int .i64 (k + (j : Int)) ∧ Drawn w wr) (fun i _ _ => n - (intOf i).toNat)
  case atStart => exact ⟨0, Nat.zero_le _, rfl, by simp, Drawn.refl _⟩
  case round =>
    obtain ⟨j, hj, rfl, rfl, hd⟩ := hrel
    by_cases hlt : j < n
    · have hcell := (hd.cell _).trans (hc0 j (by rw [marksL_len]; exact hlt))
      rw [marksL_get] at hcell
      obtain ⟨rfl, -⟩ := ha (by omega)
      have hnb : ((k + (j : Int)) != (k + (j : Int))) = false := by simp
      go_wp2
      go_roundw
      case rel => exact ⟨j + 1, by omega, by go_num, by first | go_num | (congr 1; omega), hd⟩
      case measure => simp [intOf]; omega
    · obtain rfl : j = n := by omega
      go_wp2
      go_ret
      exact ⟨rfl, hd⟩
end Go.Proofs.YtklnjpdpinccoaaDoor
