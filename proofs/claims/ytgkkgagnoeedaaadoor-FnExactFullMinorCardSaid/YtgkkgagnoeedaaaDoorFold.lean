/- How a vertex folds away: the program's foldOf, foldAway; the reference's l19Less, l20At. -/
import Derived.Test.YtgkkgagnoeedaaaDoorFoldM
import Derived.Test.YtgkkgagnoeedaaaDoorReach2
namespace Go.Proofs.YtgkkgagnoeedaaaDoor
open Go.RowKit
def triV (f : Tri) : Value := .agg #[.int .i64 f.a, .int .i64 f.b, .int .i64 f.c]
def rowF (v : Nat) (L : List Nat) : Option Tri :=
  if 2 < L.length then none
  else some ⟨v, if 0 < L.length then (L.getD 0 0 : Nat) else -1, if 1 < L.length then (L.getD 1 0 : Nat) else -1⟩
theorem foldF_row (a : List Nat) (left v : Nat) : foldF a left v = rowF v (nearN a left v) := rfl
def TriP (f : Option Tri) (w : World) (e : Ending) (w' : World) : Prop := e = .returned (.tuple #[triV (f.getD ⟨0, 0, 0⟩), .bool f.isSome]) ∧ Below w.heap.size w w'
theorem l19Less_any {S : Nat → Prop} {u : Value} {m v : Nat} {w : World} (hu : SlI S w .i64 u (bitsI m)) (hm : m < 4294967296) (hv : v < 32) :
    Calls Tryd.prog 128 #[u, .int .i64 (v : Int)] w fun e w' => ∃ x, e = .returned x ∧ OwnB w' w.heap.size 2 x (andN m (bit v)) ∧ Below w.heap.size w w' := by
  have hle := less_bits hm hv
  have hbl := bitsI_len m
  generalize bitsI m = xs at hu hle hbl
  obtain ⟨ua, ub, uo, uc, rfl, hul, hua, huc0⟩ := hu
  have HL := Lib.hid hle; clear hle
  go_enter Tryd.func128, Tryd.ntmps128
  go_wp2
  go_loopw [5, 6] (fun o i wr => ∃ k : Nat, k ≤ xs.length ∧ i = .int .i64 k ∧ Own wr w.heap.size 2 1 o (lessL (xs.take k) v).length ((lessL (xs.take k) v).map (.int .i64)) ∧ Below w.heap.size w wr) (fun _ i _ => xs.length - (intOf i).toNat)
  case atStart =>
    refine ⟨0, Nat.zero_le _, rfl, ?_, (Below.refl _ _).alloc (Nat.le_refl _) _⟩
    have := World.ownsRow_lit (base := w.heap.size) (e := 2) (size := 1) w #[] 0 (Nat.le_refl _) (by unfold maxLen; omega) rfl
    simpa [Own, lessL] using this
  case round =>
    obtain ⟨k, hk, rfl, hown, hq⟩ := hrel
    have hB := hq.size
    have hll : (lessL (xs.take k) v).length ≤ 32 := by
      have h1 := List.length_filter_le (fun x => !decide (x = (v : Int))) (xs.take k)
      have h2 : (xs.take k).length ≤ xs.length := by simp; omega
      unfold lessL; omega
    by_cases hlt : k < xs.length
    · have hcell := (hq.cell (p := ⟨ub, uo + k, none⟩) (cell_lt (huc0 k hlt))).trans (huc0 k hlt)
      obtain ⟨rfl, -⟩ := hua (by omega)
      have hst : lessL (xs.take (k + 1)) v = if xs[k] = (v : Int) then lessL (xs.take k) v else lessL (xs.take k) v ++ [xs[k]] := by
        unfold lessL
        rw [List.take_succ_eq_append_getElem hlt, List.filter_append]
        by_cases h : xs[k] = (v : Int) <;> simp [h]
      generalize xs[k] = x at hcell hst
      by_cases hx : x = (v : Int)
      · have hb : (x != (v : Int)) = false := by rw [bne_eq_false_iff_eq]; exact hx
        rw [if_pos hx] at hst
        have HS := Lib.hid hst; clear hst hx
        go_wp2
        go_roundw
        case rel => exact ⟨k + 1, by omega, by go_num, by rw [HS.out]; exact hown, hq⟩
        case measure => simp [intOf]; omega
      · have hb : (x != (v : Int)) = true := by rw [bne_iff_ne]; exact hx
        rw [if_neg hx] at hst
        have HS := Lib.hid hst; clear hst hx
        go_wp2_with (at_builtin; refine wpList_append1 elI64 rfl _ _ rfl hown rfl rfl rfl (by omega) hB ?_; intro v' w2 hown1 hkept hmv)
        go_roundw
        case rel => exact ⟨k + 1, by omega, by go_num, by rw [HS.out]; simpa using hown1, hkept.below hq hB hown.ge⟩
        case measure => simp [intOf]; omega
    · obtain rfl : k = xs.length := by omega
      rw [List.take_length] at hown
      go_wp2
      go_ret
      refine ⟨_, rfl, ?_, hq⟩
      unfold OwnB
      rw [← HL.out]; exact hown
