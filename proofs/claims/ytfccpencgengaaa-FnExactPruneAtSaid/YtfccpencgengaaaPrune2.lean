/- Pruning: may a vertex go; the program's. -/
import Derived.Test.YtfccpencgengaaaPrune
namespace Go.Proofs.Ytfccpencgengaaa
open Go.RowKit
set_option maxRecDepth 100000 in
set_option maxHeartbeats 4000000 in
theorem canPrune_any {S : Nat → Prop} {nv : Value} {a : List Nat} {s x n : Nat} {y k : Int} {w : World} (hI : PrI a s n) (hn : SlI S w .u32 nv (natsI a)) (hx : x < n) (hsx : s.testBit x = true) :
    Calls Try.prog 41 #[nv, .int .u32 (s : Int), .int .i64 (x : Int), .int .i64 y, .int .i64 k] w fun e w' => e = .returned (.bool (goesB a s x y k)) ∧ w = w' := by
  have hl := hI.len
  subst hl
  have h16 := hI.le
  have hs32 := hI.s32
  obtain ⟨nb, no, nc, hne, hnc⟩ := hn.at_
  have hne := hne (by rw [natsI_len]; omega)
  subst hne
  rw [natsI_len]
  have hget : ∀ i, i < a.length → ∃ m, a.getD i 0 = m ∧ m < 4294967296 ∧ w.cell? ⟨nb, no + i, none⟩ = some (.int .u32 (m : Int)) := fun i hi => by
    have h := hnc i (by rw [natsI_len]; omega)
    rw [natsI_get] at h
    exact ⟨a[i], by simp [hi], hI.lt _ (List.getElem_mem hi), h⟩
  obtain ⟨m, hm, hm32, hcm⟩ := hget x (by omega)
  have han := u32_and_nat m s hm32 hs32
  have hnr : nrN a s x = m &&& s := by rw [nrN, hm]
  have hN32 : m &&& s < 4294967296 := Nat.lt_of_le_of_lt Nat.and_le_right hs32
  by_cases hk1 : k = 1
  · subst hk1
    rw [goes_one, hnr]
    clear hnr
    generalize m &&& s = N at han hN32
    by_cases hy : y = -1
    · subst hy
      have hz : ((N : Int) == 0) = decide (N = 0) := by rw [Bool.eq_iff_iff, beq_iff_eq, decide_eq_true_eq]; omega
      have hz2 : (N == 0) = decide (N = 0) := by rw [Bool.eq_iff_iff, beq_iff_eq, decide_eq_true_eq]
      go_enter Try.func41, Try.ntmps41
      go_wp2
      go_ret
      exact ⟨ret_bool (by simp), rfl⟩
    · have hb : (y == -1) = false := by rw [beq_eq_false_iff_ne]; exact hy
      go_enter Try.func41, Try.ntmps41
      go_wp2
      go_ret
      exact ⟨ret_bool (by simp [hy]), rfl⟩
  have hk1b : (k == 1) = false := by rw [beq_eq_false_iff_ne]; exact hk1
  by_cases hin : 0 ≤ y ∧ y < a.length
  case neg =>
    have hib : inB y 0 ((a.length : Int) - 1) = false := by simp only [inB, Bool.and_eq_false_iff, decide_eq_false_iff_not]; omega
    rw [goes_off hk1 (Or.inl hin)]
    have hir := inRange_any y 0 ((a.length : Int) - 1) w
    rw [hib] at hir
    clear hin
    go_enter Try.func41, Try.ntmps41
    go_wp2_with (go_at_call 39; refine hir.mono ?_; rintro e w' ⟨rfl, rfl⟩)
    go_ret
    exact ⟨rfl, rfl⟩
  obtain ⟨j, rfl⟩ := Int.eq_ofNat_of_zero_le hin.1
  have hja : j < a.length := by omega
  have hir := inRange_any (j : Int) 0 ((a.length : Int) - 1) w
  rw [show inB (j : Int) 0 ((a.length : Int) - 1) = true by simp only [inB, Bool.and_eq_true, decide_eq_true_eq]; omega] at hir
  clear hin
  by_cases hjx : j = x
  · subst hjx
    rw [goes_off hk1 (Or.inr (Or.inl rfl))]
    go_enter Try.func41, Try.ntmps41
    go_wp2_with (go_at_call 39; refine hir.mono ?_; rintro e w' ⟨rfl, rfl⟩)
    go_ret
    exact ⟨rfl, rfl⟩
  have hjb : ((j : Int) == (x : Int)) = false := by rw [beq_eq_false_iff_ne]; omega
  have hjb2 : (j == x) = false := by rw [beq_eq_false_iff_ne]; exact hjx
  have hhas := has_any s j w hs32 (by omega)
  by_cases hsj : s.testBit j = true
  case neg =>
    have hsj' : s.testBit j = false := by simpa using hsj
    rw [goes_off hk1 (Or.inr (Or.inr (by rw [Int.toNat_natCast]; exact hsj')))]
    rw [hsj'] at hhas
    clear hsj hsj'
    go_enter Try.func41, Try.ntmps41
    go_wp2_with (first | (go_at_call 39; refine hir.mono ?_; rintro e w' ⟨rfl, rfl⟩) | (go_at_call 40; refine hhas.mono ?_; rintro e w' ⟨rfl, rfl⟩))
    go_ret
    exact ⟨rfl, rfl⟩
  rw [hsj] at hhas
  obtain ⟨q, hq, hq32, hcq⟩ := hget j hja
  have han2 := u32_and_nat q s hq32 hs32
  have hnr2 : nrN a s j = q &&& s := by rw [nrN, hq]
  have hQ32 : q &&& s < 4294967296 := Nat.lt_of_le_of_lt Nat.and_le_right hs32
  have hone := one_any (j : Int) w (by omega) (by omega)
  have hone2 := one_any (x : Int) w (by omega) (by omega)
  rw [Int.toNat_natCast] at hone hone2
  have hb1 := bit_lt (n := j) (by omega)
  have hb2 := bit_lt (n := x) (by omega)
  have hgo : goesB a s x (j : Int) k = if k = 2 then decide (nrN a s x = bit j) else if k = 3 then decide (nrN a s x = nrN a s j) else if k = 4 then (nrN a s x).testBit j && decide (andN (nrN a s x) (bit j) = andN (nrN a s j) (bit x)) else false := by
    unfold goesB
    rw [if_neg hk1, if_neg (by rintro (h | h | h); omega; omega; rw [Int.toNat_natCast, hsj] at h; cases h), Int.toNat_natCast]
  rw [hgo, hnr, hnr2]
  clear hgo hnr hnr2 hget hq hm
  generalize m &&& s = N at han hN32
  generalize q &&& s = Q at han2 hQ32
  by_cases hk2 : k = 2
  · subst hk2
    have hz : ((N : Int) == (bit j : Int)) = decide (N = bit j) := by rw [Bool.eq_iff_iff, beq_iff_eq, decide_eq_true_eq]; omega
    have hz2 : (N == bit j) = decide (N = bit j) := by rw [Bool.eq_iff_iff, beq_iff_eq, decide_eq_true_eq]
    go_enter Try.func41, Try.ntmps41
    go_wp2_with (first | (go_at_call 39; refine hir.mono ?_; rintro e w' ⟨rfl, rfl⟩) | (go_at_call 40; refine hhas.mono ?_; rintro e w' ⟨rfl, rfl⟩) | (go_at_call 42; refine hone.mono ?_; rintro e w' ⟨rfl, rfl⟩))
    go_ret
    exact ⟨ret_bool (by simp), rfl⟩
  have hk2b : (k == 2) = false := by rw [beq_eq_false_iff_ne]; exact hk2
  by_cases hk3 : k = 3
  · subst hk3
    have hz : ((N : Int) == (Q : Int)) = decide (N = Q) := by rw [Bool.eq_iff_iff, beq_iff_eq, decide_eq_true_eq]; omega
    have hz2 : (N == Q) = decide (N = Q) := by rw [Bool.eq_iff_iff, beq_iff_eq, decide_eq_true_eq]
    go_enter Try.func41, Try.ntmps41
    go_wp2_with (first | (go_at_call 39; refine hir.mono ?_; rintro e w' ⟨rfl, rfl⟩) | (go_at_call 40; refine hhas.mono ?_; rintro e w' ⟨rfl, rfl⟩))
    go_ret
    exact ⟨ret_bool (by simp), rfl⟩
  have hk3b : (k == 3) = false := by rw [beq_eq_false_iff_ne]; exact hk3
  by_cases hk4 : k = 4
  · subst hk4
    have hhN := has_any N j w hN32 (by omega)
    have hA : bits BinOp.andNot IntKind.u32 (N : Int) (bit j : Int) = (andN N (bit j) : Int) := u32_andNot_nat _ _ hN32 hb1
    have hB : bits BinOp.andNot IntKind.u32 (Q : Int) (bit x : Int) = (andN Q (bit x) : Int) := u32_andNot_nat _ _ hQ32 hb2
    have hz : ((andN N (bit j) : Int) == (andN Q (bit x) : Int)) = decide (andN N (bit j) = andN Q (bit x)) := by rw [Bool.eq_iff_iff, beq_iff_eq, decide_eq_true_eq]; omega
    have hz2 : (andN N (bit j) == andN Q (bit x)) = decide (andN N (bit j) = andN Q (bit x)) := by rw [Bool.eq_iff_iff, beq_iff_eq, decide_eq_true_eq]
    cases hT : N.testBit j
    · rw [hT] at hhN
      go_enter Try.func41, Try.ntmps41
      go_wp2_with (first | (go_at_call 39; refine hir.mono ?_; rintro e w' ⟨rfl, rfl⟩) | (go_at_call 40; refine hhN.mono ?_; rintro e w' ⟨rfl, rfl⟩) | (go_at_call 40; refine hhas.mono ?_; rintro e w' ⟨rfl, rfl⟩))
      go_ret
      exact ⟨ret_bool (by simp), rfl⟩
    · rw [hT] at hhN
      go_enter Try.func41, Try.ntmps41
      go_wp2_with (first | (go_at_call 39; refine hir.mono ?_; rintro e w' ⟨rfl, rfl⟩) | (go_at_call 40; refine hhN.mono ?_; rintro e w' ⟨rfl, rfl⟩) | (go_at_call 40; refine hhas.mono ?_; rintro e w' ⟨rfl, rfl⟩) | (go_at_call 42; refine hone.mono ?_; rintro e w' ⟨rfl, rfl⟩) | (go_at_call 42; refine hone2.mono ?_; rintro e w' ⟨rfl, rfl⟩))
      go_ret
      exact ⟨ret_bool (by simp), rfl⟩
  have hk4b : (k == 4) = false := by rw [beq_eq_false_iff_ne]; exact hk4
  go_enter Try.func41, Try.ntmps41
  go_wp2_with (first | (go_at_call 39; refine hir.mono ?_; rintro e w' ⟨rfl, rfl⟩) | (go_at_call 40; refine hhas.mono ?_; rintro e w' ⟨rfl, rfl⟩))
  go_ret
  exact ⟨ret_bool (by simp [hk2, hk3, hk4]), rfl⟩
end Go.Proofs.Ytfccpencgengaaa
