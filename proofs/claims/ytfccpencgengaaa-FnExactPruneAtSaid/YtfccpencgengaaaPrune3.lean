/- Pruning: may a vertex go; the reference's. -/
import Derived.Test.YtfccpencgengaaaPrune
namespace Go.Proofs.Ytfccpencgengaaa
open Go.RowKit
set_option maxRecDepth 100000 in
set_option maxHeartbeats 8000000 in
theorem l18Goes_any {S S' : Nat → Prop} {v u : Value} {g : List (List Int)} {s x : Nat} {y k : Int} {w : World} (hg : GOk g) (hv : SlR S w v g) (hu : SlI S' w .i64 u (bitsI s)) (hs : s < 2 ^ g.length) (hsx : s.testBit x = true) :
    Calls Try.prog 33 #[.agg #[v], u, triV ⟨x, y, k⟩] w fun e w' => e = .returned (.bool (goesB (netsL g) s x y k)) ∧ Below w.heap.size w w' := by
  have h16 := hg.hi
  have hx := bit_lt_of hs hsx
  have hI : PrI (netsL g) s g.length := { PrI.start hg with left := hs }
  have hs32 := hI.s32
  have hN32 : andN (nrN (netsL g) s x) (bq y) < 4294967296 := Nat.lt_of_le_of_lt (andN_le _ _) (hI.nr32 x)
  unfold triV
  have hq0 : Below w.heap.size w ((w.alloc (.cells #[v] 29)).alloc (.cells #[.int .i64 x, .int .i64 y, .int .i64 k] 38)) := ((Below.refl _ _).alloc (Nat.le_refl _) _).alloc (by simp) _
  have hbl := bitsI_len (andN (nrN (netsL g) s x) (bq y))
  have hnear := fun (W : World) (hb : Below w.heap.size w W) => l18Near_any (but := y) hg (hv.below hb (Nat.le_refl _)) (hu.below hb (Nat.le_refl _)) hs hx
  obtain ⟨va, vb, vo, vc, f, rfl, hvl, hva, hvr⟩ := hv
  have hv : SlR S w (.slice va g.length vc) g := ⟨va, vb, vo, vc, f, rfl, hvl, hva, hvr⟩
  obtain ⟨rfl, -⟩ := hva (by omega)
  obtain ⟨hvcell, hrow⟩ := hvr x hx
  obtain ⟨ra, rcp, hre⟩ := hrow.slice
  rw [hre] at hvcell hrow
  clear hvr hre hvl
  by_cases hk1 : k = 1
  · subst hk1
    rw [goes_one]
    by_cases hy : y = -1
    · subst hy
      have hz0 : andN (nrN (netsL g) s x) (bq (-1)) = nrN (netsL g) s x := by
        rw [show bq (-1) = 0 by simp [bq]]; exact andN_zero (hI.nr32 x)
      rw [hz0] at hnear hN32 hbl
      have hbz : ((bitsI (nrN (netsL g) s x)).length = 0) ↔ nrN (netsL g) s x = 0 := by rw [← bitsI_nil hN32]; exact List.length_eq_zero_iff
      generalize nrN (netsL g) s x = N at hnear hbl hbz
      have hz : (((bitsI N).length : Int) == 0) = decide (N = 0) := by rw [Bool.eq_iff_iff, beq_iff_eq, decide_eq_true_eq, ← hbz]; omega
      have hz2 : ((bitsI N).length == 0) = decide (N = 0) := by rw [Bool.eq_iff_iff, beq_iff_eq, decide_eq_true_eq, ← hbz]
      clear hbz
      go_enter Try.func33, Try.ntmps33
      go_wp2_with fail
      refine (hnear _ hq0).mono ?_
      rintro e w1 ⟨o1, rfl, ho1, hb1⟩
      have hq1 := hq0.trans (hb1.mono hq0.size)
      have cg : w1.cell? ⟨w.heap.size, 0, none⟩ = some (.slice (some ⟨vb, vo, none⟩) g.length vc) := (hb1.cell (p := ⟨w.heap.size, 0, none⟩) (by simp <;> omega)).trans (by simp [go_sem])
      have p0 : w1.cell? ⟨w.heap.size + 1, 0, none⟩ = some (.int .i64 x) := (hb1.cell (p := ⟨w.heap.size + 1, 0, none⟩) (by simp <;> omega)).trans (by simp [go_sem])
      have p1 : w1.cell? ⟨w.heap.size + 1, 1, none⟩ = some (.int .i64 (-1)) := (hb1.cell (p := ⟨w.heap.size + 1, 1, none⟩) (by simp <;> omega)).trans (by simp [go_sem])
      have p2 : w1.cell? ⟨w.heap.size + 1, 2, none⟩ = some (.int .i64 1) := (hb1.cell (p := ⟨w.heap.size + 1, 2, none⟩) (by simp <;> omega)).trans (by simp [go_sem])
      obtain ⟨oa, oc, rfl⟩ := Own.isSlice ho1
      go_wp2
      go_ret
      exact ⟨ret_bool (by simp), hq1⟩
    · have hb : (y == -1) = false := by rw [beq_eq_false_iff_ne]; exact hy
      go_enter Try.func33, Try.ntmps33
      go_wp2_with fail
      refine (hnear _ hq0).mono ?_
      rintro e w1 ⟨o1, rfl, ho1, hb1⟩
      have hq1 := hq0.trans (hb1.mono hq0.size)
      have cg : w1.cell? ⟨w.heap.size, 0, none⟩ = some (.slice (some ⟨vb, vo, none⟩) g.length vc) := (hb1.cell (p := ⟨w.heap.size, 0, none⟩) (by simp <;> omega)).trans (by simp [go_sem])
      have p0 : w1.cell? ⟨w.heap.size + 1, 0, none⟩ = some (.int .i64 x) := (hb1.cell (p := ⟨w.heap.size + 1, 0, none⟩) (by simp <;> omega)).trans (by simp [go_sem])
      have p1 : w1.cell? ⟨w.heap.size + 1, 1, none⟩ = some (.int .i64 y) := (hb1.cell (p := ⟨w.heap.size + 1, 1, none⟩) (by simp <;> omega)).trans (by simp [go_sem])
      have p2 : w1.cell? ⟨w.heap.size + 1, 2, none⟩ = some (.int .i64 1) := (hb1.cell (p := ⟨w.heap.size + 1, 2, none⟩) (by simp <;> omega)).trans (by simp [go_sem])
      obtain ⟨oa, oc, rfl⟩ := Own.isSlice ho1
      go_wp2
      go_ret
      exact ⟨ret_bool (by simp [hy]), hq1⟩
  have hk1b : (k == 1) = false := by rw [beq_eq_false_iff_ne]; exact hk1
  by_cases hyx : y = (x : Int)
  · rw [goes_off hk1 (Or.inr (Or.inl hyx))]
    have hb : (y == (x : Int)) = true := by rw [beq_iff_eq]; exact hyx
    have HY := Lib.hid hyx; clear hyx
    go_enter Try.func33, Try.ntmps33
    go_wp2_with fail
    refine (hnear _ hq0).mono ?_
    rintro e w1 ⟨o1, rfl, ho1, hb1⟩
    have hq1 := hq0.trans (hb1.mono hq0.size)
    have cg : w1.cell? ⟨w.heap.size, 0, none⟩ = some (.slice (some ⟨vb, vo, none⟩) g.length vc) := (hb1.cell (p := ⟨w.heap.size, 0, none⟩) (by simp <;> omega)).trans (by simp [go_sem])
    have p0 : w1.cell? ⟨w.heap.size + 1, 0, none⟩ = some (.int .i64 x) := (hb1.cell (p := ⟨w.heap.size + 1, 0, none⟩) (by simp <;> omega)).trans (by simp [go_sem])
    have p1 : w1.cell? ⟨w.heap.size + 1, 1, none⟩ = some (.int .i64 y) := (hb1.cell (p := ⟨w.heap.size + 1, 1, none⟩) (by simp <;> omega)).trans (by simp [go_sem])
    have p2 : w1.cell? ⟨w.heap.size + 1, 2, none⟩ = some (.int .i64 k) := (hb1.cell (p := ⟨w.heap.size + 1, 2, none⟩) (by simp <;> omega)).trans (by simp [go_sem])
    obtain ⟨oa, oc, rfl⟩ := Own.isSlice ho1
    go_wp2
    go_ret
    exact ⟨rfl, hq1⟩
  have hyb : (y == (x : Int)) = false := by rw [beq_eq_false_iff_ne]; exact hyx
  by_cases hin : y ∈ bitsI s
  case neg =>
    rw [goes_off hk1 (by
      by_cases h0 : 0 ≤ y
      · right; right
        have := mt (mem_bitsI hs32).2 hin
        cases h : s.testBit y.toNat
        · rfl
        · exact absurd ⟨h0, h⟩ this
      · left; omega)]
    go_enter Try.func33, Try.ntmps33
    go_wp2_with fail
    refine (hnear _ hq0).mono ?_
    rintro e w1 ⟨o1, rfl, ho1, hb1⟩
    have hq1 := hq0.trans (hb1.mono hq0.size)
    have cg : w1.cell? ⟨w.heap.size, 0, none⟩ = some (.slice (some ⟨vb, vo, none⟩) g.length vc) := (hb1.cell (p := ⟨w.heap.size, 0, none⟩) (by simp <;> omega)).trans (by simp [go_sem])
    have p0 : w1.cell? ⟨w.heap.size + 1, 0, none⟩ = some (.int .i64 x) := (hb1.cell (p := ⟨w.heap.size + 1, 0, none⟩) (by simp <;> omega)).trans (by simp [go_sem])
    have p1 : w1.cell? ⟨w.heap.size + 1, 1, none⟩ = some (.int .i64 y) := (hb1.cell (p := ⟨w.heap.size + 1, 1, none⟩) (by simp <;> omega)).trans (by simp [go_sem])
    have p2 : w1.cell? ⟨w.heap.size + 1, 2, none⟩ = some (.int .i64 k) := (hb1.cell (p := ⟨w.heap.size + 1, 2, none⟩) (by simp <;> omega)).trans (by simp [go_sem])
    obtain ⟨oa, oc, rfl⟩ := Own.isSlice ho1
    have hhas := l1Has_any _ _ y _ (hu.below hq1 (Nat.le_refl _))
    rw [decide_eq_false hin] at hhas
    clear hin
    go_wp2_with (go_at_call 32; refine hhas.mono ?_; rintro e w' ⟨rfl, rfl⟩)
    go_ret
    exact ⟨rfl, hq1⟩
  have hin2 := (mem_bitsI hs32).1 hin
  obtain ⟨j, rfl⟩ := Int.eq_ofNat_of_zero_le hin2.1
  rw [Int.toNat_natCast] at hin2
  have hsj := hin2.2
  have hjx : x ≠ j := by omega
  have hjn := bit_lt_of hs hsj
  have hbj : bq (j : Int) = bit j := bq_nat (by omega)
  rw [hbj] at hnear hN32 hbl
  have hT : decide ((j : Int) ∈ g[x]) = ((netsL g).getD x 0).testBit j := by rw [nets_bit2 hg hx]; simp [hx]
  have hrh := fun (W : World) (hb : Below w.heap.size w W) => l1Has_any _ _ (j : Int) _ (hrow.below hb (Nat.le_refl _))
  rw [hT] at hrh
  have hinh := fun (W : World) (hb : Below w.heap.size w W) => l1Has_any _ _ (j : Int) _ (hu.below hb (Nat.le_refl _))
  rw [decide_eq_true hin] at hinh
  have hnear2 := fun (W : World) (hb : Below w.heap.size w W) => l18Near_any (but := (x : Int)) hg (hv.below hb (Nat.le_refl _)) (hu.below hb (Nat.le_refl _)) hs hjn
  have hbx : bq (x : Int) = bit x := bq_nat (by omega)
  rw [hbx] at hnear2
  have hM32 : andN (nrN (netsL g) s j) (bit x) < 4294967296 := Nat.lt_of_le_of_lt (andN_le _ _) (hI.nr32 j)
  have hg2 := goes_two hI hsj hjx
  have hg3 := goes_three hI hx hsx hsj hjx
  have hg4 := goes_four hI hsj hjx
  have hge := fun (h2 : ¬ k = 2) (h3 : ¬ k = 3) (h4 : ¬ k = 4) => goes_else (a := netsL g) (s := s) (v := x) (y := (j : Int)) hk1 h2 h3 h4
  have hvc1 := fun (W : World) (hb : Below w.heap.size w W) => (hb.cell (p := ⟨vb, vo + x, none⟩) (cell_lt hvcell)).trans hvcell
  have hbz : ((bitsI (andN (nrN (netsL g) s x) (bit j))).length = 0) ↔ andN (nrN (netsL g) s x) (bit j) = 0 := by rw [← bitsI_nil hN32]; exact List.length_eq_zero_iff
  generalize andN (nrN (netsL g) s x) (bit j) = N at hnear hN32 hbl hbz hg2 hg3 hg4
  generalize andN (nrN (netsL g) s j) (bit x) = M at hnear2 hM32 hg3 hg4
  generalize ((netsL g).getD x 0).testBit j = T at hrh hg2 hg3 hg4
  have hz : (((bitsI N).length : Int) == 0) = decide (N = 0) := by rw [Bool.eq_iff_iff, beq_iff_eq, decide_eq_true_eq, ← hbz]; omega
  have hz2 : ((bitsI N).length == 0) = decide (N = 0) := by rw [Bool.eq_iff_iff, beq_iff_eq, decide_eq_true_eq, ← hbz]
  have hNM : decide (bitsI N = bitsI M) = decide (N = M) := by rw [decide_eq_decide]; exact ⟨bitsI_inj hN32 hM32, fun h => by rw [h]⟩
  have hmb := bitsI_len M
  clear hbz hT hin hin2 hbj hbx
  by_cases hk2 : k = 2
  · subst hk2
    rw [hg2]
    cases T
    · go_enter Try.func33, Try.ntmps33
      go_wp2_with fail
      refine (hnear _ hq0).mono ?_
      rintro e w1 ⟨o1, rfl, ho1, hb1⟩
      have hq1 := hq0.trans (hb1.mono hq0.size)
      have cg : w1.cell? ⟨w.heap.size, 0, none⟩ = some (.slice (some ⟨vb, vo, none⟩) g.length vc) := (hb1.cell (p := ⟨w.heap.size, 0, none⟩) (by simp <;> omega)).trans (by simp [go_sem])
      have p0 : w1.cell? ⟨w.heap.size + 1, 0, none⟩ = some (.int .i64 x) := (hb1.cell (p := ⟨w.heap.size + 1, 0, none⟩) (by simp <;> omega)).trans (by simp [go_sem])
      have p1 : w1.cell? ⟨w.heap.size + 1, 1, none⟩ = some (.int .i64 j) := (hb1.cell (p := ⟨w.heap.size + 1, 1, none⟩) (by simp <;> omega)).trans (by simp [go_sem])
      have p2 : w1.cell? ⟨w.heap.size + 1, 2, none⟩ = some (.int .i64 2) := (hb1.cell (p := ⟨w.heap.size + 1, 2, none⟩) (by simp <;> omega)).trans (by simp [go_sem])
      obtain ⟨oa, oc, rfl⟩ := Own.isSlice ho1
      have hvc := hvc1 _ hq1
      go_wp2_with (go_at_call 32; refine (hinh _ hq1).mono ?_; rintro e w' ⟨rfl, rfl⟩)
      go_quiet ((go_at_call 32; exact quiet_same (hrh _ (hq1.drewN' _))))
      go_wp2
      go_ret
      exact ⟨ret_bool (by simp), hq1.drewN' _⟩
    · go_enter Try.func33, Try.ntmps33
      go_wp2_with fail
      refine (hnear _ hq0).mono ?_
      rintro e w1 ⟨o1, rfl, ho1, hb1⟩
      have hq1 := hq0.trans (hb1.mono hq0.size)
      have cg : w1.cell? ⟨w.heap.size, 0, none⟩ = some (.slice (some ⟨vb, vo, none⟩) g.length vc) := (hb1.cell (p := ⟨w.heap.size, 0, none⟩) (by simp <;> omega)).trans (by simp [go_sem])
      have p0 : w1.cell? ⟨w.heap.size + 1, 0, none⟩ = some (.int .i64 x) := (hb1.cell (p := ⟨w.heap.size + 1, 0, none⟩) (by simp <;> omega)).trans (by simp [go_sem])
      have p1 : w1.cell? ⟨w.heap.size + 1, 1, none⟩ = some (.int .i64 j) := (hb1.cell (p := ⟨w.heap.size + 1, 1, none⟩) (by simp <;> omega)).trans (by simp [go_sem])
      have p2 : w1.cell? ⟨w.heap.size + 1, 2, none⟩ = some (.int .i64 2) := (hb1.cell (p := ⟨w.heap.size + 1, 2, none⟩) (by simp <;> omega)).trans (by simp [go_sem])
      obtain ⟨oa, oc, rfl⟩ := Own.isSlice ho1
      have hvc := hvc1 _ hq1
      go_wp2_with (go_at_call 32; refine (hinh _ hq1).mono ?_; rintro e w' ⟨rfl, rfl⟩)
      go_quiet ((go_at_call 32; exact quiet_same (hrh _ (hq1.drewN' _))))
      go_wp2
      go_ret
      exact ⟨ret_bool (by simp), hq1.drewN' _⟩
  have hk2b : (k == 2) = false := by rw [beq_eq_false_iff_ne]; exact hk2
  by_cases hk3 : k = 3
  · subst hk3
    rw [hg3]
    cases T
    · go_enter Try.func33, Try.ntmps33
      go_wp2_with fail
      refine (hnear _ hq0).mono ?_
      rintro e w1 ⟨o1, rfl, ho1, hb1⟩
      have hq1 := hq0.trans (hb1.mono hq0.size)
      have cg : w1.cell? ⟨w.heap.size, 0, none⟩ = some (.slice (some ⟨vb, vo, none⟩) g.length vc) := (hb1.cell (p := ⟨w.heap.size, 0, none⟩) (by simp <;> omega)).trans (by simp [go_sem])
      have p0 : w1.cell? ⟨w.heap.size + 1, 0, none⟩ = some (.int .i64 x) := (hb1.cell (p := ⟨w.heap.size + 1, 0, none⟩) (by simp <;> omega)).trans (by simp [go_sem])
      have p1 : w1.cell? ⟨w.heap.size + 1, 1, none⟩ = some (.int .i64 j) := (hb1.cell (p := ⟨w.heap.size + 1, 1, none⟩) (by simp <;> omega)).trans (by simp [go_sem])
      have p2 : w1.cell? ⟨w.heap.size + 1, 2, none⟩ = some (.int .i64 3) := (hb1.cell (p := ⟨w.heap.size + 1, 2, none⟩) (by simp <;> omega)).trans (by simp [go_sem])
      obtain ⟨oa, oc, rfl⟩ := Own.isSlice ho1
      have hvc := hvc1 _ hq1
      go_wp2_with (go_at_call 32; refine (hinh _ hq1).mono ?_; rintro e w' ⟨rfl, rfl⟩)
      go_quiet ((go_at_call 32; exact quiet_same (hrh _ (hq1.drewN' _))))
      go_wp2_with fail
      refine (hnear2 _ (hq1.drewN' _)).mono ?_
      rintro e w2 ⟨o2, rfl, ho2, hb2⟩
      have hq2 := (hq1.drewN' _).trans (hb2.mono (hq1.drewN' _).size)
      obtain ⟨oa2, oc2, rfl⟩ := Own.isSlice ho2
      have hsame := l1Same_any _ _ _ _ _ ((OwnB.ints ho1).below ((Below.drewN' (Below.refl _ _) _).trans (hb2.mono (Nat.le_refl _))) (Nat.le_refl _)) (OwnB.ints ho2)
      rw [hNM] at hsame
      go_wp2_with (go_at_call 67; refine hsame.mono ?_; rintro e w3 ⟨rfl, hd3⟩)
      go_ret
      exact ⟨ret_bool (by simp), hq2.trans ((hd3.below _).mono hq2.size)⟩
    · go_enter Try.func33, Try.ntmps33
      go_wp2_with fail
      refine (hnear _ hq0).mono ?_
      rintro e w1 ⟨o1, rfl, ho1, hb1⟩
      have hq1 := hq0.trans (hb1.mono hq0.size)
      have cg : w1.cell? ⟨w.heap.size, 0, none⟩ = some (.slice (some ⟨vb, vo, none⟩) g.length vc) := (hb1.cell (p := ⟨w.heap.size, 0, none⟩) (by simp <;> omega)).trans (by simp [go_sem])
      have p0 : w1.cell? ⟨w.heap.size + 1, 0, none⟩ = some (.int .i64 x) := (hb1.cell (p := ⟨w.heap.size + 1, 0, none⟩) (by simp <;> omega)).trans (by simp [go_sem])
      have p1 : w1.cell? ⟨w.heap.size + 1, 1, none⟩ = some (.int .i64 j) := (hb1.cell (p := ⟨w.heap.size + 1, 1, none⟩) (by simp <;> omega)).trans (by simp [go_sem])
      have p2 : w1.cell? ⟨w.heap.size + 1, 2, none⟩ = some (.int .i64 3) := (hb1.cell (p := ⟨w.heap.size + 1, 2, none⟩) (by simp <;> omega)).trans (by simp [go_sem])
      obtain ⟨oa, oc, rfl⟩ := Own.isSlice ho1
      have hvc := hvc1 _ hq1
      go_wp2_with (go_at_call 32; refine (hinh _ hq1).mono ?_; rintro e w' ⟨rfl, rfl⟩)
      go_quiet ((go_at_call 32; exact quiet_same (hrh _ (hq1.drewN' _))))
      go_wp2
      go_ret
      exact ⟨ret_bool (by simp), hq1.drewN' _⟩
  have hk3b : (k == 3) = false := by rw [beq_eq_false_iff_ne]; exact hk3
  by_cases hk4 : k = 4
  · subst hk4
    rw [hg4]
    cases T
    · go_enter Try.func33, Try.ntmps33
      go_wp2_with fail
      refine (hnear _ hq0).mono ?_
      rintro e w1 ⟨o1, rfl, ho1, hb1⟩
      have hq1 := hq0.trans (hb1.mono hq0.size)
      have cg : w1.cell? ⟨w.heap.size, 0, none⟩ = some (.slice (some ⟨vb, vo, none⟩) g.length vc) := (hb1.cell (p := ⟨w.heap.size, 0, none⟩) (by simp <;> omega)).trans (by simp [go_sem])
      have p0 : w1.cell? ⟨w.heap.size + 1, 0, none⟩ = some (.int .i64 x) := (hb1.cell (p := ⟨w.heap.size + 1, 0, none⟩) (by simp <;> omega)).trans (by simp [go_sem])
      have p1 : w1.cell? ⟨w.heap.size + 1, 1, none⟩ = some (.int .i64 j) := (hb1.cell (p := ⟨w.heap.size + 1, 1, none⟩) (by simp <;> omega)).trans (by simp [go_sem])
      have p2 : w1.cell? ⟨w.heap.size + 1, 2, none⟩ = some (.int .i64 4) := (hb1.cell (p := ⟨w.heap.size + 1, 2, none⟩) (by simp <;> omega)).trans (by simp [go_sem])
      obtain ⟨oa, oc, rfl⟩ := Own.isSlice ho1
      have hvc := hvc1 _ hq1
      go_wp2_with (go_at_call 32; refine (hinh _ hq1).mono ?_; rintro e w' ⟨rfl, rfl⟩)
      go_quiet ((go_at_call 32; exact quiet_same (hrh _ (hq1.drewN' _))))
      go_wp2
      go_ret
      exact ⟨ret_bool (by simp), hq1.drewN' _⟩
    · go_enter Try.func33, Try.ntmps33
      go_wp2_with fail
      refine (hnear _ hq0).mono ?_
      rintro e w1 ⟨o1, rfl, ho1, hb1⟩
      have hq1 := hq0.trans (hb1.mono hq0.size)
      have cg : w1.cell? ⟨w.heap.size, 0, none⟩ = some (.slice (some ⟨vb, vo, none⟩) g.length vc) := (hb1.cell (p := ⟨w.heap.size, 0, none⟩) (by simp <;> omega)).trans (by simp [go_sem])
      have p0 : w1.cell? ⟨w.heap.size + 1, 0, none⟩ = some (.int .i64 x) := (hb1.cell (p := ⟨w.heap.size + 1, 0, none⟩) (by simp <;> omega)).trans (by simp [go_sem])
      have p1 : w1.cell? ⟨w.heap.size + 1, 1, none⟩ = some (.int .i64 j) := (hb1.cell (p := ⟨w.heap.size + 1, 1, none⟩) (by simp <;> omega)).trans (by simp [go_sem])
      have p2 : w1.cell? ⟨w.heap.size + 1, 2, none⟩ = some (.int .i64 4) := (hb1.cell (p := ⟨w.heap.size + 1, 2, none⟩) (by simp <;> omega)).trans (by simp [go_sem])
      obtain ⟨oa, oc, rfl⟩ := Own.isSlice ho1
      have hvc := hvc1 _ hq1
      go_wp2_with (go_at_call 32; refine (hinh _ hq1).mono ?_; rintro e w' ⟨rfl, rfl⟩)
      go_quiet ((go_at_call 32; exact quiet_same (hrh _ (hq1.drewN' _))))
      go_wp2_with fail
      refine (hnear2 _ (hq1.drewN' _)).mono ?_
      rintro e w2 ⟨o2, rfl, ho2, hb2⟩
      have hq2 := (hq1.drewN' _).trans (hb2.mono (hq1.drewN' _).size)
      obtain ⟨oa2, oc2, rfl⟩ := Own.isSlice ho2
      have hsame := l1Same_any _ _ _ _ _ ((OwnB.ints ho1).below ((Below.drewN' (Below.refl _ _) _).trans (hb2.mono (Nat.le_refl _))) (Nat.le_refl _)) (OwnB.ints ho2)
      rw [hNM] at hsame
      go_wp2_with (go_at_call 67; refine hsame.mono ?_; rintro e w3 ⟨rfl, hd3⟩)
      go_ret
      exact ⟨ret_bool (by simp), hq2.trans ((hd3.below _).mono hq2.size)⟩
  have hk4b : (k == 4) = false := by rw [beq_eq_false_iff_ne]; exact hk4
  rw [hge hk2 hk3 hk4]
  go_enter Try.func33, Try.ntmps33
  go_wp2_with fail
  refine (hnear _ hq0).mono ?_
  rintro e w1 ⟨o1, rfl, ho1, hb1⟩
  have hq1 := hq0.trans (hb1.mono hq0.size)
  have cg : w1.cell? ⟨w.heap.size, 0, none⟩ = some (.slice (some ⟨vb, vo, none⟩) g.length vc) := (hb1.cell (p := ⟨w.heap.size, 0, none⟩) (by simp <;> omega)).trans (by simp [go_sem])
  have p0 : w1.cell? ⟨w.heap.size + 1, 0, none⟩ = some (.int .i64 x) := (hb1.cell (p := ⟨w.heap.size + 1, 0, none⟩) (by simp <;> omega)).trans (by simp [go_sem])
  have p1 : w1.cell? ⟨w.heap.size + 1, 1, none⟩ = some (.int .i64 j) := (hb1.cell (p := ⟨w.heap.size + 1, 1, none⟩) (by simp <;> omega)).trans (by simp [go_sem])
  have p2 : w1.cell? ⟨w.heap.size + 1, 2, none⟩ = some (.int .i64 k) := (hb1.cell (p := ⟨w.heap.size + 1, 2, none⟩) (by simp <;> omega)).trans (by simp [go_sem])
  obtain ⟨oa, oc, rfl⟩ := Own.isSlice ho1
  have hvc := hvc1 _ hq1
  go_wp2_with (go_at_call 32; refine (hinh _ hq1).mono ?_; rintro e w' ⟨rfl, rfl⟩)
  go_quiet ((go_at_call 32; exact quiet_same (hrh _ (hq1.drewN' _))))
  go_wp2
  go_ret
  exact ⟨rfl, hq1.drewN' _⟩
end Go.Proofs.Ytfccpencgengaaa
