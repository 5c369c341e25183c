/- IntervalsOf: the law. -/
import Derived.Test.YtpdlcnpmljfclaaDoorIvW
import Derived.Test.YtpdlcnpmljfclaaDoorMark3
namespace Go.Proofs.YtpdlcnpmljfclaaDoor
open Go.RowKit
theorem conIntervalsOf {g0 : List (List Int)} (hsm0 : SmallR g0 1048576) : ∃ (r0 : List (Int × Int)) (r1 : Bool), (∀ {S0 : Nat → Prop} {v0 : Value} {w : World}, SlR S0 w v0 g0 → Calls Tryd.prog 24 #[.agg #[v0]] w fun e w' => ∃ u0, e = .returned (.tuple #[u0, .bool r1]) ∧ SlV (fun b => b < w'.heap.size) w' u0 r0.length (flatV r0) ∧ Below w.heap.size w w') ∧
    (∀ {S0 : Nat → Prop} {v0 : Value} {w : World}, Tab w → SlR S0 w v0 g0 → Calls Tryd.prog 25 #[.agg #[v0]] w fun e w' => ∃ u0, e = .returned (.tuple #[u0, .bool r1]) ∧ Own w' w.heap.size 80 2 u0 r0.length ((flatV r0).map (.int .i64)) ∧ Below w.heap.size w w') ∧
    r0.length ≤ 1048576 := by
  exact ⟨_, _, fun h0 => specIntervalsOf_any h0, fun ht h0 => implIntervalsOf_any ht h0, ivL_len g0⟩
set_option maxHeartbeats 16000000 in
theorem lawIntervalsOf_any {S0 : Nat → Prop} (v0 : Value) (g0 : List (List Int)) (w : World) (ht : Tab w) (hv0 : SlR S0 w v0 g0) :
    Calls Tryd.prog 6 #[.agg #[v0]] w fun e w' => e = .returned (.bool true) ∧ Below w.heap.size w w' := by
  obtain ⟨a0, c0, rfl⟩ := hv0.slice
  have q0 : Below w.heap.size w (w.alloc (.cells #[.slice a0 g0.length c0] 24)) := (Below.refl _ _).alloc (Nat.le_refl _) _
  go_enter Tryd.func6, Tryd.ntmps6
  go_wp2_with fail
  refine (szGraph_any _ _ _ _ (hv0.below q0 (Nat.le_refl _)) (by omega) (by omega)).mono ?_
  rintro e w1 ⟨r1, rfl, hr1, hs1, hm1, hb1⟩
  have q1 := q0.trans (hb1.mono q0.size)
  have z0 := q0.size
  have z1 : w.heap.size + 1 ≤ w1.heap.size := by have := hb1.size; simp at this; omega
  have b0_1 : w1.cell? ⟨w.heap.size, 0, none⟩ = some (.slice a0 g0.length c0) := (hb1.cell (p := ⟨w.heap.size, 0, none⟩) (by simp <;> omega)).trans (by simp [go_sem])
  by_cases hneg1 : r1 < 0
  case pos =>
    go_wp2
    go_ret
    exact ⟨rfl, q1⟩
  have hsm0 : SmallR g0 1048576 := hm1 (by omega)
  obtain ⟨r0, r1, hS, hI, hN0⟩ := conIntervalsOf hsm0
  go_wp2_with fail
  refine (toGraphR_any (hv0.below q1 (Nat.le_refl _)) hsm0).mono ?_
  rintro e w2 ⟨x2, rfl, y2_2, hb2⟩
  have q2 := q1.trans (hb2.mono q1.size)
  have z2 := hb2.size
  have b0_2 : w2.cell? ⟨w.heap.size, 0, none⟩ = some (.slice a0 g0.length c0) := (hb2.cell (p := ⟨w.heap.size, 0, none⟩) (cell_lt b0_1)).trans b0_1
  obtain ⟨xa2, xc2, rfl⟩ := y2_2.isSlice
  go_wp2_with fail
  refine (hS (y2_2.rows hsm0)).mono ?_
  rintro e w3 ⟨w0u0, rfl, w0_0_3, hb3⟩
  have q3 := q2.trans (hb3.mono q2.size)
  have z3 := hb3.size
  have b0_3 : w3.cell? ⟨w.heap.size, 0, none⟩ = some (.slice a0 g0.length c0) := (hb3.cell (p := ⟨w.heap.size, 0, none⟩) (cell_lt b0_2)).trans b0_2
  have y2_3 := y2_2.below hb3 (Nat.le_refl _)
  obtain ⟨w0a0, w0c0, rfl⟩ := w0_0_3.slice
  go_wp2_with fail
  refine (toGraphR_any (hv0.below q3 (Nat.le_refl _)) hsm0).mono ?_
  rintro e w4 ⟨x4, rfl, y4_4, hb4⟩
  have q4 := q3.trans (hb4.mono q3.size)
  have z4 := hb4.size
  have b0_4 : w4.cell? ⟨w.heap.size, 0, none⟩ = some (.slice a0 g0.length c0) := (hb4.cell (p := ⟨w.heap.size, 0, none⟩) (cell_lt b0_3)).trans b0_3
  have y2_4 := y2_3.below hb4 (Nat.le_refl _)
  have w0_0_4 := w0_0_3.below hb4 (Nat.le_refl _)
  obtain ⟨xa4, xc4, rfl⟩ := y4_4.isSlice
  have hb5 : Below w4.heap.size w4 (w4.alloc (.cells #[.slice xa4 g0.length xc4] 29)) := (Below.refl _ _).alloc (Nat.le_refl _) _
  obtain ⟨w5, ew5⟩ : ∃ x, x = (w4.alloc (.cells #[.slice xa4 g0.length xc4] 29)) := ⟨_, rfl⟩
  rw [← ew5] at hb5
  have l5_5 : w5.cell? ⟨w4.heap.size, 0, none⟩ = some (.slice xa4 g0.length xc4) := by rw [ew5]; simp [go_sem]
  have zz5 : w5.heap.size = w4.heap.size + 1 := by rw [ew5]; simp
  have q5 := q4.trans (hb5.mono q4.size)
  have z5 := hb5.size
  have b0_5 : w5.cell? ⟨w.heap.size, 0, none⟩ = some (.slice a0 g0.length c0) := (hb5.cell (p := ⟨w.heap.size, 0, none⟩) (cell_lt b0_4)).trans b0_4
  have y2_5 := y2_4.below hb5 (Nat.le_refl _)
  have w0_0_5 := w0_0_4.below hb5 (Nat.le_refl _)
  have y4_5 := y4_4.below hb5 (Nat.le_refl _)
  have b0_5e : (w4.alloc (.cells #[.slice xa4 g0.length xc4] 29)).cell? ⟨w.heap.size, 0, none⟩ = some (.slice a0 g0.length c0) := by rw [← ew5]; exact b0_5
  have l5_5e : (w4.alloc (.cells #[.slice xa4 g0.length xc4] 29)).cell? ⟨w4.heap.size, 0, none⟩ = some (.slice xa4 g0.length xc4) := by rw [← ew5]; exact l5_5
  go_wp2_with fail
  rw [← ew5]
  refine (hI (ht.below q5 (Nat.le_refl _)) (y4_5.rows hsm0)).mono ?_
  rintro e w6 ⟨g0u0, rfl, g0_0_6, hb6⟩
  have q6 := q5.trans (hb6.mono q5.size)
  have z6 := hb6.size
  have b0_6 : w6.cell? ⟨w.heap.size, 0, none⟩ = some (.slice a0 g0.length c0) := (hb6.cell (p := ⟨w.heap.size, 0, none⟩) (cell_lt b0_5)).trans b0_5
  have l5_6 : w6.cell? ⟨w4.heap.size, 0, none⟩ = some (.slice xa4 g0.length xc4) := (hb6.cell (p := ⟨w4.heap.size, 0, none⟩) (cell_lt l5_5)).trans l5_5
  have y2_6 := y2_5.below hb6 (Nat.le_refl _)
  have w0_0_6 := w0_0_5.below hb6 (Nat.le_refl _)
  have y4_6 := y4_5.below hb6 (Nat.le_refl _)
  obtain ⟨g0a0, g0c0, rfl⟩ := g0_0_6.isSlice
  go_wp2_with fail
  refine (eqV_same (Own.ivs g0_0_6) w0_0_6).mono ?_
  rintro e w7 ⟨rfl, hb7⟩
  have q7 := q6.trans (hb7.mono q6.size)
  have z7 := hb7.size
  have b0_7 : w7.cell? ⟨w.heap.size, 0, none⟩ = some (.slice a0 g0.length c0) := (hb7.cell (p := ⟨w.heap.size, 0, none⟩) (cell_lt b0_6)).trans b0_6
  have l5_7 : w7.cell? ⟨w4.heap.size, 0, none⟩ = some (.slice xa4 g0.length xc4) := (hb7.cell (p := ⟨w4.heap.size, 0, none⟩) (cell_lt l5_6)).trans l5_6
  have y2_7 := y2_6.below hb7 (Nat.le_refl _)
  have w0_0_7 := w0_0_6.below hb7 (Nat.le_refl _)
  have y4_7 := y4_6.below hb7 (Nat.le_refl _)
  have g0_0_7 := g0_0_6.below hb7 (Nat.le_refl _)
  go_wp2
  refine wp_region_held_drew (S := (fun w' => w'.cell? ⟨w.heap.size, 0, none⟩ = some (.slice a0 g0.length c0) ∧ w'.cell? ⟨w4.heap.size, 0, none⟩ = some (.slice xa4 g0.length xc4))) (by kernel_rfl) ?_ (fun hHeld => ?_)
  · first | exact ⟨‹_›, ‹_›⟩ | assumption | (simp [*, go_sem])
  refine wpAnyH_take (i := 0) (v := ?v1) (by simp only [List.getElem?_toArray, List.getElem?_cons_zero]; exact rfl) (by kernel_rfl) (by kernel_rfl) (by kernel_rfl) (by intro _ _ _ h; exact h) (Or.inl ⟨by rfl, ?y1⟩) hHeld ?_
  case y1 => (intro w hSw; (try dsimp only at hSw); go_simp; try (with_reducible rfl))
  try simp only [Act.put, List.setIfInBounds_toArray, List.set_cons_zero, List.set_cons_succ]
  refine wpAnyH_take (i := 1) (v := ?v2) (by simp only [List.getElem?_toArray, List.getElem?_cons_succ, List.getElem?_cons_zero]; exact rfl) (by kernel_rfl) (by kernel_rfl) (by kernel_rfl) (by intro _ _ _ h; exact h) (Or.inl ⟨by rfl, ?y2⟩) hHeld ?_
  case y2 => (intro w hSw; (try dsimp only at hSw); go_simp; try (with_reducible rfl))
  try simp only [Act.put, List.setIfInBounds_toArray, List.set_cons_zero, List.set_cons_succ]
  refine wpAnyH_ready (rs := [2]) (by kernel_rfl) (by simp) ?_
  refine AllReadyH.cons (by simp only [List.getElem?_toArray, List.getElem?_cons_succ, List.getElem?_cons_zero]; exact rfl) (fun K hK => ?_) AllReadyH.nil
  go_simp
  have q7d := q7.drew
  have y2_7k := y2_7
  have y2_7 := y2_7.below ((Below.refl w7.heap.size w7).drew) (Nat.le_refl _)
  have w0_0_7k := w0_0_7
  have w0_0_7 := w0_0_7.below ((Below.refl w7.heap.size w7).drew) (Nat.le_refl _)
  have y4_7k := y4_7
  have y4_7 := y4_7.below ((Below.refl w7.heap.size w7).drew) (Nat.le_refl _)
  have g0_0_7k := g0_0_7
  have g0_0_7 := g0_0_7.below ((Below.refl w7.heap.size w7).drew) (Nat.le_refl _)
  refine (toGraph_any _ _ _ (hv0.below q7d (Nat.le_refl _)) hsm0).mono ?_
  rintro e w8 ⟨x8, rfl, y8_8, hb8⟩
  replace hb8 : Below w7.heap.size w7 w8 := ⟨hb8.os, hb8.tape, hb8.output, hb8.size, hb8.block⟩
  replace y2_7 := y2_7k
  replace w0_0_7 := w0_0_7k
  replace y4_7 := y4_7k
  replace g0_0_7 := g0_0_7k
  have q8 := q7.trans (hb8.mono q7.size)
  have z8 := hb8.size
  have b0_8 : w8.cell? ⟨w.heap.size, 0, none⟩ = some (.slice a0 g0.length c0) := (hb8.cell (p := ⟨w.heap.size, 0, none⟩) (cell_lt b0_7)).trans b0_7
  have l5_8 : w8.cell? ⟨w4.heap.size, 0, none⟩ = some (.slice xa4 g0.length xc4) := (hb8.cell (p := ⟨w4.heap.size, 0, none⟩) (cell_lt l5_7)).trans l5_7
  have y2_8 := y2_7.below hb8 (Nat.le_refl _)
  have w0_0_8 := w0_0_7.below hb8 (Nat.le_refl _)
  have y4_8 := y4_7.below hb8 (Nat.le_refl _)
  have g0_0_8 := g0_0_7.below hb8 (Nat.le_refl _)
  try dsimp only
  refine hK.out _ _ ?h4 (fun hHeld => ?_)
  case h4 => first | exact ⟨‹_›, ‹_›⟩ | assumption | (simp [*, go_sem])
  clear hK K
  try simp only [Act.put, List.setIfInBounds_toArray, List.set_cons_zero, List.set_cons_succ]
  refine wpAnyH_ready (rs := [3]) (by kernel_rfl) (by simp) ?_
  refine AllReadyH.cons (by simp only [List.getElem?_toArray, List.getElem?_cons_succ, List.getElem?_cons_zero]; exact rfl) (fun K hK => ?_) AllReadyH.nil
  go_simp
  refine (eqG_same (y4_8.rows hsm0) y8_8).mono ?_
  rintro e w9 ⟨rfl, hb9⟩
  have q9 := q8.trans (hb9.mono q8.size)
  have z9 := hb9.size
  have b0_9 : w9.cell? ⟨w.heap.size, 0, none⟩ = some (.slice a0 g0.length c0) := (hb9.cell (p := ⟨w.heap.size, 0, none⟩) (cell_lt b0_8)).trans b0_8
  have l5_9 : w9.cell? ⟨w4.heap.size, 0, none⟩ = some (.slice xa4 g0.length xc4) := (hb9.cell (p := ⟨w4.heap.size, 0, none⟩) (cell_lt l5_8)).trans l5_8
  have y2_9 := y2_8.below hb9 (Nat.le_refl _)
  have w0_0_9 := w0_0_8.below hb9 (Nat.le_refl _)
  have y4_9 := y4_8.below hb9 (Nat.le_refl _)
  have g0_0_9 := g0_0_8.below hb9 (Nat.le_refl _)
  have y8_9 := y8_8.below hb9 (Nat.le_refl _)
  try dsimp only
  refine hK.out _ _ ?h6 (fun hHeld => ?_)
  case h6 => first | exact ⟨‹_›, ‹_›⟩ | assumption | (simp [*, go_sem])
  clear hK K
  try simp only [Act.put, List.setIfInBounds_toArray, List.set_cons_zero, List.set_cons_succ]
  refine wpAnyH_take (i := 4) (v := ?v7) (by simp only [List.getElem?_toArray, List.getElem?_cons_succ, List.getElem?_cons_zero]; exact rfl) (by kernel_rfl) (by kernel_rfl) (by kernel_rfl) (by intro _ _ _ h; exact h) (Or.inl ⟨by rfl, ?y7⟩) hHeld ?_
  case y7 => (intro w hSw; (try dsimp only at hSw); go_simp; try (with_reducible rfl))
  try simp only [Act.put, List.setIfInBounds_toArray, List.set_cons_zero, List.set_cons_succ]
  refine wpAnyH_done (by kernel_rfl) ?_ _
  go_wp2_with fail
  refine (markG_any y4_9 hsm0 (by omega) (by omega) (by omega)).mono ?_
  rintro e w10 ⟨k10, rfl, hk10, hl10, ht10⟩
  have q10 := ht10.below q9 (by have := q9.size; omega) q9.size
  have z10 := ht10.size
  have b0_10 : w10.cell? ⟨w.heap.size, 0, none⟩ = some (.slice a0 g0.length c0) := (ht10.cell (p := ⟨w.heap.size, 0, none⟩) (cell_lt b0_9) (by have : w.heap.size < w9.heap.size := cell_lt b0_9; show w.heap.size < _ ∨ _ ≤ w.heap.size; omega)).trans b0_9
  have l5_10 : w10.cell? ⟨w4.heap.size, 0, none⟩ = some (.slice xa4 g0.length xc4) := (ht10.cell (p := ⟨w4.heap.size, 0, none⟩) (cell_lt l5_9) (by have : w4.heap.size < w9.heap.size := cell_lt l5_9; show w4.heap.size < _ ∨ _ ≤ w4.heap.size; omega)).trans l5_9
  have y2_10 := y2_9.between ht10 (by omega)
  have w0_0_10 := w0_0_9.between ht10 (fun b (hb : b < w3.heap.size) => ⟨by omega, by omega⟩)
  have g0_0_10 := g0_0_9.between ht10 (by omega)
  have hkn10 : ¬ k10 < 0 := by omega
  go_wp2_with fail
  refine (eqV_same (Own.ivs g0_0_10) w0_0_10).mono ?_
  rintro e w11 ⟨rfl, hb11⟩
  have q11 := q10.trans (hb11.mono q10.size)
  have z11 := hb11.size
  have b0_11 : w11.cell? ⟨w.heap.size, 0, none⟩ = some (.slice a0 g0.length c0) := (hb11.cell (p := ⟨w.heap.size, 0, none⟩) (cell_lt b0_10)).trans b0_10
  have l5_11 : w11.cell? ⟨w4.heap.size, 0, none⟩ = some (.slice xa4 g0.length xc4) := (hb11.cell (p := ⟨w4.heap.size, 0, none⟩) (cell_lt l5_10)).trans l5_10
  have y2_11 := y2_10.below hb11 (Nat.le_refl _)
  have w0_0_11 := w0_0_10.below hb11 (Nat.le_refl _)
  have g0_0_11 := g0_0_10.below hb11 (Nat.le_refl _)
  go_wp2_with fail
  refine (markV_any g0_0_11 hN0).mono ?_
  rintro e w12 ⟨rfl, g0_0_12, ht12⟩
  have q12 := ht12.below q11 (by have := q11.size; omega) q11.size
  have z12 := ht12.size
  have b0_12 : w12.cell? ⟨w.heap.size, 0, none⟩ = some (.slice a0 g0.length c0) := (ht12.cell (p := ⟨w.heap.size, 0, none⟩) (cell_lt b0_11) (by have : w.heap.size < w11.heap.size := cell_lt b0_11; show w.heap.size < _ ∨ _ ≤ w.heap.size; omega)).trans b0_11
  have l5_12 : w12.cell? ⟨w4.heap.size, 0, none⟩ = some (.slice xa4 g0.length xc4) := (ht12.cell (p := ⟨w4.heap.size, 0, none⟩) (cell_lt l5_11) (by have : w4.heap.size < w11.heap.size := cell_lt l5_11; show w4.heap.size < _ ∨ _ ≤ w4.heap.size; omega)).trans l5_11
  have y2_12 := y2_11.between ht12 (by omega)
  have w0_0_12 := w0_0_11.between ht12 (fun b (hb : b < w3.heap.size) => ⟨by omega, by omega⟩)
  go_wp2_with fail
  refine (heldV_any (Own.ivs g0_0_12) hN0).mono ?_
  rintro e w13 ⟨rfl, hb13⟩
  have q13 := q12.trans (hb13.mono q12.size)
  have z13 := hb13.size
  have b0_13 : w13.cell? ⟨w.heap.size, 0, none⟩ = some (.slice a0 g0.length c0) := (hb13.cell (p := ⟨w.heap.size, 0, none⟩) (cell_lt b0_12)).trans b0_12
  have l5_13 : w13.cell? ⟨w4.heap.size, 0, none⟩ = some (.slice xa4 g0.length xc4) := (hb13.cell (p := ⟨w4.heap.size, 0, none⟩) (cell_lt l5_12)).trans l5_12
  have y2_13 := y2_12.below hb13 (Nat.le_refl _)
  have w0_0_13 := w0_0_12.below hb13 (Nat.le_refl _)
  have g0_0_13 := g0_0_12.below hb13 (Nat.le_refl _)
  have hmn13 : ¬ (1 + 2 * (r0.length : Int)) < 0 := by omega
  go_wp2_with fail
  refine (toGraphR_any (hv0.below q13 (Nat.le_refl _)) hsm0).mono ?_
  rintro e w14 ⟨x14, rfl, y14_14, hb14⟩
  have q14 := q13.trans (hb14.mono q13.size)
  have z14 := hb14.size
  have b0_14 : w14.cell? ⟨w.heap.size, 0, none⟩ = some (.slice a0 g0.length c0) := (hb14.cell (p := ⟨w.heap.size, 0, none⟩) (cell_lt b0_13)).trans b0_13
  have l5_14 : w14.cell? ⟨w4.heap.size, 0, none⟩ = some (.slice xa4 g0.length xc4) := (hb14.cell (p := ⟨w4.heap.size, 0, none⟩) (cell_lt l5_13)).trans l5_13
  have y2_14 := y2_13.below hb14 (Nat.le_refl _)
  have w0_0_14 := w0_0_13.below hb14 (Nat.le_refl _)
  have g0_0_14 := g0_0_13.below hb14 (Nat.le_refl _)
  obtain ⟨xa14, xc14, rfl⟩ := y14_14.isSlice
  go_wp2_with fail
  refine (hI (ht.below q14 (Nat.le_refl _)) (y14_14.rows hsm0)).mono ?_
  rintro e w15 ⟨h0u0, rfl, h0_0_15, hb15⟩
  have q15 := q14.trans (hb15.mono q14.size)
  have z15 := hb15.size
  have b0_15 : w15.cell? ⟨w.heap.size, 0, none⟩ = some (.slice a0 g0.length c0) := (hb15.cell (p := ⟨w.heap.size, 0, none⟩) (cell_lt b0_14)).trans b0_14
  have l5_15 : w15.cell? ⟨w4.heap.size, 0, none⟩ = some (.slice xa4 g0.length xc4) := (hb15.cell (p := ⟨w4.heap.size, 0, none⟩) (cell_lt l5_14)).trans l5_14
  have y2_15 := y2_14.below hb15 (Nat.le_refl _)
  have w0_0_15 := w0_0_14.below hb15 (Nat.le_refl _)
  have g0_0_15 := g0_0_14.below hb15 (Nat.le_refl _)
  have y14_15 := y14_14.below hb15 (Nat.le_refl _)
  obtain ⟨h0a0, h0c0, rfl⟩ := h0_0_15.isSlice
  go_wp2_with fail
  refine (eqV_same (Own.ivs h0_0_15) w0_0_15).mono ?_
  rintro e w16 ⟨rfl, hb16⟩
  have q16 := q15.trans (hb16.mono q15.size)
  have z16 := hb16.size
  have b0_16 : w16.cell? ⟨w.heap.size, 0, none⟩ = some (.slice a0 g0.length c0) := (hb16.cell (p := ⟨w.heap.size, 0, none⟩) (cell_lt b0_15)).trans b0_15
  have l5_16 : w16.cell? ⟨w4.heap.size, 0, none⟩ = some (.slice xa4 g0.length xc4) := (hb16.cell (p := ⟨w4.heap.size, 0, none⟩) (cell_lt l5_15)).trans l5_15
  have y2_16 := y2_15.below hb16 (Nat.le_refl _)
  have w0_0_16 := w0_0_15.below hb16 (Nat.le_refl _)
  have g0_0_16 := g0_0_15.below hb16 (Nat.le_refl _)
  have y14_16 := y14_15.below hb16 (Nat.le_refl _)
  have h0_0_16 := h0_0_15.below hb16 (Nat.le_refl _)
  go_wp2_with fail
  refine (heldV_any (Own.ivs g0_0_16) hN0).mono ?_
  rintro e w17 ⟨rfl, hb17⟩
  have q17 := q16.trans (hb17.mono q16.size)
  have z17 := hb17.size
  have b0_17 : w17.cell? ⟨w.heap.size, 0, none⟩ = some (.slice a0 g0.length c0) := (hb17.cell (p := ⟨w.heap.size, 0, none⟩) (cell_lt b0_16)).trans b0_16
  have l5_17 : w17.cell? ⟨w4.heap.size, 0, none⟩ = some (.slice xa4 g0.length xc4) := (hb17.cell (p := ⟨w4.heap.size, 0, none⟩) (cell_lt l5_16)).trans l5_16
  have y2_17 := y2_16.below hb17 (Nat.le_refl _)
  have w0_0_17 := w0_0_16.below hb17 (Nat.le_refl _)
  have g0_0_17 := g0_0_16.below hb17 (Nat.le_refl _)
  have y14_17 := y14_16.below hb17 (Nat.le_refl _)
  have h0_0_17 := h0_0_16.below hb17 (Nat.le_refl _)
  have hmn17 : ¬ (1 + 2 * (r0.length : Int)) < 0 := by omega
  go_wp2
  go_ret
  exact ⟨rfl, q17⟩
end Go.Proofs.YtpdlcnpmljfclaaDoor
