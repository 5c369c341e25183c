/- The law of StrongIn, walked. -/
import Derived.Test.YtbpjbjeglcphcaaDoorStr4
import Derived.Test.YtbpjbjeglcphcaaDoorLaws
namespace Go.Proofs.YtbpjbjeglcphcaaDoor
open Go.RowKit
set_option maxHeartbeats 8000000 in
theorem lawStrongIn_any {S0 S1 : Nat → Prop} (v0 : Value) (g0 : List (List Int)) (v1 : Value) (s1 : List Int) (w : World) (ht : Tab w) (hv0 : SlR S0 w v0 g0) (hv1 : SlI S1 w .i64 v1 s1) :
    Calls Tryd.prog 3 #[.agg #[v0], v1] w fun e w' => e = .returned (.bool true) ∧ Below w.heap.size w w' := by
  obtain ⟨a0, c0, rfl⟩ := hv0.slice
  obtain ⟨a1, c1, rfl⟩ := hv1.slice
  have q0 : Below w.heap.size w (w.alloc (.cells #[.slice a0 g0.length c0] 24)) := (Below.refl _ _).alloc (Nat.le_refl _) _
  by_cases hl1 : s1.length ≤ 1048576
  case neg =>
    go_enter Tryd.func3, Tryd.ntmps3
    go_wp2
    go_ret
    exact ⟨rfl, q0⟩
  go_enter Tryd.func3, Tryd.ntmps3
  go_wp2_with fail
  refine (szGraph_any _ _ _ _ (hv0.below q0 (Nat.le_refl _)) (by omega) (by omega)).mono ?_
  rintro e w1 ⟨r1, rfl, hr1, hs1, hm1, hb1⟩
  have q1 := q0.trans (hb1.mono q0.size)
  have b0_1 : w1.cell? ⟨w.heap.size, 0, none⟩ = some (.slice a0 g0.length c0) := (hb1.cell (p := ⟨w.heap.size, 0, none⟩) (by simp <;> omega)).trans (by simp [go_sem])
  by_cases hneg1 : r1 < 0
  case pos =>
    go_wp2
    go_ret
    exact ⟨rfl, q1⟩
  have hsm0 : SmallR g0 1048576 := hm1 (by omega)
  go_wp2_with fail
  refine (toGraph_any _ _ _ (hv0.below q1 (Nat.le_refl _)) hsm0).mono ?_
  rintro e w2 ⟨x2, rfl, hy2, hb2⟩
  have q2 := q1.trans (hb2.mono q1.size)
  have b0_2 : w2.cell? ⟨w.heap.size, 0, none⟩ = some (.slice a0 g0.length c0) := (hb2.cell (p := ⟨w.heap.size, 0, none⟩) (cell_lt b0_1)).trans b0_1
  have y2_2 := hy2
  go_wp2_with fail
  refine (toInt64S_any _ _ _ (hv1.below q2 (Nat.le_refl _)) hl1).mono ?_
  rintro e w3 ⟨x3, rfl, hy3, hb3⟩
  have q3 := q2.trans (hb3.mono q2.size)
  have b0_3 : w3.cell? ⟨w.heap.size, 0, none⟩ = some (.slice a0 g0.length c0) := (hb3.cell (p := ⟨w.heap.size, 0, none⟩) (cell_lt b0_2)).trans b0_2
  have y2_3 := y2_2.below hb3 (Nat.le_refl _)
  have y3_3 := Own.ints (xs := s1) hy3 (by omega)
  go_wp2_with fail
  refine (specStrongIn_any y2_3 y3_3).mono ?_
  rintro e w4 ⟨rfl, hb4⟩
  have q4 := q3.trans (hb4.mono q3.size)
  have b0_4 : w4.cell? ⟨w.heap.size, 0, none⟩ = some (.slice a0 g0.length c0) := (hb4.cell (p := ⟨w.heap.size, 0, none⟩) (cell_lt b0_3)).trans b0_3
  have y2_4 := y2_3.below hb4 (Nat.le_refl _)
  have y3_4 := y3_3.below hb4 (Nat.le_refl _)
  go_wp2_with fail
  refine (toGraph_any _ _ _ (hv0.below q4 (Nat.le_refl _)) hsm0).mono ?_
  rintro e w5 ⟨x5, rfl, hy5, hb5⟩
  have q5 := q4.trans (hb5.mono q4.size)
  have b0_5 : w5.cell? ⟨w.heap.size, 0, none⟩ = some (.slice a0 g0.length c0) := (hb5.cell (p := ⟨w.heap.size, 0, none⟩) (cell_lt b0_4)).trans b0_4
  have y2_5 := y2_4.below hb5 (Nat.le_refl _)
  have y3_5 := y3_4.below hb5 (Nat.le_refl _)
  have y5_5 := hy5
  obtain ⟨xa6, xc6, rfl⟩ := y5_5.slice
  have hb6 : Below w5.heap.size w5 (w5.alloc (.cells #[.slice xa6 g0.length xc6] 28)) := (Below.refl _ _).alloc (Nat.le_refl _) _
  have q6 := q5.trans (hb6.mono q5.size)
  have b0_6 := (hb6.cell (p := ⟨w.heap.size, 0, none⟩) (cell_lt b0_5)).trans b0_5
  have y2_6 := y2_5.below hb6 (Nat.le_refl _)
  have y3_6 := y3_5.below hb6 (Nat.le_refl _)
  have y5_6 := y5_5.below hb6 (Nat.le_refl _)
  go_wp2_with fail
  refine (toInt64S_any _ _ _ (hv1.below q6 (Nat.le_refl _)) hl1).mono ?_
  rintro e w7 ⟨x7, rfl, hy7, hb7⟩
  have q7 := q6.trans (hb7.mono q6.size)
  have b0_7 : w7.cell? ⟨w.heap.size, 0, none⟩ = some (.slice a0 g0.length c0) := (hb7.cell (p := ⟨w.heap.size, 0, none⟩) (by have := cell_lt b0_6; simp at this ⊢; omega)).trans b0_6
  have l6_7 : w7.cell? ⟨w5.heap.size, 0, none⟩ = some (.slice xa6 g0.length xc6) := (hb7.cell (p := ⟨w5.heap.size, 0, none⟩) (by simp)).trans (by simp [go_sem])
  have y2_7 := y2_6.below hb7 (Nat.le_refl _)
  have y3_7 := y3_6.below hb7 (Nat.le_refl _)
  have y5_7 := y5_6.below hb7 (Nat.le_refl _)
  have y7_7 := Own.ints (xs := s1) hy7 (by omega)
  go_wp2_with fail
  refine (implStrongIn_any (ht.below q7 (Nat.le_refl _)) y5_7 y7_7).mono ?_
  rintro e w8 ⟨rfl, hb8⟩
  have q8 := q7.trans (hb8.mono q7.size)
  have b0_8 : w8.cell? ⟨w.heap.size, 0, none⟩ = some (.slice a0 g0.length c0) := (hb8.cell (p := ⟨w.heap.size, 0, none⟩) (cell_lt b0_7)).trans b0_7
  have l6_8 : w8.cell? ⟨w5.heap.size, 0, none⟩ = some (.slice xa6 g0.length xc6) := (hb8.cell (p := ⟨w5.heap.size, 0, none⟩) (cell_lt l6_7)).trans l6_7
  have y2_8 := y2_7.below hb8 (Nat.le_refl _)
  have y3_8 := y3_7.below hb8 (Nat.le_refl _)
  have y5_8 := y5_7.below hb8 (Nat.le_refl _)
  have y7_8 := y7_7.below hb8 (Nat.le_refl _)
  go_wp2
  have _tt : True := trivial
  refine wp_region_held_drew (S := (fun w' => w'.cell? ⟨w.heap.size, 0, none⟩ = some (.slice a0 g0.length c0) ∧ w'.cell? ⟨w5.heap.size, 0, none⟩ = some (.slice xa6 g0.length xc6))) (by kernel_rfl) ?_ (fun hHeld => ?_)
  · first | exact ⟨‹_›, ‹_›⟩ | assumption | (simp [*, go_sem])
  refine wpAnyH_take (i := 0) (v := ?v1) (by simp only [List.getElem?_toArray, List.getElem?_cons_zero]; exact rfl) (by kernel_rfl) (by kernel_rfl) (by kernel_rfl) (by intro _ _ _ h; exact h) (Or.inl ⟨by rfl, ?y1⟩) hHeld ?_
  case y1 => (intro w hSw; (try dsimp only at hSw); go_simp; try (with_reducible rfl))
  try simp only [Act.put, List.setIfInBounds_toArray, List.set_cons_zero, List.set_cons_succ]
  refine wpAnyH_take (i := 1) (v := ?v2) (by simp only [List.getElem?_toArray, List.getElem?_cons_succ, List.getElem?_cons_zero]; exact rfl) (by kernel_rfl) (by kernel_rfl) (by kernel_rfl) (by intro _ _ _ h; exact h) (Or.inl ⟨by rfl, ?y2⟩) hHeld ?_
  case y2 => (intro w hSw; (try dsimp only at hSw); go_simp; try (with_reducible rfl))
  try simp only [Act.put, List.setIfInBounds_toArray, List.set_cons_zero, List.set_cons_succ]
  refine wpAnyH_ready (rs := [2]) (by kernel_rfl) (by simp) ?_
  refine AllReadyH.cons (by simp only [List.getElem?_toArray, List.getElem?_cons_succ, List.getElem?_cons_zero]; exact rfl) (fun K hK => ?_) AllReadyH.nil
  go_simp
  have q8d := q8.drew
  refine (toGraph_any _ _ _ (hv0.below q8d (Nat.le_refl _)) hsm0).mono ?_
  rintro e w9 ⟨x9, rfl, hy9, hb9⟩
  have hb9e : Below w8.heap.size w8 w9 := ⟨hb9.os, hb9.tape, hb9.output, hb9.size, hb9.block⟩
  have q9 := q8.trans (hb9e.mono q8.size)
  have b0_9 : w9.cell? ⟨w.heap.size, 0, none⟩ = some (.slice a0 g0.length c0) := (hb9e.cell (p := ⟨w.heap.size, 0, none⟩) (cell_lt b0_8)).trans b0_8
  have l6_9 : w9.cell? ⟨w5.heap.size, 0, none⟩ = some (.slice xa6 g0.length xc6) := (hb9e.cell (p := ⟨w5.heap.size, 0, none⟩) (cell_lt l6_8)).trans l6_8
  have y2_9 := y2_8.below hb9e (Nat.le_refl _)
  have y3_9 := y3_8.below hb9e (Nat.le_refl _)
  have y5_9 := y5_8.below hb9e (Nat.le_refl _)
  have y7_9 := y7_8.below hb9e (Nat.le_refl _)
  have y9_9 := hy9
  try dsimp only
  refine hK.out _ _ ?h4 (fun hHeld => ?_)
  case h4 => first | exact ⟨‹_›, ‹_›⟩ | assumption | (simp [*, go_sem])
  clear hK K
  try simp only [Act.put, List.setIfInBounds_toArray, List.set_cons_zero, List.set_cons_succ]
  refine wpAnyH_ready (rs := [3]) (by kernel_rfl) (by simp) ?_
  refine AllReadyH.cons (by simp only [List.getElem?_toArray, List.getElem?_cons_succ, List.getElem?_cons_zero]; exact rfl) (fun K hK => ?_) AllReadyH.nil
  go_simp
  refine (eqGraph_any _ _ _ _ _ y5_9 y9_9).mono ?_
  rintro e w10 ⟨rfl, hb10⟩
  have q10 := q9.trans (hb10.mono q9.size)
  have b0_10 : w10.cell? ⟨w.heap.size, 0, none⟩ = some (.slice a0 g0.length c0) := (hb10.cell (p := ⟨w.heap.size, 0, none⟩) (cell_lt b0_9)).trans b0_9
  have l6_10 : w10.cell? ⟨w5.heap.size, 0, none⟩ = some (.slice xa6 g0.length xc6) := (hb10.cell (p := ⟨w5.heap.size, 0, none⟩) (cell_lt l6_9)).trans l6_9
  have y2_10 := y2_9.below hb10 (Nat.le_refl _)
  have y3_10 := y3_9.below hb10 (Nat.le_refl _)
  have y5_10 := y5_9.below hb10 (Nat.le_refl _)
  have y7_10 := y7_9.below hb10 (Nat.le_refl _)
  have y9_10 := y9_9.below hb10 (Nat.le_refl _)
  try dsimp only
  refine hK.out _ _ ?h6 (fun hHeld => ?_)
  case h6 => first | exact ⟨‹_›, ‹_›⟩ | assumption | (simp [*, go_sem])
  clear hK K
  try simp only [Act.put, List.setIfInBounds_toArray, List.set_cons_zero, List.set_cons_succ]
  refine wpAnyH_take (i := 4) (v := ?v7) (by simp only [List.getElem?_toArray, List.getElem?_cons_succ, List.getElem?_cons_zero]; exact rfl) (by kernel_rfl) (by kernel_rfl) (by kernel_rfl) (by intro _ _ _ h; exact h) (Or.inl ⟨by rfl, ?y7⟩) hHeld ?_
  case y7 => (intro w hSw; (try dsimp only at hSw); go_simp; try (with_reducible rfl))
  try simp only [Act.put, List.setIfInBounds_toArray, List.set_cons_zero, List.set_cons_succ]
  refine wpAnyH_done (by kernel_rfl) ?_ _
  go_wp2_with fail
  refine (toInt64S_any _ _ _ (hv1.below q10 (Nat.le_refl _)) hl1).mono ?_
  rintro e w11 ⟨x11, rfl, hy11, hb11⟩
  have q11 := q10.trans (hb11.mono q10.size)
  have b0_11 : w11.cell? ⟨w.heap.size, 0, none⟩ = some (.slice a0 g0.length c0) := (hb11.cell (p := ⟨w.heap.size, 0, none⟩) (cell_lt b0_10)).trans b0_10
  have l6_11 : w11.cell? ⟨w5.heap.size, 0, none⟩ = some (.slice xa6 g0.length xc6) := (hb11.cell (p := ⟨w5.heap.size, 0, none⟩) (cell_lt l6_10)).trans l6_10
  have y2_11 := y2_10.below hb11 (Nat.le_refl _)
  have y3_11 := y3_10.below hb11 (Nat.le_refl _)
  have y5_11 := y5_10.below hb11 (Nat.le_refl _)
  have y7_11 := y7_10.below hb11 (Nat.le_refl _)
  have y9_11 := y9_10.below hb11 (Nat.le_refl _)
  have y11_11 := Own.ints (xs := s1) hy11 (by omega)
  go_wp2_with fail
  refine (eqInt64S_any _ _ _ _ _ y7_11 y11_11).mono ?_
  rintro e w12 ⟨rfl, hd12⟩
  have hb12 := hd12.below w11.heap.size
  have q12 := q11.trans (hb12.mono q11.size)
  have b0_12 : w12.cell? ⟨w.heap.size, 0, none⟩ = some (.slice a0 g0.length c0) := (hb12.cell (p := ⟨w.heap.size, 0, none⟩) (cell_lt b0_11)).trans b0_11
  have l6_12 : w12.cell? ⟨w5.heap.size, 0, none⟩ = some (.slice xa6 g0.length xc6) := (hb12.cell (p := ⟨w5.heap.size, 0, none⟩) (cell_lt l6_11)).trans l6_11
  have y2_12 := y2_11.below hb12 (Nat.le_refl _)
  have y3_12 := y3_11.below hb12 (Nat.le_refl _)
  have y5_12 := y5_11.below hb12 (Nat.le_refl _)
  have y7_12 := y7_11.below hb12 (Nat.le_refl _)
  have y9_12 := y9_11.below hb12 (Nat.le_refl _)
  have y11_12 := y11_11.below hb12 (Nat.le_refl _)
  go_wp2
  go_ret
  exact ⟨rfl, q12⟩
end Go.Proofs.YtbpjbjeglcphcaaDoor
