/- EmbeddingsMany: the law's walk. -/
import Derived.Test.YtdbanndcdbikmaaDoorEmbY
import Derived.Test.YtdbanndcdbikmaaDoorGrR
namespace Go.Proofs.YtdbanndcdbikmaaDoor
open Go.RowKit
set_option maxHeartbeats 8000000 in
theorem lawEmbeddingsMany_any {S0 : Nat → Prop} (v0 : Value) (g0 : List (List Int)) (w : World) (ht : Tab w) (hv0 : SlR S0 w v0 g0) :
    Calls Tryd.prog 3 #[.agg #[v0]] w fun e w' => e = .returned (.bool true) ∧ Below w.heap.size w w' := by
  obtain ⟨a0, c0, rfl⟩ := hv0.slice
  have q0 : Below w.heap.size w (w.alloc (.cells #[.slice a0 g0.length c0] 24)) := (Below.refl _ _).alloc (Nat.le_refl _) _
  go_enter Tryd.func3, Tryd.ntmps3
  go_wp2_with fail
  refine (szGraph_any _ _ _ _ (hv0.below q0 (Nat.le_refl _)) (by omega) (by omega)).mono ?_
  rintro e w1 ⟨r1, rfl, hr1, hs1, hm1, hb1⟩
  have q1 := q0.trans (hb1.mono q0.size)
  have b0_1 : w1.cell? ⟨w.heap.size, 0, none⟩ = some (.slice a0 g0.length c0) := (hb1.cell (p := ⟨w.heap.size, 0, none⟩) (by simp <;> omega)).trans (by simp [go_sem])
  by_cases hneg1 : r1 < 0
  case pos =>
    go_wp2
    go_ret
    exact ⟨rfl, q1⟩
  have hsm0 : SmallR g0 1048576 := hm1 (by omega)
  go_wp2_with fail
  refine (toGraph_any _ _ _ (hv0.below q1 (Nat.le_refl _)) hsm0).mono ?_
  rintro e w2 ⟨x2, rfl, hy2, hb2⟩
  have q2 := q1.trans (hb2.mono q1.size)
  have b0_2 : w2.cell? ⟨w.heap.size, 0, none⟩ = some (.slice a0 g0.length c0) := (hb2.cell (p := ⟨w.heap.size, 0, none⟩) (cell_lt b0_1)).trans b0_1
  have y2_2 := hy2
  go_wp2_with fail
  refine (specEmbeddingsMany_any y2_2).mono ?_
  rintro e w3 ⟨rfl, hb3⟩
  have q3 := q2.trans (hb3.mono q2.size)
  have b0_3 : w3.cell? ⟨w.heap.size, 0, none⟩ = some (.slice a0 g0.length c0) := (hb3.cell (p := ⟨w.heap.size, 0, none⟩) (cell_lt b0_2)).trans b0_2
  have y2_3 := y2_2.below hb3 (Nat.le_refl _)
  go_wp2_with fail
  refine (toGraph_any _ _ _ (hv0.below q3 (Nat.le_refl _)) hsm0).mono ?_
  rintro e w4 ⟨x4, rfl, hy4, hb4⟩
  have q4 := q3.trans (hb4.mono q3.size)
  have b0_4 : w4.cell? ⟨w.heap.size, 0, none⟩ = some (.slice a0 g0.length c0) := (hb4.cell (p := ⟨w.heap.size, 0, none⟩) (cell_lt b0_3)).trans b0_3
  have y2_4 := y2_3.below hb4 (Nat.le_refl _)
  have y4_4 := hy4
  obtain ⟨xa5, xc5, rfl⟩ := y4_4.slice
  have hb5 : Below w4.heap.size w4 (w4.alloc (.cells #[.slice xa5 g0.length xc5] 27)) := (Below.refl _ _).alloc (Nat.le_refl _) _
  have q5 := q4.trans (hb5.mono q4.size)
  have b0_5 := (hb5.cell (p := ⟨w.heap.size, 0, none⟩) (cell_lt b0_4)).trans b0_4
  have y2_5 := y2_4.below hb5 (Nat.le_refl _)
  have y4_5 := y4_4.below hb5 (Nat.le_refl _)
  go_wp2_with fail
  refine (implEmbeddingsMany_any (ht.below q5 (Nat.le_refl _)) y4_5).mono ?_
  rintro e w6 ⟨rfl, hb6⟩
  have q6 := q5.trans (hb6.mono q5.size)
  have b0_6 : w6.cell? ⟨w.heap.size, 0, none⟩ = some (.slice a0 g0.length c0) := (hb6.cell (p := ⟨w.heap.size, 0, none⟩) (by have := cell_lt b0_5; simp at this ⊢; omega)).trans b0_5
  have l5_6 : w6.cell? ⟨w4.heap.size, 0, none⟩ = some (.slice xa5 g0.length xc5) := (hb6.cell (p := ⟨w4.heap.size, 0, none⟩) (by simp)).trans (by simp [go_sem])
  have y2_6 := y2_5.below hb6 (Nat.le_refl _)
  have y4_6 := y4_5.below hb6 (Nat.le_refl _)
  go_wp2
  have _tt : True := trivial
  refine wp_region_held_drew (S := (fun w' => w'.cell? ⟨w.heap.size, 0, none⟩ = some (.slice a0 g0.length c0) ∧ w'.cell? ⟨w4.heap.size, 0, none⟩ = some (.slice xa5 g0.length xc5))) (by kernel_rfl) ?_ (fun hHeld => ?_)
  · first | exact ⟨‹_›, ‹_›⟩ | assumption | (simp [*, go_sem])
  refine wpAnyH_take (i := 0) (v := ?v1) (by simp only [List.getElem?_toArray, List.getElem?_cons_zero]; exact rfl) (by kernel_rfl) (by kernel_rfl) (by kernel_rfl) (by intro _ _ _ h; exact h) (Or.inl ⟨by rfl, ?y1⟩) hHeld ?_
  case y1 => (intro w hSw; (try dsimp only at hSw); go_simp; try (with_reducible rfl))
  try simp only [Act.put, List.setIfInBounds_toArray, List.set_cons_zero, List.set_cons_succ]
  refine wpAnyH_take (i := 1) (v := ?v2) (by simp only [List.getElem?_toArray, List.getElem?_cons_succ, List.getElem?_cons_zero]; exact rfl) (by kernel_rfl) (by kernel_rfl) (by kernel_rfl) (by intro _ _ _ h; exact h) (Or.inl ⟨by rfl, ?y2⟩) hHeld ?_
  case y2 => (intro w hSw; (try dsimp only at hSw); go_simp; try (with_reducible rfl))
  try simp only [Act.put, List.setIfInBounds_toArray, List.set_cons_zero, List.set_cons_succ]
  refine wpAnyH_ready (rs := [2]) (by kernel_rfl) (by simp) ?_
  refine AllReadyH.cons (by simp only [List.getElem?_toArray, List.getElem?_cons_succ, List.getElem?_cons_zero]; exact rfl) (fun K hK => ?_) AllReadyH.nil
  go_simp
  have q6d := q6.drew
  refine (toGraph_any _ _ _ (hv0.below q6d (Nat.le_refl _)) hsm0).mono ?_
  rintro e w7 ⟨x7, rfl, hy7, hb7⟩
  have hb7e : Below w6.heap.size w6 w7 := ⟨hb7.os, hb7.tape, hb7.output, hb7.size, hb7.block⟩
  have q7 := q6.trans (hb7e.mono q6.size)
  have b0_7 : w7.cell? ⟨w.heap.size, 0, none⟩ = some (.slice a0 g0.length c0) := (hb7e.cell (p := ⟨w.heap.size, 0, none⟩) (cell_lt b0_6)).trans b0_6
  have l5_7 : w7.cell? ⟨w4.heap.size, 0, none⟩ = some (.slice xa5 g0.length xc5) := (hb7e.cell (p := ⟨w4.heap.size, 0, none⟩) (cell_lt l5_6)).trans l5_6
  have y2_7 := y2_6.below hb7e (Nat.le_refl _)
  have y4_7 := y4_6.below hb7e (Nat.le_refl _)
  have y7_7 := hy7
  try dsimp only
  refine hK.out _ _ ?h4 (fun hHeld => ?_)
  case h4 => first | exact ⟨‹_›, ‹_›⟩ | assumption | (simp [*, go_sem])
  clear hK K
  try simp only [Act.put, List.setIfInBounds_toArray, List.set_cons_zero, List.set_cons_succ]
  refine wpAnyH_ready (rs := [3]) (by kernel_rfl) (by simp) ?_
  refine AllReadyH.cons (by simp only [List.getElem?_toArray, List.getElem?_cons_succ, List.getElem?_cons_zero]; exact rfl) (fun K hK => ?_) AllReadyH.nil
  go_simp
  refine (eqGraph_any _ _ _ _ _ y4_7 y7_7).mono ?_
  rintro e w8 ⟨rfl, hb8⟩
  have q8 := q7.trans (hb8.mono q7.size)
  have b0_8 : w8.cell? ⟨w.heap.size, 0, none⟩ = some (.slice a0 g0.length c0) := (hb8.cell (p := ⟨w.heap.size, 0, none⟩) (cell_lt b0_7)).trans b0_7
  have l5_8 : w8.cell? ⟨w4.heap.size, 0, none⟩ = some (.slice xa5 g0.length xc5) := (hb8.cell (p := ⟨w4.heap.size, 0, none⟩) (cell_lt l5_7)).trans l5_7
  have y2_8 := y2_7.below hb8 (Nat.le_refl _)
  have y4_8 := y4_7.below hb8 (Nat.le_refl _)
  have y7_8 := y7_7.below hb8 (Nat.le_refl _)
  try dsimp only
  refine hK.out _ _ ?h6 (fun hHeld => ?_)
  case h6 => first | exact ⟨‹_›, ‹_›⟩ | assumption | (simp [*, go_sem])
  clear hK K
  try simp only [Act.put, List.setIfInBounds_toArray, List.set_cons_zero, List.set_cons_succ]
  refine wpAnyH_take (i := 4) (v := ?v7) (by simp only [List.getElem?_toArray, List.getElem?_cons_succ, List.getElem?_cons_zero]; exact rfl) (by kernel_rfl) (by kernel_rfl) (by kernel_rfl) (by intro _ _ _ h; exact h) (Or.inl ⟨by rfl, ?y7⟩) hHeld ?_
  case y7 => (intro w hSw; (try dsimp only at hSw); go_simp; try (with_reducible rfl))
  try simp only [Act.put, List.setIfInBounds_toArray, List.set_cons_zero, List.set_cons_succ]
  refine wpAnyH_done (by kernel_rfl) ?_ _
  go_wp2
  go_ret
  exact ⟨rfl, q8⟩
end Go.Proofs.YtdbanndcdbikmaaDoor
