/- FacesOf of the reference; the law. -/
import Derived.Test.YtkgnobiihmljfaaFac3
import Derived.Test.YtkgnobiihmljfaaMark4
namespace Go.Proofs.Ytkgnobiihmljfaa
open Go.RowKit
set_option maxHeartbeats 4000000 in
theorem specFacesOf_any {S S' : Nat → Prop} {gv rv : Value} {g r : List (List Int)} {w : World} (hvg : SlR S w gv g) (hvr : SlR S' w rv r) :
    Calls Try.prog 19 #[.agg #[gv], .agg #[rv]] w fun e w' => ∃ u, e = .returned u ∧ SlR (fun b => b < w'.heap.size) w' u (facesF g r) ∧ Below w.heap.size w w' := by
  have hq0 : Below w.heap.size w ((w.alloc (.cells #[gv] 30)).alloc (.cells #[rv] 32)) := ((Below.refl _ _).alloc (Nat.le_refl _) _).alloc (by simp) _
  obtain ⟨ga, gc, rfl⟩ := hvg.slice
  obtain ⟨ra, rc, rfl⟩ := hvr.slice
  have hao := specAroundOk_any (hvg.below hq0 (Nat.le_refl _)) (hvr.below hq0 (Nat.le_refl _))
  by_cases ha : aroundB g r = true
  case neg =>
    have HE := Lib.hid (show facesF g r = [] by rw [facesF, if_neg ha])
    rw [Bool.not_eq_true] at ha
    rw [ha] at hao
    clear ha
    rw [HE.out]
    go_enter Try.func19, Try.ntmps19
    go_wp2_with fail
    refine hao.mono ?_
    rintro e w1 ⟨rfl, hb1⟩
    have hq1 := hq0.trans (hb1.mono hq0.size)
    go_wp2
    go_ret
    exact ⟨_, rfl, ⟨_, w1.heap.size, 0, 0, fun _ => undef, rfl, by simp, fun h => by simp at h, fun i hi => by simp at hi⟩, hq1.alloc hq1.size _⟩
  have hP := around_iff.1 ha
  have HE := Lib.hid (show facesF g r = (facesN (tOf r)).map natsI by rw [facesF, if_pos ha])
  have HSM := Lib.hid (facesF_small g r)
  rw [ha] at hao
  have HRT := Lib.hid (aro_rot hP)
  have HEQ := Lib.hid (aro_eq hP)
  have HL0 := Lib.hid (show 0 < (tOf r).length by rw [tOf_len, hP.len]; exact hP.gok.lo)
  clear ha hP
  go_enter Try.func19, Try.ntmps19
  go_wp2_with fail
  refine hao.mono ?_
  rintro e w1 ⟨rfl, hb1⟩
  have hq1 := hq0.trans (hb1.mono hq0.size)
  have c1 : w1.cell? ⟨w.heap.size + 1, 0, none⟩ = some (.slice ra r.length rc) := (hb1.cell (p := ⟨w.heap.size + 1, 0, none⟩) (by simp)).trans (by simp [go_sem])
  have htr := hvr.below hq1 (Nat.le_refl _)
  rw [show SlR S' w1 (.slice ra r.length rc) r = SlR S' w1 (.slice ra r.length rc) ((tOf r).map natsI) by rw [← HEQ.out]] at htr
  have hfa := l22Faces_any HRT.out HL0.out htr
  clear hao
  go_wp2_with fail
  refine hfa.mono ?_
  rintro e w2 ⟨fu, rfl, hfu, hb2⟩
  go_wp2
  go_ret
  refine ⟨_, rfl, ?_, hq1.trans (hb2.mono hq1.size)⟩
  rw [← HE.out] at hfu
  exact (hfu.rows HSM.out).weak fun b hb => hb.2
theorem conFacesOf {g0 : List (List Int)} {rr1 : List (List Int)} (hsm0 : SmallR g0 1048576) (hsm1 : SmallR rr1 1048576) : ∃ (r0 : List (List Int)), (∀ {S0 S1 : Nat → Prop} {v0 v1 : Value} {w : World}, SlR S0 w v0 g0 → SlR S1 w v1 rr1 → Calls Try.prog 19 #[.agg #[v0], .agg #[v1]] w fun e w' => ∃ u0, e = .returned (u0) ∧ SlR (fun b => b < w'.heap.size) w' u0 r0 ∧ Below w.heap.size w w') ∧
    (∀ {S0 S1 : Nat → Prop} {v0 v1 : Value} {w : World}, SlR S0 w v0 g0 → SlR S1 w v1 rr1 → Calls Try.prog 20 #[.agg #[v0], .agg #[v1]] w fun e w' => ∃ u0, e = .returned (u0) ∧ OwnR w' w.heap.size w'.heap.size 37 2 u0 r0 ∧ Below w.heap.size w w') ∧
    SmallR r0 1048576 := by
  exact ⟨facesF g0 rr1, fun h0 h1 => specFacesOf_any h0 h1, fun h0 h1 => implFacesOf_any h0 h1 hsm1, facesF_small g0 rr1⟩
set_option maxHeartbeats 16000000 in
theorem lawFacesOf_any {S0 S1 : Nat → Prop} (v0 : Value) (g0 : List (List Int)) (v1 : Value) (rr1 : List (List Int)) (w : World) (hv0 : SlR S0 w v0 g0) (hv1 : SlR S1 w v1 rr1) :
    Calls Try.prog 5 #[.agg #[v0], .agg #[v1]] w fun e w' => e = .returned (.bool true) ∧ Below w.heap.size w w' := by
  obtain ⟨a0, c0, rfl⟩ := hv0.slice
  obtain ⟨a1, c1, rfl⟩ := hv1.slice
  have q0 : Below w.heap.size w ((w.alloc (.cells #[.slice a0 g0.length c0] 24)).alloc (.cells #[.slice a1 rr1.length c1] 26)) := ((Below.refl _ _).alloc (Nat.le_refl _) _).alloc (by simp; try omega) _
  go_enter Try.func5, Try.ntmps5
  go_wp2_with fail
  refine (szGraph_any _ _ _ _ (hv0.below q0 (Nat.le_refl _)) (by omega) (by omega)).mono ?_
  rintro e w1 ⟨r1, rfl, hr1, hs1, hm1, hb1⟩
  have q1 := q0.trans (hb1.mono q0.size)
  have z0 := q0.size
  have z1 : w.heap.size + 2 ≤ w1.heap.size := by have := hb1.size; simp at this; omega
  have b0_1 : w1.cell? ⟨w.heap.size, 0, none⟩ = some (.slice a0 g0.length c0) := (hb1.cell (p := ⟨w.heap.size, 0, none⟩) (by simp <;> omega)).trans (by simp [go_sem])
  have b1_1 : w1.cell? ⟨w.heap.size + 1, 0, none⟩ = some (.slice a1 rr1.length c1) := (hb1.cell (p := ⟨w.heap.size + 1, 0, none⟩) (by simp <;> omega)).trans (by simp [go_sem])
  by_cases hneg1 : r1 < 0
  case pos =>
    go_wp2
    go_ret
    exact ⟨rfl, q1⟩
  have hsm0 : SmallR g0 1048576 := hm1 (by omega)
  go_wp2_with fail
  refine (szAround_any _ _ _ _ (hv1.below q1 (Nat.le_refl _)) (by omega) (by omega)).mono ?_
  rintro e w2 ⟨r2, rfl, hr2, hs2, hm2, hb2⟩
  have q2 := q1.trans (hb2.mono q1.size)
  have z2 := hb2.size
  have b0_2 : w2.cell? ⟨w.heap.size, 0, none⟩ = some (.slice a0 g0.length c0) := (hb2.cell (p := ⟨w.heap.size, 0, none⟩) (cell_lt b0_1)).trans b0_1
  have b1_2 : w2.cell? ⟨w.heap.size + 1, 0, none⟩ = some (.slice a1 rr1.length c1) := (hb2.cell (p := ⟨w.heap.size + 1, 0, none⟩) (cell_lt b1_1)).trans b1_1
  by_cases hneg2 : r2 < 0
  case pos =>
    go_wp2
    go_ret
    exact ⟨rfl, q2⟩
  have hsm1 : SmallR rr1 1048576 := smallR_mono (hm2 (by omega)) (by omega)
  obtain ⟨r0, hS, hI, hN0⟩ := conFacesOf hsm0 hsm1
  go_wp2
  refine wp_region_held_drew (S := (fun w' => w'.cell? ⟨w.heap.size, 0, none⟩ = some (.slice a0 g0.length c0) ∧ w'.cell? ⟨w.heap.size + 1, 0, none⟩ = some (.slice a1 rr1.length c1))) (by kernel_rfl) ?_ (fun hHeld => ?_)
  · first | exact ⟨‹_›, ‹_›⟩ | assumption | (simp [*, go_sem])
  refine wpAnyH_take (i := 0) (v := ?v1) (by simp only [List.getElem?_toArray, List.getElem?_cons_zero]; exact rfl) (by kernel_rfl) (by kernel_rfl) (by kernel_rfl) (by intro _ _ _ h; exact h) (Or.inl ⟨by rfl, ?y1⟩) hHeld ?_
  case y1 => (intro w hSw; (try dsimp only at hSw); go_simp; try (with_reducible rfl))
  try simp only [Act.put, List.setIfInBounds_toArray, List.set_cons_zero, List.set_cons_succ]
  refine wpAnyH_take (i := 2) (v := ?v2) (by simp only [List.getElem?_toArray, List.getElem?_cons_succ, List.getElem?_cons_zero]; exact rfl) (by kernel_rfl) (by kernel_rfl) (by kernel_rfl) (by intro _ _ _ h; exact h) (Or.inl ⟨by rfl, ?y2⟩) hHeld ?_
  case y2 => (intro w hSw; (try dsimp only at hSw); go_simp; try (with_reducible rfl))
  try simp only [Act.put, List.setIfInBounds_toArray, List.set_cons_zero, List.set_cons_succ]
  refine wpAnyH_ready (rs := [1]) (by kernel_rfl) (by simp) ?_
  refine AllReadyH.cons (by simp only [List.getElem?_toArray, List.getElem?_cons_succ, List.getElem?_cons_zero]; exact rfl) (fun K hK => ?_) AllReadyH.nil
  go_simp
  have q2d := q2.drew
  refine (toGraph_any _ _ _ (hv0.below q2d (Nat.le_refl _)) hsm0).mono ?_
  rintro e w3 ⟨x3, rfl, y3_3, hb3⟩
  replace hb3 : Below w2.heap.size w2 w3 := ⟨hb3.os, hb3.tape, hb3.output, hb3.size, hb3.block⟩
  have q3 := q2.trans (hb3.mono q2.size)
  have z3 := hb3.size
  have b0_3 : w3.cell? ⟨w.heap.size, 0, none⟩ = some (.slice a0 g0.length c0) := (hb3.cell (p := ⟨w.heap.size, 0, none⟩) (cell_lt b0_2)).trans b0_2
  have b1_3 : w3.cell? ⟨w.heap.size + 1, 0, none⟩ = some (.slice a1 rr1.length c1) := (hb3.cell (p := ⟨w.heap.size + 1, 0, none⟩) (cell_lt b1_2)).trans b1_2
  try dsimp only
  refine hK.out _ _ ?h4 (fun hHeld => ?_)
  case h4 => first | exact ⟨‹_›, ‹_›⟩ | assumption | (simp [*, go_sem])
  clear hK K
  try simp only [Act.put, List.setIfInBounds_toArray, List.set_cons_zero, List.set_cons_succ]
  refine wpAnyH_ready (rs := [3]) (by kernel_rfl) (by simp) ?_
  refine AllReadyH.cons (by simp only [List.getElem?_toArray, List.getElem?_cons_succ, List.getElem?_cons_zero]; exact rfl) (fun K hK => ?_) AllReadyH.nil
  go_simp
  refine (toAround_any _ _ _ (hv1.below q3 (Nat.le_refl _)) hsm1).mono ?_
  rintro e w4 ⟨x4, rfl, y4_4, hb4⟩
  have q4 := q3.trans (hb4.mono q3.size)
  have z4 := hb4.size
  have b0_4 : w4.cell? ⟨w.heap.size, 0, none⟩ = some (.slice a0 g0.length c0) := (hb4.cell (p := ⟨w.heap.size, 0, none⟩) (cell_lt b0_3)).trans b0_3
  have b1_4 : w4.cell? ⟨w.heap.size + 1, 0, none⟩ = some (.slice a1 rr1.length c1) := (hb4.cell (p := ⟨w.heap.size + 1, 0, none⟩) (cell_lt b1_3)).trans b1_3
  have y3_4 := y3_3.below hb4 (Nat.le_refl _)
  try dsimp only
  refine hK.out _ _ ?h6 (fun hHeld => ?_)
  case h6 => first | exact ⟨‹_›, ‹_›⟩ | assumption | (simp [*, go_sem])
  clear hK K
  try simp only [Act.put, List.setIfInBounds_toArray, List.set_cons_zero, List.set_cons_succ]
  refine wpAnyH_ready (rs := [4]) (by kernel_rfl) (by simp) ?_
  refine AllReadyH.cons (by simp only [List.getElem?_toArray, List.getElem?_cons_succ, List.getElem?_cons_zero]; exact rfl) (fun K hK => ?_) AllReadyH.nil
  go_simp
  refine (hS y3_4 y4_4).mono ?_
  rintro e w5 ⟨w0u0, rfl, w0_0_5, hb5⟩
  have q5 := q4.trans (hb5.mono q4.size)
  have z5 := hb5.size
  have b0_5 : w5.cell? ⟨w.heap.size, 0, none⟩ = some (.slice a0 g0.length c0) := (hb5.cell (p := ⟨w.heap.size, 0, none⟩) (cell_lt b0_4)).trans b0_4
  have b1_5 : w5.cell? ⟨w.heap.size + 1, 0, none⟩ = some (.slice a1 rr1.length c1) := (hb5.cell (p := ⟨w.heap.size + 1, 0, none⟩) (cell_lt b1_4)).trans b1_4
  have y3_5 := y3_4.below hb5 (Nat.le_refl _)
  have y4_5 := y4_4.below hb5 (Nat.le_refl _)
  obtain ⟨w0a0, w0c0, rfl⟩ := w0_0_5.slice
  try dsimp only
  refine hK.out _ _ ?h8 (fun hHeld => ?_)
  case h8 => first | exact ⟨‹_›, ‹_›⟩ | assumption | (simp [*, go_sem])
  clear hK K
  try simp only [Act.put, List.setIfInBounds_toArray, List.set_cons_zero, List.set_cons_succ]
  refine wpAnyH_take (i := 5) (v := ?v9) (by simp only [List.getElem?_toArray, List.getElem?_cons_succ, List.getElem?_cons_zero]; exact rfl) (by kernel_rfl) (by kernel_rfl) (by kernel_rfl) (by intro _ _ _ h; exact h) (Or.inl ⟨by rfl, ?y9⟩) hHeld ?_
  case y9 => (intro w hSw; (try dsimp only at hSw); go_simp; try (with_reducible rfl))
  try simp only [Act.put, List.setIfInBounds_toArray, List.set_cons_zero, List.set_cons_succ]
  refine wpAnyH_done (by kernel_rfl) ?_ _
  go_wp2_with fail
  refine (toGraphR_any (hv0.below q5 (Nat.le_refl _)) hsm0).mono ?_
  rintro e w6 ⟨x6, rfl, y6_6, hb6⟩
  have q6 := q5.trans (hb6.mono q5.size)
  have z6 := hb6.size
  have b0_6 : w6.cell? ⟨w.heap.size, 0, none⟩ = some (.slice a0 g0.length c0) := (hb6.cell (p := ⟨w.heap.size, 0, none⟩) (cell_lt b0_5)).trans b0_5
  have b1_6 : w6.cell? ⟨w.heap.size + 1, 0, none⟩ = some (.slice a1 rr1.length c1) := (hb6.cell (p := ⟨w.heap.size + 1, 0, none⟩) (cell_lt b1_5)).trans b1_5
  have w0_0_6 := w0_0_5.below hb6 (Nat.le_refl _)
  obtain ⟨xa6, xc6, rfl⟩ := y6_6.isSlice
  have hb7 : Below w6.heap.size w6 (w6.alloc (.cells #[.slice xa6 g0.length xc6] 30)) := (Below.refl _ _).alloc (Nat.le_refl _) _
  obtain ⟨w7, ew7⟩ : ∃ x, x = (w6.alloc (.cells #[.slice xa6 g0.length xc6] 30)) := ⟨_, rfl⟩
  rw [← ew7] at hb7
  have l7_7 : w7.cell? ⟨w6.heap.size, 0, none⟩ = some (.slice xa6 g0.length xc6) := by rw [ew7]; simp [go_sem]
  have zz7 : w7.heap.size = w6.heap.size + 1 := by rw [ew7]; simp
  have q7 := q6.trans (hb7.mono q6.size)
  have z7 := hb7.size
  have b0_7 : w7.cell? ⟨w.heap.size, 0, none⟩ = some (.slice a0 g0.length c0) := (hb7.cell (p := ⟨w.heap.size, 0, none⟩) (cell_lt b0_6)).trans b0_6
  have b1_7 : w7.cell? ⟨w.heap.size + 1, 0, none⟩ = some (.slice a1 rr1.length c1) := (hb7.cell (p := ⟨w.heap.size + 1, 0, none⟩) (cell_lt b1_6)).trans b1_6
  have w0_0_7 := w0_0_6.below hb7 (Nat.le_refl _)
  have y6_7 := y6_6.below hb7 (Nat.le_refl _)
  have b0_7e : (w6.alloc (.cells #[.slice xa6 g0.length xc6] 30)).cell? ⟨w.heap.size, 0, none⟩ = some (.slice a0 g0.length c0) := by rw [← ew7]; exact b0_7
  have b1_7e : (w6.alloc (.cells #[.slice xa6 g0.length xc6] 30)).cell? ⟨w.heap.size + 1, 0, none⟩ = some (.slice a1 rr1.length c1) := by rw [← ew7]; exact b1_7
  have l7_7e : (w6.alloc (.cells #[.slice xa6 g0.length xc6] 30)).cell? ⟨w6.heap.size, 0, none⟩ = some (.slice xa6 g0.length xc6) := by rw [← ew7]; exact l7_7
  go_wp2_with fail
  rw [← ew7]
  refine (toAroundR_any (hv1.below q7 (Nat.le_refl _)) hsm1).mono ?_
  rintro e w8 ⟨x8, rfl, y8_8, hb8⟩
  have q8 := q7.trans (hb8.mono q7.size)
  have z8 := hb8.size
  have b0_8 : w8.cell? ⟨w.heap.size, 0, none⟩ = some (.slice a0 g0.length c0) := (hb8.cell (p := ⟨w.heap.size, 0, none⟩) (cell_lt b0_7)).trans b0_7
  have b1_8 : w8.cell? ⟨w.heap.size + 1, 0, none⟩ = some (.slice a1 rr1.length c1) := (hb8.cell (p := ⟨w.heap.size + 1, 0, none⟩) (cell_lt b1_7)).trans b1_7
  have l7_8 : w8.cell? ⟨w6.heap.size, 0, none⟩ = some (.slice xa6 g0.length xc6) := (hb8.cell (p := ⟨w6.heap.size, 0, none⟩) (cell_lt l7_7)).trans l7_7
  have w0_0_8 := w0_0_7.below hb8 (Nat.le_refl _)
  have y6_8 := y6_7.below hb8 (Nat.le_refl _)
  obtain ⟨xa8, xc8, rfl⟩ := y8_8.isSlice
  have hb9 : Below w8.heap.size w8 (w8.alloc (.cells #[.slice xa8 rr1.length xc8] 32)) := (Below.refl _ _).alloc (Nat.le_refl _) _
  obtain ⟨w9, ew9⟩ : ∃ x, x = (w8.alloc (.cells #[.slice xa8 rr1.length xc8] 32)) := ⟨_, rfl⟩
  rw [← ew9] at hb9
  have l9_9 : w9.cell? ⟨w8.heap.size, 0, none⟩ = some (.slice xa8 rr1.length xc8) := by rw [ew9]; simp [go_sem]
  have zz9 : w9.heap.size = w8.heap.size + 1 := by rw [ew9]; simp
  have q9 := q8.trans (hb9.mono q8.size)
  have z9 := hb9.size
  have b0_9 : w9.cell? ⟨w.heap.size, 0, none⟩ = some (.slice a0 g0.length c0) := (hb9.cell (p := ⟨w.heap.size, 0, none⟩) (cell_lt b0_8)).trans b0_8
  have b1_9 : w9.cell? ⟨w.heap.size + 1, 0, none⟩ = some (.slice a1 rr1.length c1) := (hb9.cell (p := ⟨w.heap.size + 1, 0, none⟩) (cell_lt b1_8)).trans b1_8
  have l7_9 : w9.cell? ⟨w6.heap.size, 0, none⟩ = some (.slice xa6 g0.length xc6) := (hb9.cell (p := ⟨w6.heap.size, 0, none⟩) (cell_lt l7_8)).trans l7_8
  have w0_0_9 := w0_0_8.below hb9 (Nat.le_refl _)
  have y6_9 := y6_8.below hb9 (Nat.le_refl _)
  have y8_9 := y8_8.below hb9 (Nat.le_refl _)
  have b0_9e : (w8.alloc (.cells #[.slice xa8 rr1.length xc8] 32)).cell? ⟨w.heap.size, 0, none⟩ = some (.slice a0 g0.length c0) := by rw [← ew9]; exact b0_9
  have b1_9e : (w8.alloc (.cells #[.slice xa8 rr1.length xc8] 32)).cell? ⟨w.heap.size + 1, 0, none⟩ = some (.slice a1 rr1.length c1) := by rw [← ew9]; exact b1_9
  have l7_9e : (w8.alloc (.cells #[.slice xa8 rr1.length xc8] 32)).cell? ⟨w6.heap.size, 0, none⟩ = some (.slice xa6 g0.length xc6) := by rw [← ew9]; exact l7_9
  have l9_9e : (w8.alloc (.cells #[.slice xa8 rr1.length xc8] 32)).cell? ⟨w8.heap.size, 0, none⟩ = some (.slice xa8 rr1.length xc8) := by rw [← ew9]; exact l9_9
  go_wp2_with fail
  rw [← ew9]
  refine (hI (y6_9.rows hsm0) (y8_9.rows hsm1)).mono ?_
  rintro e w10 ⟨g0u0, rfl, g0_0_10, hb10⟩
  have q10 := q9.trans (hb10.mono q9.size)
  have z10 := hb10.size
  have b0_10 : w10.cell? ⟨w.heap.size, 0, none⟩ = some (.slice a0 g0.length c0) := (hb10.cell (p := ⟨w.heap.size, 0, none⟩) (cell_lt b0_9)).trans b0_9
  have b1_10 : w10.cell? ⟨w.heap.size + 1, 0, none⟩ = some (.slice a1 rr1.length c1) := (hb10.cell (p := ⟨w.heap.size + 1, 0, none⟩) (cell_lt b1_9)).trans b1_9
  have l7_10 : w10.cell? ⟨w6.heap.size, 0, none⟩ = some (.slice xa6 g0.length xc6) := (hb10.cell (p := ⟨w6.heap.size, 0, none⟩) (cell_lt l7_9)).trans l7_9
  have l9_10 : w10.cell? ⟨w8.heap.size, 0, none⟩ = some (.slice xa8 rr1.length xc8) := (hb10.cell (p := ⟨w8.heap.size, 0, none⟩) (cell_lt l9_9)).trans l9_9
  have w0_0_10 := w0_0_9.below hb10 (Nat.le_refl _)
  have y6_10 := y6_9.below hb10 (Nat.le_refl _)
  have y8_10 := y8_9.below hb10 (Nat.le_refl _)
  obtain ⟨g0a0, g0c0, rfl⟩ := g0_0_10.isSlice
  go_wp2_with fail
  refine (eqR_same (g0_0_10.rows hN0) w0_0_10).mono ?_
  rintro e w11 ⟨rfl, hb11⟩
  have q11 := q10.trans (hb11.mono q10.size)
  have z11 := hb11.size
  have b0_11 : w11.cell? ⟨w.heap.size, 0, none⟩ = some (.slice a0 g0.length c0) := (hb11.cell (p := ⟨w.heap.size, 0, none⟩) (cell_lt b0_10)).trans b0_10
  have b1_11 : w11.cell? ⟨w.heap.size + 1, 0, none⟩ = some (.slice a1 rr1.length c1) := (hb11.cell (p := ⟨w.heap.size + 1, 0, none⟩) (cell_lt b1_10)).trans b1_10
  have l7_11 : w11.cell? ⟨w6.heap.size, 0, none⟩ = some (.slice xa6 g0.length xc6) := (hb11.cell (p := ⟨w6.heap.size, 0, none⟩) (cell_lt l7_10)).trans l7_10
  have l9_11 : w11.cell? ⟨w8.heap.size, 0, none⟩ = some (.slice xa8 rr1.length xc8) := (hb11.cell (p := ⟨w8.heap.size, 0, none⟩) (cell_lt l9_10)).trans l9_10
  have w0_0_11 := w0_0_10.below hb11 (Nat.le_refl _)
  have y6_11 := y6_10.below hb11 (Nat.le_refl _)
  have y8_11 := y8_10.below hb11 (Nat.le_refl _)
  have g0_0_11 := g0_0_10.below hb11 (Nat.le_refl _)
  go_wp2
  refine wp_region_held_drew (S := (fun w' => w'.cell? ⟨w.heap.size, 0, none⟩ = some (.slice a0 g0.length c0) ∧ w'.cell? ⟨w.heap.size + 1, 0, none⟩ = some (.slice a1 rr1.length c1) ∧ w'.cell? ⟨w6.heap.size, 0, none⟩ = some (.slice xa6 g0.length xc6) ∧ w'.cell? ⟨w8.heap.size, 0, none⟩ = some (.slice xa8 rr1.length xc8))) (by kernel_rfl) ?_ (fun hHeld => ?_)
  · first | exact ⟨‹_›, ‹_›, ‹_›, ‹_›⟩ | assumption | (simp [*, go_sem])
  refine wpAnyH_take (i := 0) (v := ?v10) (by simp only [List.getElem?_toArray, List.getElem?_cons_zero]; exact rfl) (by kernel_rfl) (by kernel_rfl) (by kernel_rfl) (by intro _ _ _ h; exact h) (Or.inl ⟨by rfl, ?y10⟩) hHeld ?_
  case y10 => (intro w hSw; (try dsimp only at hSw); go_simp; try (with_reducible rfl))
  try simp only [Act.put, List.setIfInBounds_toArray, List.set_cons_zero, List.set_cons_succ]
  refine wpAnyH_take (i := 1) (v := ?v11) (by simp only [List.getElem?_toArray, List.getElem?_cons_succ, List.getElem?_cons_zero]; exact rfl) (by kernel_rfl) (by kernel_rfl) (by kernel_rfl) (by intro _ _ _ h; exact h) (Or.inl ⟨by rfl, ?y11⟩) hHeld ?_
  case y11 => (intro w hSw; (try dsimp only at hSw); go_simp; try (with_reducible rfl))
  try simp only [Act.put, List.setIfInBounds_toArray, List.set_cons_zero, List.set_cons_succ]
  refine wpAnyH_ready (rs := [2]) (by kernel_rfl) (by simp) ?_
  refine AllReadyH.cons (by simp only [List.getElem?_toArray, List.getElem?_cons_succ, List.getElem?_cons_zero]; exact rfl) (fun K hK => ?_) AllReadyH.nil
  go_simp
  have q11d := q11.drew
  have w0_0_11k := w0_0_11
  have w0_0_11 := w0_0_11.below ((Below.refl w11.heap.size w11).drew) (Nat.le_refl _)
  have y6_11k := y6_11
  have y6_11 := y6_11.below ((Below.refl w11.heap.size w11).drew) (Nat.le_refl _)
  have y8_11k := y8_11
  have y8_11 := y8_11.below ((Below.refl w11.heap.size w11).drew) (Nat.le_refl _)
  have g0_0_11k := g0_0_11
  have g0_0_11 := g0_0_11.below ((Below.refl w11.heap.size w11).drew) (Nat.le_refl _)
  refine (toGraph_any _ _ _ (hv0.below q11d (Nat.le_refl _)) hsm0).mono ?_
  rintro e w12 ⟨x12, rfl, y12_12, hb12⟩
  replace hb12 : Below w11.heap.size w11 w12 := ⟨hb12.os, hb12.tape, hb12.output, hb12.size, hb12.block⟩
  replace w0_0_11 := w0_0_11k
  replace y6_11 := y6_11k
  replace y8_11 := y8_11k
  replace g0_0_11 := g0_0_11k
  have q12 := q11.trans (hb12.mono q11.size)
  have z12 := hb12.size
  have b0_12 : w12.cell? ⟨w.heap.size, 0, none⟩ = some (.slice a0 g0.length c0) := (hb12.cell (p := ⟨w.heap.size, 0, none⟩) (cell_lt b0_11)).trans b0_11
  have b1_12 : w12.cell? ⟨w.heap.size + 1, 0, none⟩ = some (.slice a1 rr1.length c1) := (hb12.cell (p := ⟨w.heap.size + 1, 0, none⟩) (cell_lt b1_11)).trans b1_11
  have l7_12 : w12.cell? ⟨w6.heap.size, 0, none⟩ = some (.slice xa6 g0.length xc6) := (hb12.cell (p := ⟨w6.heap.size, 0, none⟩) (cell_lt l7_11)).trans l7_11
  have l9_12 : w12.cell? ⟨w8.heap.size, 0, none⟩ = some (.slice xa8 rr1.length xc8) := (hb12.cell (p := ⟨w8.heap.size, 0, none⟩) (cell_lt l9_11)).trans l9_11
  have w0_0_12 := w0_0_11.below hb12 (Nat.le_refl _)
  have y6_12 := y6_11.below hb12 (Nat.le_refl _)
  have y8_12 := y8_11.below hb12 (Nat.le_refl _)
  have g0_0_12 := g0_0_11.below hb12 (Nat.le_refl _)
  try dsimp only
  refine hK.out _ _ ?h13 (fun hHeld => ?_)
  case h13 => first | exact ⟨‹_›, ‹_›, ‹_›, ‹_›⟩ | assumption | (simp [*, go_sem])
  clear hK K
  try simp only [Act.put, List.setIfInBounds_toArray, List.set_cons_zero, List.set_cons_succ]
  refine wpAnyH_ready (rs := [3]) (by kernel_rfl) (by simp) ?_
  refine AllReadyH.cons (by simp only [List.getElem?_toArray, List.getElem?_cons_succ, List.getElem?_cons_zero]; exact rfl) (fun K hK => ?_) AllReadyH.nil
  go_simp
  refine (eqG_same (y6_12.rows hsm0) y12_12).mono ?_
  rintro e w13 ⟨rfl, hb13⟩
  have q13 := q12.trans (hb13.mono q12.size)
  have z13 := hb13.size
  have b0_13 : w13.cell? ⟨w.heap.size, 0, none⟩ = some (.slice a0 g0.length c0) := (hb13.cell (p := ⟨w.heap.size, 0, none⟩) (cell_lt b0_12)).trans b0_12
  have b1_13 : w13.cell? ⟨w.heap.size + 1, 0, none⟩ = some (.slice a1 rr1.length c1) := (hb13.cell (p := ⟨w.heap.size + 1, 0, none⟩) (cell_lt b1_12)).trans b1_12
  have l7_13 : w13.cell? ⟨w6.heap.size, 0, none⟩ = some (.slice xa6 g0.length xc6) := (hb13.cell (p := ⟨w6.heap.size, 0, none⟩) (cell_lt l7_12)).trans l7_12
  have l9_13 : w13.cell? ⟨w8.heap.size, 0, none⟩ = some (.slice xa8 rr1.length xc8) := (hb13.cell (p := ⟨w8.heap.size, 0, none⟩) (cell_lt l9_12)).trans l9_12
  have w0_0_13 := w0_0_12.below hb13 (Nat.le_refl _)
  have y6_13 := y6_12.below hb13 (Nat.le_refl _)
  have y8_13 := y8_12.below hb13 (Nat.le_refl _)
  have g0_0_13 := g0_0_12.below hb13 (Nat.le_refl _)
  have y12_13 := y12_12.below hb13 (Nat.le_refl _)
  try dsimp only
  refine hK.out _ _ ?h15 (fun hHeld => ?_)
  case h15 => first | exact ⟨‹_›, ‹_›, ‹_›, ‹_›⟩ | assumption | (simp [*, go_sem])
  clear hK K
  try simp only [Act.put, List.setIfInBounds_toArray, List.set_cons_zero, List.set_cons_succ]
  refine wpAnyH_take (i := 4) (v := ?v16) (by simp only [List.getElem?_toArray, List.getElem?_cons_succ, List.getElem?_cons_zero]; exact rfl) (by kernel_rfl) (by kernel_rfl) (by kernel_rfl) (by intro _ _ _ h; exact h) (Or.inl ⟨by rfl, ?y16⟩) hHeld ?_
  case y16 => (intro w hSw; (try dsimp only at hSw); go_simp; try (with_reducible rfl))
  try simp only [Act.put, List.setIfInBounds_toArray, List.set_cons_zero, List.set_cons_succ]
  refine wpAnyH_done (by kernel_rfl) ?_ _
  go_wp2
  refine wp_region_held_drew (S := (fun w' => w'.cell? ⟨w.heap.size, 0, none⟩ = some (.slice a0 g0.length c0) ∧ w'.cell? ⟨w.heap.size + 1, 0, none⟩ = some (.slice a1 rr1.length c1) ∧ w'.cell? ⟨w6.heap.size, 0, none⟩ = some (.slice xa6 g0.length xc6) ∧ w'.cell? ⟨w8.heap.size, 0, none⟩ = some (.slice xa8 rr1.length xc8))) (by kernel_rfl) ?_ (fun hHeld => ?_)
  · first | exact ⟨‹_›, ‹_›, ‹_›, ‹_›⟩ | assumption | (simp [*, go_sem])
  refine wpAnyH_take (i := 0) (v := ?v17) (by simp only [List.getElem?_toArray, List.getElem?_cons_zero]; exact rfl) (by kernel_rfl) (by kernel_rfl) (by kernel_rfl) (by intro _ _ _ h; exact h) (Or.inl ⟨by rfl, ?y17⟩) hHeld ?_
  case y17 => (intro w hSw; (try dsimp only at hSw); go_simp; try (with_reducible rfl))
  try simp only [Act.put, List.setIfInBounds_toArray, List.set_cons_zero, List.set_cons_succ]
  refine wpAnyH_take (i := 1) (v := ?v18) (by simp only [List.getElem?_toArray, List.getElem?_cons_succ, List.getElem?_cons_zero]; exact rfl) (by kernel_rfl) (by kernel_rfl) (by kernel_rfl) (by intro _ _ _ h; exact h) (Or.inl ⟨by rfl, ?y18⟩) hHeld ?_
  case y18 => (intro w hSw; (try dsimp only at hSw); go_simp; try (with_reducible rfl))
  try simp only [Act.put, List.setIfInBounds_toArray, List.set_cons_zero, List.set_cons_succ]
  refine wpAnyH_ready (rs := [2]) (by kernel_rfl) (by simp) ?_
  refine AllReadyH.cons (by simp only [List.getElem?_toArray, List.getElem?_cons_succ, List.getElem?_cons_zero]; exact rfl) (fun K hK => ?_) AllReadyH.nil
  go_simp
  have q13d := q13.drew
  have w0_0_13k := w0_0_13
  have w0_0_13 := w0_0_13.below ((Below.refl w13.heap.size w13).drew) (Nat.le_refl _)
  have y6_13k := y6_13
  have y6_13 := y6_13.below ((Below.refl w13.heap.size w13).drew) (Nat.le_refl _)
  have y8_13k := y8_13
  have y8_13 := y8_13.below ((Below.refl w13.heap.size w13).drew) (Nat.le_refl _)
  have g0_0_13k := g0_0_13
  have g0_0_13 := g0_0_13.below ((Below.refl w13.heap.size w13).drew) (Nat.le_refl _)
  refine (toAround_any _ _ _ (hv1.below q13d (Nat.le_refl _)) hsm1).mono ?_
  rintro e w14 ⟨x14, rfl, y14_14, hb14⟩
  replace hb14 : Below w13.heap.size w13 w14 := ⟨hb14.os, hb14.tape, hb14.output, hb14.size, hb14.block⟩
  replace w0_0_13 := w0_0_13k
  replace y6_13 := y6_13k
  replace y8_13 := y8_13k
  replace g0_0_13 := g0_0_13k
  have q14 := q13.trans (hb14.mono q13.size)
  have z14 := hb14.size
  have b0_14 : w14.cell? ⟨w.heap.size, 0, none⟩ = some (.slice a0 g0.length c0) := (hb14.cell (p := ⟨w.heap.size, 0, none⟩) (cell_lt b0_13)).trans b0_13
  have b1_14 : w14.cell? ⟨w.heap.size + 1, 0, none⟩ = some (.slice a1 rr1.length c1) := (hb14.cell (p := ⟨w.heap.size + 1, 0, none⟩) (cell_lt b1_13)).trans b1_13
  have l7_14 : w14.cell? ⟨w6.heap.size, 0, none⟩ = some (.slice xa6 g0.length xc6) := (hb14.cell (p := ⟨w6.heap.size, 0, none⟩) (cell_lt l7_13)).trans l7_13
  have l9_14 : w14.cell? ⟨w8.heap.size, 0, none⟩ = some (.slice xa8 rr1.length xc8) := (hb14.cell (p := ⟨w8.heap.size, 0, none⟩) (cell_lt l9_13)).trans l9_13
  have w0_0_14 := w0_0_13.below hb14 (Nat.le_refl _)
  have y6_14 := y6_13.below hb14 (Nat.le_refl _)
  have y8_14 := y8_13.below hb14 (Nat.le_refl _)
  have g0_0_14 := g0_0_13.below hb14 (Nat.le_refl _)
  try dsimp only
  refine hK.out _ _ ?h20 (fun hHeld => ?_)
  case h20 => first | exact ⟨‹_›, ‹_›, ‹_›, ‹_›⟩ | assumption | (simp [*, go_sem])
  clear hK K
  try simp only [Act.put, List.setIfInBounds_toArray, List.set_cons_zero, List.set_cons_succ]
  refine wpAnyH_ready (rs := [3]) (by kernel_rfl) (by simp) ?_
  refine AllReadyH.cons (by simp only [List.getElem?_toArray, List.getElem?_cons_succ, List.getElem?_cons_zero]; exact rfl) (fun K hK => ?_) AllReadyH.nil
  go_simp
  refine (eqAround_same (y8_14.rows hsm1) y14_14).mono ?_
  rintro e w15 ⟨rfl, hb15⟩
  have q15 := q14.trans (hb15.mono q14.size)
  have z15 := hb15.size
  have b0_15 : w15.cell? ⟨w.heap.size, 0, none⟩ = some (.slice a0 g0.length c0) := (hb15.cell (p := ⟨w.heap.size, 0, none⟩) (cell_lt b0_14)).trans b0_14
  have b1_15 : w15.cell? ⟨w.heap.size + 1, 0, none⟩ = some (.slice a1 rr1.length c1) := (hb15.cell (p := ⟨w.heap.size + 1, 0, none⟩) (cell_lt b1_14)).trans b1_14
  have l7_15 : w15.cell? ⟨w6.heap.size, 0, none⟩ = some (.slice xa6 g0.length xc6) := (hb15.cell (p := ⟨w6.heap.size, 0, none⟩) (cell_lt l7_14)).trans l7_14
  have l9_15 : w15.cell? ⟨w8.heap.size, 0, none⟩ = some (.slice xa8 rr1.length xc8) := (hb15.cell (p := ⟨w8.heap.size, 0, none⟩) (cell_lt l9_14)).trans l9_14
  have w0_0_15 := w0_0_14.below hb15 (Nat.le_refl _)
  have y6_15 := y6_14.below hb15 (Nat.le_refl _)
  have y8_15 := y8_14.below hb15 (Nat.le_refl _)
  have g0_0_15 := g0_0_14.below hb15 (Nat.le_refl _)
  have y14_15 := y14_14.below hb15 (Nat.le_refl _)
  try dsimp only
  refine hK.out _ _ ?h22 (fun hHeld => ?_)
  case h22 => first | exact ⟨‹_›, ‹_›, ‹_›, ‹_›⟩ | assumption | (simp [*, go_sem])
  clear hK K
  try simp only [Act.put, List.setIfInBounds_toArray, List.set_cons_zero, List.set_cons_succ]
  refine wpAnyH_take (i := 4) (v := ?v23) (by simp only [List.getElem?_toArray, List.getElem?_cons_succ, List.getElem?_cons_zero]; exact rfl) (by kernel_rfl) (by kernel_rfl) (by kernel_rfl) (by intro _ _ _ h; exact h) (Or.inl ⟨by rfl, ?y23⟩) hHeld ?_
  case y23 => (intro w hSw; (try dsimp only at hSw); go_simp; try (with_reducible rfl))
  try simp only [Act.put, List.setIfInBounds_toArray, List.set_cons_zero, List.set_cons_succ]
  refine wpAnyH_done (by kernel_rfl) ?_ _
  go_wp2_with fail
  refine (markG_any y6_15 hsm0 (by omega) (by omega) (by omega)).mono ?_
  rintro e w16 ⟨k16, rfl, hk16, hl16, ht16⟩
  have q16 := ht16.below q15 (by have := q15.size; omega) q15.size
  have z16 := ht16.size
  have b0_16 : w16.cell? ⟨w.heap.size, 0, none⟩ = some (.slice a0 g0.length c0) := (ht16.cell (p := ⟨w.heap.size, 0, none⟩) (cell_lt b0_15) (by have : w.heap.size < w15.heap.size := cell_lt b0_15; show w.heap.size < _ ∨ _ ≤ w.heap.size; omega)).trans b0_15
  have b1_16 : w16.cell? ⟨w.heap.size + 1, 0, none⟩ = some (.slice a1 rr1.length c1) := (ht16.cell (p := ⟨w.heap.size + 1, 0, none⟩) (cell_lt b1_15) (by have : w.heap.size + 1 < w15.heap.size := cell_lt b1_15; show w.heap.size + 1 < _ ∨ _ ≤ w.heap.size + 1; omega)).trans b1_15
  have l7_16 : w16.cell? ⟨w6.heap.size, 0, none⟩ = some (.slice xa6 g0.length xc6) := (ht16.cell (p := ⟨w6.heap.size, 0, none⟩) (cell_lt l7_15) (by have : w6.heap.size < w15.heap.size := cell_lt l7_15; show w6.heap.size < _ ∨ _ ≤ w6.heap.size; omega)).trans l7_15
  have l9_16 : w16.cell? ⟨w8.heap.size, 0, none⟩ = some (.slice xa8 rr1.length xc8) := (ht16.cell (p := ⟨w8.heap.size, 0, none⟩) (cell_lt l9_15) (by have : w8.heap.size < w15.heap.size := cell_lt l9_15; show w8.heap.size < _ ∨ _ ≤ w8.heap.size; omega)).trans l9_15
  have w0_0_16 := w0_0_15.betweenR ht16 (fun b (hb : b < w5.heap.size) => ⟨by omega, by omega⟩)
  have y8_16 := y8_15.between ht16 (by omega)
  have g0_0_16 := g0_0_15.between ht16 (by omega)
  have hkn16 : ¬ k16 < 0 := by omega
  go_wp2_with fail
  refine (markAround_any y8_16 hsm1 (by omega) (by omega) (by omega)).mono ?_
  rintro e w17 ⟨k17, rfl, hk17, hl17, ht17⟩
  have q17 := ht17.below q16 (by have := q16.size; omega) q16.size
  have z17 := ht17.size
  have b0_17 : w17.cell? ⟨w.heap.size, 0, none⟩ = some (.slice a0 g0.length c0) := (ht17.cell (p := ⟨w.heap.size, 0, none⟩) (cell_lt b0_16) (by have : w.heap.size < w16.heap.size := cell_lt b0_16; show w.heap.size < _ ∨ _ ≤ w.heap.size; omega)).trans b0_16
  have b1_17 : w17.cell? ⟨w.heap.size + 1, 0, none⟩ = some (.slice a1 rr1.length c1) := (ht17.cell (p := ⟨w.heap.size + 1, 0, none⟩) (cell_lt b1_16) (by have : w.heap.size + 1 < w16.heap.size := cell_lt b1_16; show w.heap.size + 1 < _ ∨ _ ≤ w.heap.size + 1; omega)).trans b1_16
  have l7_17 : w17.cell? ⟨w6.heap.size, 0, none⟩ = some (.slice xa6 g0.length xc6) := (ht17.cell (p := ⟨w6.heap.size, 0, none⟩) (cell_lt l7_16) (by have : w6.heap.size < w16.heap.size := cell_lt l7_16; show w6.heap.size < _ ∨ _ ≤ w6.heap.size; omega)).trans l7_16
  have l9_17 : w17.cell? ⟨w8.heap.size, 0, none⟩ = some (.slice xa8 rr1.length xc8) := (ht17.cell (p := ⟨w8.heap.size, 0, none⟩) (cell_lt l9_16) (by have : w8.heap.size < w16.heap.size := cell_lt l9_16; show w8.heap.size < _ ∨ _ ≤ w8.heap.size; omega)).trans l9_16
  have w0_0_17 := w0_0_16.betweenR ht17 (fun b (hb : b < w5.heap.size) => ⟨by omega, by omega⟩)
  have g0_0_17 := g0_0_16.between ht17 (by omega)
  have hkn17 : ¬ k17 < 0 := by omega
  go_wp2_with fail
  refine (eqR_same (g0_0_17.rows hN0) w0_0_17).mono ?_
  rintro e w18 ⟨rfl, hb18⟩
  have q18 := q17.trans (hb18.mono q17.size)
  have z18 := hb18.size
  have b0_18 : w18.cell? ⟨w.heap.size, 0, none⟩ = some (.slice a0 g0.length c0) := (hb18.cell (p := ⟨w.heap.size, 0, none⟩) (cell_lt b0_17)).trans b0_17
  have b1_18 : w18.cell? ⟨w.heap.size + 1, 0, none⟩ = some (.slice a1 rr1.length c1) := (hb18.cell (p := ⟨w.heap.size + 1, 0, none⟩) (cell_lt b1_17)).trans b1_17
  have l7_18 : w18.cell? ⟨w6.heap.size, 0, none⟩ = some (.slice xa6 g0.length xc6) := (hb18.cell (p := ⟨w6.heap.size, 0, none⟩) (cell_lt l7_17)).trans l7_17
  have l9_18 : w18.cell? ⟨w8.heap.size, 0, none⟩ = some (.slice xa8 rr1.length xc8) := (hb18.cell (p := ⟨w8.heap.size, 0, none⟩) (cell_lt l9_17)).trans l9_17
  have w0_0_18 := w0_0_17.below hb18 (Nat.le_refl _)
  have g0_0_18 := g0_0_17.below hb18 (Nat.le_refl _)
  go_wp2_with fail
  refine (markRR_any g0_0_18 hN0 (k := 1) (by omega) (by omega)).mono ?_
  rintro e w19 ⟨rfl, g0_0_19, ht19⟩
  have q19 := ht19.below q18 (by have := q18.size; omega) q18.size
  have z19 := ht19.size
  have b0_19 : w19.cell? ⟨w.heap.size, 0, none⟩ = some (.slice a0 g0.length c0) := (ht19.cell (p := ⟨w.heap.size, 0, none⟩) (cell_lt b0_18) (by have : w.heap.size < w18.heap.size := cell_lt b0_18; show w.heap.size < _ ∨ _ ≤ w.heap.size; omega)).trans b0_18
  have b1_19 : w19.cell? ⟨w.heap.size + 1, 0, none⟩ = some (.slice a1 rr1.length c1) := (ht19.cell (p := ⟨w.heap.size + 1, 0, none⟩) (cell_lt b1_18) (by have : w.heap.size + 1 < w18.heap.size := cell_lt b1_18; show w.heap.size + 1 < _ ∨ _ ≤ w.heap.size + 1; omega)).trans b1_18
  have l7_19 : w19.cell? ⟨w6.heap.size, 0, none⟩ = some (.slice xa6 g0.length xc6) := (ht19.cell (p := ⟨w6.heap.size, 0, none⟩) (cell_lt l7_18) (by have : w6.heap.size < w18.heap.size := cell_lt l7_18; show w6.heap.size < _ ∨ _ ≤ w6.heap.size; omega)).trans l7_18
  have l9_19 : w19.cell? ⟨w8.heap.size, 0, none⟩ = some (.slice xa8 rr1.length xc8) := (ht19.cell (p := ⟨w8.heap.size, 0, none⟩) (cell_lt l9_18) (by have : w8.heap.size < w18.heap.size := cell_lt l9_18; show w8.heap.size < _ ∨ _ ≤ w8.heap.size; omega)).trans l9_18
  have w0_0_19 := w0_0_18.betweenR ht19 (fun b (hb : b < w5.heap.size) => ⟨by omega, by omega⟩)
  have hmn19 : ¬ (1 + (sumL r0 : Int)) < 0 := by omega
  go_wp2_with fail
  refine (heldRR_any (g0_0_19.rows (marksR_small hN0)) hN0 (k := 1) (by omega) (by omega)).mono ?_
  rintro e w20 ⟨rfl, hb20⟩
  have q20 := q19.trans (hb20.mono q19.size)
  have z20 := hb20.size
  have b0_20 : w20.cell? ⟨w.heap.size, 0, none⟩ = some (.slice a0 g0.length c0) := (hb20.cell (p := ⟨w.heap.size, 0, none⟩) (cell_lt b0_19)).trans b0_19
  have b1_20 : w20.cell? ⟨w.heap.size + 1, 0, none⟩ = some (.slice a1 rr1.length c1) := (hb20.cell (p := ⟨w.heap.size + 1, 0, none⟩) (cell_lt b1_19)).trans b1_19
  have l7_20 : w20.cell? ⟨w6.heap.size, 0, none⟩ = some (.slice xa6 g0.length xc6) := (hb20.cell (p := ⟨w6.heap.size, 0, none⟩) (cell_lt l7_19)).trans l7_19
  have l9_20 : w20.cell? ⟨w8.heap.size, 0, none⟩ = some (.slice xa8 rr1.length xc8) := (hb20.cell (p := ⟨w8.heap.size, 0, none⟩) (cell_lt l9_19)).trans l9_19
  have w0_0_20 := w0_0_19.below hb20 (Nat.le_refl _)
  have g0_0_20 := g0_0_19.below hb20 (Nat.le_refl _)
  have hmn20 : ¬ (1 + (sumL r0 : Int)) < 0 := by omega
  go_wp2
  refine wp_region_held_drew (S := (fun w' => w'.cell? ⟨w.heap.size, 0, none⟩ = some (.slice a0 g0.length c0) ∧ w'.cell? ⟨w.heap.size + 1, 0, none⟩ = some (.slice a1 rr1.length c1) ∧ w'.cell? ⟨w6.heap.size, 0, none⟩ = some (.slice xa6 g0.length xc6) ∧ w'.cell? ⟨w8.heap.size, 0, none⟩ = some (.slice xa8 rr1.length xc8))) (by kernel_rfl) ?_ (fun hHeld => ?_)
  · first | exact ⟨‹_›, ‹_›, ‹_›, ‹_›⟩ | assumption | (simp [*, go_sem])
  refine wpAnyH_take (i := 0) (v := ?v24) (by simp only [List.getElem?_toArray, List.getElem?_cons_zero]; exact rfl) (by kernel_rfl) (by kernel_rfl) (by kernel_rfl) (by intro _ _ _ h; exact h) (Or.inl ⟨by rfl, ?y24⟩) hHeld ?_
  case y24 => (intro w hSw; (try dsimp only at hSw); go_simp; try (with_reducible rfl))
  try simp only [Act.put, List.setIfInBounds_toArray, List.set_cons_zero, List.set_cons_succ]
  refine wpAnyH_take (i := 2) (v := ?v25) (by simp only [List.getElem?_toArray, List.getElem?_cons_succ, List.getElem?_cons_zero]; exact rfl) (by kernel_rfl) (by kernel_rfl) (by kernel_rfl) (by intro _ _ _ h; exact h) (Or.inl ⟨by rfl, ?y25⟩) hHeld ?_
  case y25 => (intro w hSw; (try dsimp only at hSw); go_simp; try (with_reducible rfl))
  try simp only [Act.put, List.setIfInBounds_toArray, List.set_cons_zero, List.set_cons_succ]
  refine wpAnyH_ready (rs := [1]) (by kernel_rfl) (by simp) ?_
  refine AllReadyH.cons (by simp only [List.getElem?_toArray, List.getElem?_cons_succ, List.getElem?_cons_zero]; exact rfl) (fun K hK => ?_) AllReadyH.nil
  go_simp
  have q20d := q20.drew
  have w0_0_20k := w0_0_20
  have w0_0_20 := w0_0_20.below ((Below.refl w20.heap.size w20).drew) (Nat.le_refl _)
  have g0_0_20k := g0_0_20
  have g0_0_20 := g0_0_20.below ((Below.refl w20.heap.size w20).drew) (Nat.le_refl _)
  refine (toGraph_any _ _ _ (hv0.below q20d (Nat.le_refl _)) hsm0).mono ?_
  rintro e w21 ⟨x21, rfl, y21_21, hb21⟩
  replace hb21 : Below w20.heap.size w20 w21 := ⟨hb21.os, hb21.tape, hb21.output, hb21.size, hb21.block⟩
  replace w0_0_20 := w0_0_20k
  replace g0_0_20 := g0_0_20k
  have q21 := q20.trans (hb21.mono q20.size)
  have z21 := hb21.size
  have b0_21 : w21.cell? ⟨w.heap.size, 0, none⟩ = some (.slice a0 g0.length c0) := (hb21.cell (p := ⟨w.heap.size, 0, none⟩) (cell_lt b0_20)).trans b0_20
  have b1_21 : w21.cell? ⟨w.heap.size + 1, 0, none⟩ = some (.slice a1 rr1.length c1) := (hb21.cell (p := ⟨w.heap.size + 1, 0, none⟩) (cell_lt b1_20)).trans b1_20
  have l7_21 : w21.cell? ⟨w6.heap.size, 0, none⟩ = some (.slice xa6 g0.length xc6) := (hb21.cell (p := ⟨w6.heap.size, 0, none⟩) (cell_lt l7_20)).trans l7_20
  have l9_21 : w21.cell? ⟨w8.heap.size, 0, none⟩ = some (.slice xa8 rr1.length xc8) := (hb21.cell (p := ⟨w8.heap.size, 0, none⟩) (cell_lt l9_20)).trans l9_20
  have w0_0_21 := w0_0_20.below hb21 (Nat.le_refl _)
  have g0_0_21 := g0_0_20.below hb21 (Nat.le_refl _)
  try dsimp only
  refine hK.out _ _ ?h27 (fun hHeld => ?_)
  case h27 => first | exact ⟨‹_›, ‹_›, ‹_›, ‹_›⟩ | assumption | (simp [*, go_sem])
  clear hK K
  try simp only [Act.put, List.setIfInBounds_toArray, List.set_cons_zero, List.set_cons_succ]
  refine wpAnyH_ready (rs := [3]) (by kernel_rfl) (by simp) ?_
  refine AllReadyH.cons (by simp only [List.getElem?_toArray, List.getElem?_cons_succ, List.getElem?_cons_zero]; exact rfl) (fun K hK => ?_) AllReadyH.nil
  go_simp
  refine (toAround_any _ _ _ (hv1.below q21 (Nat.le_refl _)) hsm1).mono ?_
  rintro e w22 ⟨x22, rfl, y22_22, hb22⟩
  have q22 := q21.trans (hb22.mono q21.size)
  have z22 := hb22.size
  have b0_22 : w22.cell? ⟨w.heap.size, 0, none⟩ = some (.slice a0 g0.length c0) := (hb22.cell (p := ⟨w.heap.size, 0, none⟩) (cell_lt b0_21)).trans b0_21
  have b1_22 : w22.cell? ⟨w.heap.size + 1, 0, none⟩ = some (.slice a1 rr1.length c1) := (hb22.cell (p := ⟨w.heap.size + 1, 0, none⟩) (cell_lt b1_21)).trans b1_21
  have l7_22 : w22.cell? ⟨w6.heap.size, 0, none⟩ = some (.slice xa6 g0.length xc6) := (hb22.cell (p := ⟨w6.heap.size, 0, none⟩) (cell_lt l7_21)).trans l7_21
  have l9_22 : w22.cell? ⟨w8.heap.size, 0, none⟩ = some (.slice xa8 rr1.length xc8) := (hb22.cell (p := ⟨w8.heap.size, 0, none⟩) (cell_lt l9_21)).trans l9_21
  have w0_0_22 := w0_0_21.below hb22 (Nat.le_refl _)
  have g0_0_22 := g0_0_21.below hb22 (Nat.le_refl _)
  have y21_22 := y21_21.below hb22 (Nat.le_refl _)
  try dsimp only
  refine hK.out _ _ ?h29 (fun hHeld => ?_)
  case h29 => first | exact ⟨‹_›, ‹_›, ‹_›, ‹_›⟩ | assumption | (simp [*, go_sem])
  clear hK K
  try simp only [Act.put, List.setIfInBounds_toArray, List.set_cons_zero, List.set_cons_succ]
  refine wpAnyH_ready (rs := [4]) (by kernel_rfl) (by simp) ?_
  refine AllReadyH.cons (by simp only [List.getElem?_toArray, List.getElem?_cons_succ, List.getElem?_cons_zero]; exact rfl) (fun K hK => ?_) AllReadyH.nil
  go_simp
  refine (hI y21_22 y22_22).mono ?_
  rintro e w23 ⟨h0u0, rfl, h0_0_23, hb23⟩
  have q23 := q22.trans (hb23.mono q22.size)
  have z23 := hb23.size
  have b0_23 : w23.cell? ⟨w.heap.size, 0, none⟩ = some (.slice a0 g0.length c0) := (hb23.cell (p := ⟨w.heap.size, 0, none⟩) (cell_lt b0_22)).trans b0_22
  have b1_23 : w23.cell? ⟨w.heap.size + 1, 0, none⟩ = some (.slice a1 rr1.length c1) := (hb23.cell (p := ⟨w.heap.size + 1, 0, none⟩) (cell_lt b1_22)).trans b1_22
  have l7_23 : w23.cell? ⟨w6.heap.size, 0, none⟩ = some (.slice xa6 g0.length xc6) := (hb23.cell (p := ⟨w6.heap.size, 0, none⟩) (cell_lt l7_22)).trans l7_22
  have l9_23 : w23.cell? ⟨w8.heap.size, 0, none⟩ = some (.slice xa8 rr1.length xc8) := (hb23.cell (p := ⟨w8.heap.size, 0, none⟩) (cell_lt l9_22)).trans l9_22
  have w0_0_23 := w0_0_22.below hb23 (Nat.le_refl _)
  have g0_0_23 := g0_0_22.below hb23 (Nat.le_refl _)
  have y21_23 := y21_22.below hb23 (Nat.le_refl _)
  have y22_23 := y22_22.below hb23 (Nat.le_refl _)
  obtain ⟨h0a0, h0c0, rfl⟩ := h0_0_23.isSlice
  try dsimp only
  refine hK.out _ _ ?h31 (fun hHeld => ?_)
  case h31 => first | exact ⟨‹_›, ‹_›, ‹_›, ‹_›⟩ | assumption | (simp [*, go_sem])
  clear hK K
  try simp only [Act.put, List.setIfInBounds_toArray, List.set_cons_zero, List.set_cons_succ]
  refine wpAnyH_take (i := 5) (v := ?v32) (by simp only [List.getElem?_toArray, List.getElem?_cons_succ, List.getElem?_cons_zero]; exact rfl) (by kernel_rfl) (by kernel_rfl) (by kernel_rfl) (by intro _ _ _ h; exact h) (Or.inl ⟨by rfl, ?y32⟩) hHeld ?_
  case y32 => (intro w hSw; (try dsimp only at hSw); go_simp; try (with_reducible rfl))
  try simp only [Act.put, List.setIfInBounds_toArray, List.set_cons_zero, List.set_cons_succ]
  refine wpAnyH_done (by kernel_rfl) ?_ _
  go_wp2_with fail
  refine (eqR_same (h0_0_23.rows hN0) w0_0_23).mono ?_
  rintro e w24 ⟨rfl, hb24⟩
  have q24 := q23.trans (hb24.mono q23.size)
  have z24 := hb24.size
  have b0_24 : w24.cell? ⟨w.heap.size, 0, none⟩ = some (.slice a0 g0.length c0) := (hb24.cell (p := ⟨w.heap.size, 0, none⟩) (cell_lt b0_23)).trans b0_23
  have b1_24 : w24.cell? ⟨w.heap.size + 1, 0, none⟩ = some (.slice a1 rr1.length c1) := (hb24.cell (p := ⟨w.heap.size + 1, 0, none⟩) (cell_lt b1_23)).trans b1_23
  have l7_24 : w24.cell? ⟨w6.heap.size, 0, none⟩ = some (.slice xa6 g0.length xc6) := (hb24.cell (p := ⟨w6.heap.size, 0, none⟩) (cell_lt l7_23)).trans l7_23
  have l9_24 : w24.cell? ⟨w8.heap.size, 0, none⟩ = some (.slice xa8 rr1.length xc8) := (hb24.cell (p := ⟨w8.heap.size, 0, none⟩) (cell_lt l9_23)).trans l9_23
  have w0_0_24 := w0_0_23.below hb24 (Nat.le_refl _)
  have g0_0_24 := g0_0_23.below hb24 (Nat.le_refl _)
  have h0_0_24 := h0_0_23.below hb24 (Nat.le_refl _)
  go_wp2_with fail
  refine (heldRR_any (g0_0_24.rows (marksR_small hN0)) hN0 (k := 1) (by omega) (by omega)).mono ?_
  rintro e w25 ⟨rfl, hb25⟩
  have q25 := q24.trans (hb25.mono q24.size)
  have z25 := hb25.size
  have b0_25 : w25.cell? ⟨w.heap.size, 0, none⟩ = some (.slice a0 g0.length c0) := (hb25.cell (p := ⟨w.heap.size, 0, none⟩) (cell_lt b0_24)).trans b0_24
  have b1_25 : w25.cell? ⟨w.heap.size + 1, 0, none⟩ = some (.slice a1 rr1.length c1) := (hb25.cell (p := ⟨w.heap.size + 1, 0, none⟩) (cell_lt b1_24)).trans b1_24
  have l7_25 : w25.cell? ⟨w6.heap.size, 0, none⟩ = some (.slice xa6 g0.length xc6) := (hb25.cell (p := ⟨w6.heap.size, 0, none⟩) (cell_lt l7_24)).trans l7_24
  have l9_25 : w25.cell? ⟨w8.heap.size, 0, none⟩ = some (.slice xa8 rr1.length xc8) := (hb25.cell (p := ⟨w8.heap.size, 0, none⟩) (cell_lt l9_24)).trans l9_24
  have w0_0_25 := w0_0_24.below hb25 (Nat.le_refl _)
  have g0_0_25 := g0_0_24.below hb25 (Nat.le_refl _)
  have h0_0_25 := h0_0_24.below hb25 (Nat.le_refl _)
  have hmn25 : ¬ (1 + (sumL r0 : Int)) < 0 := by omega
  go_wp2
  go_ret
  exact ⟨rfl, q25⟩
end Go.Proofs.Ytkgnobiihmljfaa
