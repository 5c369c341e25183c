/- The law of EmbeddingOf. -/
import Derived.Test.YtdbanndcdbikmaaGreatDoorEmbY
import Derived.Test.YtdbanndcdbikmaaGreatDoorEofI
import Derived.Test.YtdbanndcdbikmaaGreatDoorMarkA
namespace Go.Proofs.YtdbanndcdbikmaaGreatDoor
open Go.RowKit
set_option maxRecDepth 100000 in
set_option maxHeartbeats 4000000 in
theorem specEmbeddingOf_any {S : Nat → Prop} {v : Value} {g : List (List Int)} {w : World} (hv : SlR S w v g) :
    Calls Tryz.prog 17 #[.agg #[v]] w fun e w' => ∃ u, e = .returned (.tuple #[.agg #[u], .bool (decide (embF g ≠ []))]) ∧ SlR (fun b => w.heap.size ≤ b ∧ b < w'.heap.size) w' u ((embF g).map natsI) ∧ Below w.heap.size w w' := by
  have hq0 : Below w.heap.size w ((w.alloc (.cells #[v] 26)).alloc (.cells #[.slice none 0 0] 28)) := ((Below.refl _ _).alloc (Nat.le_refl _) _).alloc (by simp) _
  have hsm := l26SmallE_any (hv.below hq0 (Nat.le_refl _))
  have HAL := Lib.hid (fun (h : smallB g = true) (W : World) (hb : Below w.heap.size w W) => l22All_any (small_is h).1 (small_is h).2 (hv.below hb (Nat.le_refl _)))
  obtain ⟨va, vc, rfl⟩ := hv.slice
  have c0 : ((w.alloc (.cells #[.slice va g.length vc] 26)).alloc (.cells #[.slice none 0 0] 28)).cell? ⟨w.heap.size, 0, none⟩ = some (.slice va g.length vc) := by simp [go_sem]
  have d0 : ((w.alloc (.cells #[.slice va g.length vc] 26)).alloc (.cells #[.slice none 0 0] 28)).cell? ⟨w.heap.size + 1, 0, none⟩ = some (.slice none 0 0) := by simp [go_sem]
  have e0 : ((w.alloc (.cells #[.slice va g.length vc] 26)).alloc (.cells #[.slice none 0 0] 28)).frozen? ⟨w.heap.size + 1, 0, none⟩ = false := by simp [go_sem]
  have HNIL := Lib.hid (fun W : World => show SlR (fun b => w.heap.size ≤ b ∧ b < W.heap.size) W (.slice none 0 0) [] from ⟨none, 0, 0, 0, fun _ => undef, rfl, by simp, fun h => by simp at h, fun i hi => by simp at hi⟩)
  cases hs : smallB g with
  | false =>
    have HE := Lib.hid (show embF g = [] by unfold embF; rw [hs]; rfl)
    rw [hs] at hsm
    clear hs HAL
    go_enter Tryz.func17, Tryz.ntmps17
    go_wp2_with fail
    refine hsm.mono ?_
    rintro e w1 ⟨rfl, hb1⟩
    have hq1 := hq0.trans (hb1.mono hq0.size)
    have d1 := (hb1.cell (cell_lt d0)).trans d0
    have e1 := (hb1.frozen (cell_lt d0)).trans e0
    go_wp2
    refine bodyPost_ret (v := .tuple #[.agg #[.slice none 0 0], .bool false]) (by simp [results, Tryz.results17, go_sem, d1]) rfl ?_
    exact ⟨.slice none 0 0, by rw [HE.out]; rfl, by rw [HE.out]; exact HNIL.out _, hq1.setCell (by simp) _⟩
  | true =>
    have HM := Lib.hid (embF_many hs)
    have HEW := Lib.hid (show embF g = (waysS g).2 by unfold embF; rw [if_pos hs])
    have hal := HAL.out hs
    rw [← HEW.out] at hal
    rw [hs] at hsm
    clear hs HAL
    generalize (waysS g).1 = mn at *
    go_enter Tryz.func17, Tryz.ntmps17
    go_wp2_with fail
    refine hsm.mono ?_
    rintro e w1 ⟨rfl, hb1⟩
    have hq1 := hq0.trans (hb1.mono hq0.size)
    have c1 := (hb1.cell (cell_lt c0)).trans c0
    have d1 := (hb1.cell (cell_lt d0)).trans d0
    have e1 := (hb1.frozen (cell_lt d0)).trans e0
    have hz1 : w.heap.size + 1 < w1.heap.size := cell_lt d1
    clear hsm hq0 c0 hb1 d0 e0
    go_wp2_with fail
    refine (hal w1 hq1).mono ?_
    rintro e w2 ⟨bv, rfl, hbv, hb2⟩
    have hq2 := hq1.trans (hb2.mono hq1.size)
    have d2 := (hb2.cell (cell_lt d1)).trans d1
    have e2 := (hb2.frozen (cell_lt d1)).trans e1
    have hz2 := hb2.size
    obtain ⟨ba, bc, rfl⟩ := hbv.slice
    rw [List.length_map] at *
    have hb3 : ∀ (o : Obj) (x : Value), Below (w2.setCell ⟨w.heap.size + 1, 0, none⟩ x).heap.size (w2.setCell ⟨w.heap.size + 1, 0, none⟩ x) ((w2.setCell ⟨w.heap.size + 1, 0, none⟩ x).alloc o) := fun o x => (Below.refl _ _).alloc (Nat.le_refl _) _
    have hq3 : ∀ (o : Obj) (x : Value), Below w.heap.size w ((w2.setCell ⟨w.heap.size + 1, 0, none⟩ x).alloc o) := fun o x => (hq2.setCell (by simp) x).trans ((hb3 o x).mono (by have := hq2.size; simp; omega))
    have d3 : ∀ (o : Obj) (x : Value), ((w2.setCell ⟨w.heap.size + 1, 0, none⟩ x).alloc o).cell? ⟨w.heap.size + 1, 0, none⟩ = some x := fun o x => ((hb3 o x).cell (cell_lt (World.cell?_setCell_same _ _ x d2))).trans (World.cell?_setCell_same _ _ x d2)
    have hlt := cell_lt d2
    by_cases hm : mn = 0
    · have HE := Lib.hid (HM.out.2 hm)
      have hd : (mn == 0) = true := by simp [hm]
      have hbc := HE.out
      clear hm HM hbc
      go_wp2
      refine bodyPost_ret (v := .tuple #[.agg #[.slice none 0 0], .bool false]) (by simp [results, Tryz.results17, go_sem, d3]) rfl ?_
      exact ⟨.slice none 0 0, by rw [HE.out]; rfl, by rw [HE.out]; exact HNIL.out _, hq3 _ _⟩
    · have HE := Lib.hid (show embF g ≠ [] from fun e => hm (HM.out.1 e))
      have hd : (mn == 0) = false := by simp [hm]
      clear hm HM
      have hbk : ∀ o : Obj, SlR (fun b => w.heap.size ≤ b ∧ b < ((w2.setCell ⟨w.heap.size + 1, 0, none⟩ (.slice ba (embF g).length bc)).alloc o).heap.size) ((w2.setCell ⟨w.heap.size + 1, 0, none⟩ (.slice ba (embF g).length bc)).alloc o) (.slice ba (embF g).length bc) ((embF g).map natsI) := fun o =>
        ((hbv.keep fun b hb => Below.heap_setCell _ _ _ _ (fun e => by have e2 : b = w.heap.size + 1 := (by simpa [eq_comm] using e); omega)).below (hb3 o _) (Nat.le_refl _)).weak fun b hb => ⟨by omega, by have := (hb3 o (.slice ba (embF g).length bc)).size; simp at this ⊢; omega⟩
      have HBK := Lib.hid hbk
      clear hbk
      generalize (embF g).length = el at *
      go_wp2
      refine bodyPost_ret (v := .tuple #[.agg #[.slice ba el bc], .bool true]) (by simp [results, Tryz.results17, go_sem, d3]) rfl ?_
      exact ⟨.slice ba el bc, by rw [decide_eq_true HE.out], HBK.out _, hq3 _ _⟩
theorem embF_small (g : List (List Int)) : SmallR ((embF g).map natsI) 1048576 := by
  rcases embF_ok g with h | h
  · rw [h]; exact ⟨by simp, fun i hi => by simp at hi⟩
  · exact smK_small h
theorem conEmbeddingOf {g0 : List (List Int)} (hsm0 : SmallR g0 1048576) : ∃ (r0 : List (List Int)) (r1 : Bool), (∀ {S0 : Nat → Prop} {v0 : Value} {w : World}, SlR S0 w v0 g0 → Calls Tryz.prog 17 #[.agg #[v0]] w fun e w' => ∃ u0, e = .returned (.tuple #[.agg #[u0], .bool r1]) ∧ SlR (fun b => b < w'.heap.size) w' u0 r0 ∧ Below w.heap.size w w') ∧
    (∀ {S0 : Nat → Prop} {v0 : Value} {w : World}, Tab w → SlR S0 w v0 g0 → Calls Tryz.prog 19 #[.agg #[v0]] w fun e w' => ∃ u0, e = .returned (.tuple #[.agg #[u0], .bool r1]) ∧ OwnR w' w.heap.size w'.heap.size 36 2 u0 r0 ∧ Below w.heap.size w w') ∧
    SmallR r0 1048576 := by
  exact ⟨(embF g0).map natsI, decide (embF g0 ≠ []), fun h0 => (specEmbeddingOf_any h0).mono (fun _ _ ⟨u, h1, h2, h3⟩ => ⟨u, h1, h2.weak fun b hb => hb.2, h3⟩), fun ht h0 => implEmbeddingOf_any ht h0, embF_small g0⟩
set_option maxRecDepth 100000 in
set_option maxHeartbeats 16000000 in
theorem lawEmbeddingOf_any {S0 : Nat → Prop} (v0 : Value) (g0 : List (List Int)) (w : World) (ht : Tab w) (hv0 : SlR S0 w v0 g0) :
    Calls Tryz.prog 4 #[.agg #[v0]] w fun e w' => e = .returned (.bool true) ∧ Below w.heap.size w w' := by
  obtain ⟨a0, c0, rfl⟩ := hv0.slice
  have q0 : Below w.heap.size w (w.alloc (.cells #[.slice a0 g0.length c0] 38)) := (Below.refl _ _).alloc (Nat.le_refl _) _
  go_enter Tryz.func4, Tryz.ntmps4
  go_wp2_with fail
  refine (szGraph_any _ _ _ _ (hv0.below q0 (Nat.le_refl _)) (by omega) (by omega)).mono ?_
  rintro e w1 ⟨r1, rfl, hr1, hs1, hm1, hb1⟩
  have q1 := q0.trans (hb1.mono q0.size)
  have z0 := q0.size
  have z1 : w.heap.size + 1 ≤ w1.heap.size := by have := hb1.size; simp at this; omega
  have b0_1 : w1.cell? ⟨w.heap.size, 0, none⟩ = some (.slice a0 g0.length c0) := (hb1.cell (p := ⟨w.heap.size, 0, none⟩) (by simp <;> omega)).trans (by simp [go_sem])
  by_cases hneg1 : r1 < 0
  case pos =>
    go_wp2
    go_ret
    exact ⟨rfl, q1⟩
  have hsm0 : SmallR g0 1048576 := hm1 (by omega)
  obtain ⟨r0, r1, hS, hI, hN0⟩ := conEmbeddingOf hsm0
  go_wp2_with fail
  refine (toGraphR_any (hv0.below q1 (Nat.le_refl _)) hsm0).mono ?_
  rintro e w2 ⟨x2, rfl, y2_2, hb2⟩
  have q2 := q1.trans (hb2.mono q1.size)
  have z2 := hb2.size
  have b0_2 : w2.cell? ⟨w.heap.size, 0, none⟩ = some (.slice a0 g0.length c0) := (hb2.cell (p := ⟨w.heap.size, 0, none⟩) (cell_lt b0_1)).trans b0_1
  obtain ⟨xa2, xc2, rfl⟩ := y2_2.isSlice
  go_wp2_with fail
  refine (hS (y2_2.rows hsm0)).mono ?_
  rintro e w3 ⟨w0u0, rfl, w0_0_3, hb3⟩
  have q3 := q2.trans (hb3.mono q2.size)
  have z3 := hb3.size
  have b0_3 : w3.cell? ⟨w.heap.size, 0, none⟩ = some (.slice a0 g0.length c0) := (hb3.cell (p := ⟨w.heap.size, 0, none⟩) (cell_lt b0_2)).trans b0_2
  have y2_3 := y2_2.below hb3 (Nat.le_refl _)
  obtain ⟨w0a0, w0c0, rfl⟩ := w0_0_3.slice
  have hb4 : Below w3.heap.size w3 (w3.alloc (.cells #[.slice w0a0 r0.length w0c0] 28)) := (Below.refl _ _).alloc (Nat.le_refl _) _
  obtain ⟨w4, ew4⟩ : ∃ x, x = (w3.alloc (.cells #[.slice w0a0 r0.length w0c0] 28)) := ⟨_, rfl⟩
  rw [← ew4] at hb4
  have l4_4 : w4.cell? ⟨w3.heap.size, 0, none⟩ = some (.slice w0a0 r0.length w0c0) := by rw [ew4]; simp [go_sem]
  have zz4 : w4.heap.size = w3.heap.size + 1 := by rw [ew4]; simp
  have q4 := q3.trans (hb4.mono q3.size)
  have z4 := hb4.size
  have b0_4 : w4.cell? ⟨w.heap.size, 0, none⟩ = some (.slice a0 g0.length c0) := (hb4.cell (p := ⟨w.heap.size, 0, none⟩) (cell_lt b0_3)).trans b0_3
  have y2_4 := y2_3.below hb4 (Nat.le_refl _)
  have w0_0_4 := w0_0_3.below hb4 (Nat.le_refl _)
  have b0_4e : (w3.alloc (.cells #[.slice w0a0 r0.length w0c0] 28)).cell? ⟨w.heap.size, 0, none⟩ = some (.slice a0 g0.length c0) := by rw [← ew4]; exact b0_4
  have l4_4e : (w3.alloc (.cells #[.slice w0a0 r0.length w0c0] 28)).cell? ⟨w3.heap.size, 0, none⟩ = some (.slice w0a0 r0.length w0c0) := by rw [← ew4]; exact l4_4
  go_wp2_with fail
  rw [← ew4]
  refine (toGraphR_any (hv0.below q4 (Nat.le_refl _)) hsm0).mono ?_
  rintro e w5 ⟨x5, rfl, y5_5, hb5⟩
  have q5 := q4.trans (hb5.mono q4.size)
  have z5 := hb5.size
  have b0_5 : w5.cell? ⟨w.heap.size, 0, none⟩ = some (.slice a0 g0.length c0) := (hb5.cell (p := ⟨w.heap.size, 0, none⟩) (cell_lt b0_4)).trans b0_4
  have l4_5 : w5.cell? ⟨w3.heap.size, 0, none⟩ = some (.slice w0a0 r0.length w0c0) := (hb5.cell (p := ⟨w3.heap.size, 0, none⟩) (cell_lt l4_4)).trans l4_4
  have y2_5 := y2_4.below hb5 (Nat.le_refl _)
  have w0_0_5 := w0_0_4.below hb5 (Nat.le_refl _)
  obtain ⟨xa5, xc5, rfl⟩ := y5_5.isSlice
  have hb6 : Below w5.heap.size w5 (w5.alloc (.cells #[.slice xa5 g0.length xc5] 26)) := (Below.refl _ _).alloc (Nat.le_refl _) _
  obtain ⟨w6, ew6⟩ : ∃ x, x = (w5.alloc (.cells #[.slice xa5 g0.length xc5] 26)) := ⟨_, rfl⟩
  rw [← ew6] at hb6
  have l6_6 : w6.cell? ⟨w5.heap.size, 0, none⟩ = some (.slice xa5 g0.length xc5) := by rw [ew6]; simp [go_sem]
  have zz6 : w6.heap.size = w5.heap.size + 1 := by rw [ew6]; simp
  have q6 := q5.trans (hb6.mono q5.size)
  have z6 := hb6.size
  have b0_6 : w6.cell? ⟨w.heap.size, 0, none⟩ = some (.slice a0 g0.length c0) := (hb6.cell (p := ⟨w.heap.size, 0, none⟩) (cell_lt b0_5)).trans b0_5
  have l4_6 : w6.cell? ⟨w3.heap.size, 0, none⟩ = some (.slice w0a0 r0.length w0c0) := (hb6.cell (p := ⟨w3.heap.size, 0, none⟩) (cell_lt l4_5)).trans l4_5
  have y2_6 := y2_5.below hb6 (Nat.le_refl _)
  have w0_0_6 := w0_0_5.below hb6 (Nat.le_refl _)
  have y5_6 := y5_5.below hb6 (Nat.le_refl _)
  have b0_6e : (w5.alloc (.cells #[.slice xa5 g0.length xc5] 26)).cell? ⟨w.heap.size, 0, none⟩ = some (.slice a0 g0.length c0) := by rw [← ew6]; exact b0_6
  have l4_6e : (w5.alloc (.cells #[.slice xa5 g0.length xc5] 26)).cell? ⟨w3.heap.size, 0, none⟩ = some (.slice w0a0 r0.length w0c0) := by rw [← ew6]; exact l4_6
  have l6_6e : (w5.alloc (.cells #[.slice xa5 g0.length xc5] 26)).cell? ⟨w5.heap.size, 0, none⟩ = some (.slice xa5 g0.length xc5) := by rw [← ew6]; exact l6_6
  go_wp2_with fail
  rw [← ew6]
  refine (hI (ht.below q6 (Nat.le_refl _)) (y5_6.rows hsm0)).mono ?_
  rintro e w7 ⟨g0u0, rfl, g0_0_7, hb7⟩
  have q7 := q6.trans (hb7.mono q6.size)
  have z7 := hb7.size
  have b0_7 : w7.cell? ⟨w.heap.size, 0, none⟩ = some (.slice a0 g0.length c0) := (hb7.cell (p := ⟨w.heap.size, 0, none⟩) (cell_lt b0_6)).trans b0_6
  have l4_7 : w7.cell? ⟨w3.heap.size, 0, none⟩ = some (.slice w0a0 r0.length w0c0) := (hb7.cell (p := ⟨w3.heap.size, 0, none⟩) (cell_lt l4_6)).trans l4_6
  have l6_7 : w7.cell? ⟨w5.heap.size, 0, none⟩ = some (.slice xa5 g0.length xc5) := (hb7.cell (p := ⟨w5.heap.size, 0, none⟩) (cell_lt l6_6)).trans l6_6
  have y2_7 := y2_6.below hb7 (Nat.le_refl _)
  have w0_0_7 := w0_0_6.below hb7 (Nat.le_refl _)
  have y5_7 := y5_6.below hb7 (Nat.le_refl _)
  obtain ⟨g0a0, g0c0, rfl⟩ := g0_0_7.isSlice
  have hb8 : Below w7.heap.size w7 (w7.alloc (.cells #[.slice g0a0 r0.length g0c0] 28)) := (Below.refl _ _).alloc (Nat.le_refl _) _
  obtain ⟨w8, ew8⟩ : ∃ x, x = (w7.alloc (.cells #[.slice g0a0 r0.length g0c0] 28)) := ⟨_, rfl⟩
  rw [← ew8] at hb8
  have l8_8 : w8.cell? ⟨w7.heap.size, 0, none⟩ = some (.slice g0a0 r0.length g0c0) := by rw [ew8]; simp [go_sem]
  have zz8 : w8.heap.size = w7.heap.size + 1 := by rw [ew8]; simp
  have q8 := q7.trans (hb8.mono q7.size)
  have z8 := hb8.size
  have b0_8 : w8.cell? ⟨w.heap.size, 0, none⟩ = some (.slice a0 g0.length c0) := (hb8.cell (p := ⟨w.heap.size, 0, none⟩) (cell_lt b0_7)).trans b0_7
  have l4_8 : w8.cell? ⟨w3.heap.size, 0, none⟩ = some (.slice w0a0 r0.length w0c0) := (hb8.cell (p := ⟨w3.heap.size, 0, none⟩) (cell_lt l4_7)).trans l4_7
  have l6_8 : w8.cell? ⟨w5.heap.size, 0, none⟩ = some (.slice xa5 g0.length xc5) := (hb8.cell (p := ⟨w5.heap.size, 0, none⟩) (cell_lt l6_7)).trans l6_7
  have y2_8 := y2_7.below hb8 (Nat.le_refl _)
  have w0_0_8 := w0_0_7.below hb8 (Nat.le_refl _)
  have y5_8 := y5_7.below hb8 (Nat.le_refl _)
  have g0_0_8 := g0_0_7.below hb8 (Nat.le_refl _)
  have b0_8e : (w7.alloc (.cells #[.slice g0a0 r0.length g0c0] 28)).cell? ⟨w.heap.size, 0, none⟩ = some (.slice a0 g0.length c0) := by rw [← ew8]; exact b0_8
  have l4_8e : (w7.alloc (.cells #[.slice g0a0 r0.length g0c0] 28)).cell? ⟨w3.heap.size, 0, none⟩ = some (.slice w0a0 r0.length w0c0) := by rw [← ew8]; exact l4_8
  have l6_8e : (w7.alloc (.cells #[.slice g0a0 r0.length g0c0] 28)).cell? ⟨w5.heap.size, 0, none⟩ = some (.slice xa5 g0.length xc5) := by rw [← ew8]; exact l6_8
  have l8_8e : (w7.alloc (.cells #[.slice g0a0 r0.length g0c0] 28)).cell? ⟨w7.heap.size, 0, none⟩ = some (.slice g0a0 r0.length g0c0) := by rw [← ew8]; exact l8_8
  go_wp2_with fail
  rw [← ew8]
  refine (eqAround_same (g0_0_8.rows hN0) w0_0_8).mono ?_
  rintro e w9 ⟨rfl, hb9⟩
  have q9 := q8.trans (hb9.mono q8.size)
  have z9 := hb9.size
  have b0_9 : w9.cell? ⟨w.heap.size, 0, none⟩ = some (.slice a0 g0.length c0) := (hb9.cell (p := ⟨w.heap.size, 0, none⟩) (cell_lt b0_8)).trans b0_8
  have l4_9 : w9.cell? ⟨w3.heap.size, 0, none⟩ = some (.slice w0a0 r0.length w0c0) := (hb9.cell (p := ⟨w3.heap.size, 0, none⟩) (cell_lt l4_8)).trans l4_8
  have l6_9 : w9.cell? ⟨w5.heap.size, 0, none⟩ = some (.slice xa5 g0.length xc5) := (hb9.cell (p := ⟨w5.heap.size, 0, none⟩) (cell_lt l6_8)).trans l6_8
  have l8_9 : w9.cell? ⟨w7.heap.size, 0, none⟩ = some (.slice g0a0 r0.length g0c0) := (hb9.cell (p := ⟨w7.heap.size, 0, none⟩) (cell_lt l8_8)).trans l8_8
  have y2_9 := y2_8.below hb9 (Nat.le_refl _)
  have w0_0_9 := w0_0_8.below hb9 (Nat.le_refl _)
  have y5_9 := y5_8.below hb9 (Nat.le_refl _)
  have g0_0_9 := g0_0_8.below hb9 (Nat.le_refl _)
  go_wp2
  refine wp_region_held_drew (S := (fun w' => w'.cell? ⟨w.heap.size, 0, none⟩ = some (.slice a0 g0.length c0) ∧ w'.cell? ⟨w3.heap.size, 0, none⟩ = some (.slice w0a0 r0.length w0c0) ∧ w'.cell? ⟨w5.heap.size, 0, none⟩ = some (.slice xa5 g0.length xc5) ∧ w'.cell? ⟨w7.heap.size, 0, none⟩ = some (.slice g0a0 r0.length g0c0))) (by kernel_rfl) ?_ (fun hHeld => ?_)
  · first | exact ⟨‹_›, ‹_›, ‹_›, ‹_›⟩ | assumption | (simp [*, go_sem])
  refine wpAnyH_take (i := 0) (v := ?v1) (by simp only [List.getElem?_toArray, List.getElem?_cons_zero]; exact rfl) (by kernel_rfl) (by kernel_rfl) (by kernel_rfl) (by intro _ _ _ h; exact h) (Or.inl ⟨by rfl, ?y1⟩) hHeld ?_
  case y1 => (intro w hSw; (try dsimp only at hSw); go_simp; try (with_reducible rfl))
  try simp only [Act.put, List.setIfInBounds_toArray, List.set_cons_zero, List.set_cons_succ]
  refine wpAnyH_take (i := 1) (v := ?v2) (by simp only [List.getElem?_toArray, List.getElem?_cons_succ, List.getElem?_cons_zero]; exact rfl) (by kernel_rfl) (by kernel_rfl) (by kernel_rfl) (by intro _ _ _ h; exact h) (Or.inl ⟨by rfl, ?y2⟩) hHeld ?_
  case y2 => (intro w hSw; (try dsimp only at hSw); go_simp; try (with_reducible rfl))
  try simp only [Act.put, List.setIfInBounds_toArray, List.set_cons_zero, List.set_cons_succ]
  refine wpAnyH_ready (rs := [2]) (by kernel_rfl) (by simp) ?_
  refine AllReadyH.cons (by simp only [List.getElem?_toArray, List.getElem?_cons_succ, List.getElem?_cons_zero]; exact rfl) (fun K hK => ?_) AllReadyH.nil
  go_simp
  have q9d := q9.drew
  have y2_9k := y2_9
  have y2_9 := y2_9.below ((Below.refl w9.heap.size w9).drew) (Nat.le_refl _)
  have w0_0_9k := w0_0_9
  have w0_0_9 := w0_0_9.below ((Below.refl w9.heap.size w9).drew) (Nat.le_refl _)
  have y5_9k := y5_9
  have y5_9 := y5_9.below ((Below.refl w9.heap.size w9).drew) (Nat.le_refl _)
  have g0_0_9k := g0_0_9
  have g0_0_9 := g0_0_9.below ((Below.refl w9.heap.size w9).drew) (Nat.le_refl _)
  refine (toGraph_any _ _ _ (hv0.below q9d (Nat.le_refl _)) hsm0).mono ?_
  rintro e w10 ⟨x10, rfl, y10_10, hb10⟩
  replace hb10 : Below w9.heap.size w9 w10 := ⟨hb10.os, hb10.tape, hb10.output, hb10.size, hb10.block⟩
  replace y2_9 := y2_9k
  replace w0_0_9 := w0_0_9k
  replace y5_9 := y5_9k
  replace g0_0_9 := g0_0_9k
  have q10 := q9.trans (hb10.mono q9.size)
  have z10 := hb10.size
  have b0_10 : w10.cell? ⟨w.heap.size, 0, none⟩ = some (.slice a0 g0.length c0) := (hb10.cell (p := ⟨w.heap.size, 0, none⟩) (cell_lt b0_9)).trans b0_9
  have l4_10 : w10.cell? ⟨w3.heap.size, 0, none⟩ = some (.slice w0a0 r0.length w0c0) := (hb10.cell (p := ⟨w3.heap.size, 0, none⟩) (cell_lt l4_9)).trans l4_9
  have l6_10 : w10.cell? ⟨w5.heap.size, 0, none⟩ = some (.slice xa5 g0.length xc5) := (hb10.cell (p := ⟨w5.heap.size, 0, none⟩) (cell_lt l6_9)).trans l6_9
  have l8_10 : w10.cell? ⟨w7.heap.size, 0, none⟩ = some (.slice g0a0 r0.length g0c0) := (hb10.cell (p := ⟨w7.heap.size, 0, none⟩) (cell_lt l8_9)).trans l8_9
  have y2_10 := y2_9.below hb10 (Nat.le_refl _)
  have w0_0_10 := w0_0_9.below hb10 (Nat.le_refl _)
  have y5_10 := y5_9.below hb10 (Nat.le_refl _)
  have g0_0_10 := g0_0_9.below hb10 (Nat.le_refl _)
  try dsimp only
  refine hK.out _ _ ?h4 (fun hHeld => ?_)
  case h4 => first | exact ⟨‹_›, ‹_›, ‹_›, ‹_›⟩ | assumption | (simp [*, go_sem])
  clear hK K
  try simp only [Act.put, List.setIfInBounds_toArray, List.set_cons_zero, List.set_cons_succ]
  refine wpAnyH_ready (rs := [3]) (by kernel_rfl) (by simp) ?_
  refine AllReadyH.cons (by simp only [List.getElem?_toArray, List.getElem?_cons_succ, List.getElem?_cons_zero]; exact rfl) (fun K hK => ?_) AllReadyH.nil
  go_simp
  refine (eqG_same (y5_10.rows hsm0) y10_10).mono ?_
  rintro e w11 ⟨rfl, hb11⟩
  have q11 := q10.trans (hb11.mono q10.size)
  have z11 := hb11.size
  have b0_11 : w11.cell? ⟨w.heap.size, 0, none⟩ = some (.slice a0 g0.length c0) := (hb11.cell (p := ⟨w.heap.size, 0, none⟩) (cell_lt b0_10)).trans b0_10
  have l4_11 : w11.cell? ⟨w3.heap.size, 0, none⟩ = some (.slice w0a0 r0.length w0c0) := (hb11.cell (p := ⟨w3.heap.size, 0, none⟩) (cell_lt l4_10)).trans l4_10
  have l6_11 : w11.cell? ⟨w5.heap.size, 0, none⟩ = some (.slice xa5 g0.length xc5) := (hb11.cell (p := ⟨w5.heap.size, 0, none⟩) (cell_lt l6_10)).trans l6_10
  have l8_11 : w11.cell? ⟨w7.heap.size, 0, none⟩ = some (.slice g0a0 r0.length g0c0) := (hb11.cell (p := ⟨w7.heap.size, 0, none⟩) (cell_lt l8_10)).trans l8_10
  have y2_11 := y2_10.below hb11 (Nat.le_refl _)
  have w0_0_11 := w0_0_10.below hb11 (Nat.le_refl _)
  have y5_11 := y5_10.below hb11 (Nat.le_refl _)
  have g0_0_11 := g0_0_10.below hb11 (Nat.le_refl _)
  have y10_11 := y10_10.below hb11 (Nat.le_refl _)
  try dsimp only
  refine hK.out _ _ ?h6 (fun hHeld => ?_)
  case h6 => first | exact ⟨‹_›, ‹_›, ‹_›, ‹_›⟩ | assumption | (simp [*, go_sem])
  clear hK K
  try simp only [Act.put, List.setIfInBounds_toArray, List.set_cons_zero, List.set_cons_succ]
  refine wpAnyH_take (i := 4) (v := ?v7) (by simp only [List.getElem?_toArray, List.getElem?_cons_succ, List.getElem?_cons_zero]; exact rfl) (by kernel_rfl) (by kernel_rfl) (by kernel_rfl) (by intro _ _ _ h; exact h) (Or.inl ⟨by rfl, ?y7⟩) hHeld ?_
  case y7 => (intro w hSw; (try dsimp only at hSw); go_simp; try (with_reducible rfl))
  try simp only [Act.put, List.setIfInBounds_toArray, List.set_cons_zero, List.set_cons_succ]
  refine wpAnyH_done (by kernel_rfl) ?_ _
  go_wp2_with fail
  refine (markG_any y5_11 hsm0 (by omega) (by omega) (by omega)).mono ?_
  rintro e w12 ⟨k12, rfl, hk12, hl12, ht12⟩
  have q12 := ht12.below q11 (by have := q11.size; omega) q11.size
  have z12 := ht12.size
  have b0_12 : w12.cell? ⟨w.heap.size, 0, none⟩ = some (.slice a0 g0.length c0) := (ht12.cell (p := ⟨w.heap.size, 0, none⟩) (cell_lt b0_11) (by have : w.heap.size < w11.heap.size := cell_lt b0_11; show w.heap.size < _ ∨ _ ≤ w.heap.size; omega)).trans b0_11
  have l4_12 : w12.cell? ⟨w3.heap.size, 0, none⟩ = some (.slice w0a0 r0.length w0c0) := (ht12.cell (p := ⟨w3.heap.size, 0, none⟩) (cell_lt l4_11) (by have : w3.heap.size < w11.heap.size := cell_lt l4_11; show w3.heap.size < _ ∨ _ ≤ w3.heap.size; omega)).trans l4_11
  have l6_12 : w12.cell? ⟨w5.heap.size, 0, none⟩ = some (.slice xa5 g0.length xc5) := (ht12.cell (p := ⟨w5.heap.size, 0, none⟩) (cell_lt l6_11) (by have : w5.heap.size < w11.heap.size := cell_lt l6_11; show w5.heap.size < _ ∨ _ ≤ w5.heap.size; omega)).trans l6_11
  have l8_12 : w12.cell? ⟨w7.heap.size, 0, none⟩ = some (.slice g0a0 r0.length g0c0) := (ht12.cell (p := ⟨w7.heap.size, 0, none⟩) (cell_lt l8_11) (by have : w7.heap.size < w11.heap.size := cell_lt l8_11; show w7.heap.size < _ ∨ _ ≤ w7.heap.size; omega)).trans l8_11
  have y2_12 := y2_11.between ht12 (by omega)
  have w0_0_12 := w0_0_11.betweenR ht12 (fun b (hb : b < w3.heap.size) => ⟨by omega, by omega⟩)
  have g0_0_12 := g0_0_11.between ht12 (by omega)
  have hkn12 : ¬ k12 < 0 := by omega
  go_wp2_with fail
  refine (eqAround_same (g0_0_12.rows hN0) w0_0_12).mono ?_
  rintro e w13 ⟨rfl, hb13⟩
  have q13 := q12.trans (hb13.mono q12.size)
  have z13 := hb13.size
  have b0_13 : w13.cell? ⟨w.heap.size, 0, none⟩ = some (.slice a0 g0.length c0) := (hb13.cell (p := ⟨w.heap.size, 0, none⟩) (cell_lt b0_12)).trans b0_12
  have l4_13 : w13.cell? ⟨w3.heap.size, 0, none⟩ = some (.slice w0a0 r0.length w0c0) := (hb13.cell (p := ⟨w3.heap.size, 0, none⟩) (cell_lt l4_12)).trans l4_12
  have l6_13 : w13.cell? ⟨w5.heap.size, 0, none⟩ = some (.slice xa5 g0.length xc5) := (hb13.cell (p := ⟨w5.heap.size, 0, none⟩) (cell_lt l6_12)).trans l6_12
  have l8_13 : w13.cell? ⟨w7.heap.size, 0, none⟩ = some (.slice g0a0 r0.length g0c0) := (hb13.cell (p := ⟨w7.heap.size, 0, none⟩) (cell_lt l8_12)).trans l8_12
  have y2_13 := y2_12.below hb13 (Nat.le_refl _)
  have w0_0_13 := w0_0_12.below hb13 (Nat.le_refl _)
  have g0_0_13 := g0_0_12.below hb13 (Nat.le_refl _)
  go_wp2_with fail
  refine (markAroundE_any g0_0_13 hN0 (k := 1) (by omega) (by omega) (by omega)).mono ?_
  rintro e w14 ⟨rfl, g0_0_14, ht14⟩
  have q14 := ht14.below q13 (by have := q13.size; omega) q13.size
  have z14 := ht14.size
  have b0_14 : w14.cell? ⟨w.heap.size, 0, none⟩ = some (.slice a0 g0.length c0) := (ht14.cell (p := ⟨w.heap.size, 0, none⟩) (cell_lt b0_13) (by have : w.heap.size < w13.heap.size := cell_lt b0_13; show w.heap.size < _ ∨ _ ≤ w.heap.size; omega)).trans b0_13
  have l4_14 : w14.cell? ⟨w3.heap.size, 0, none⟩ = some (.slice w0a0 r0.length w0c0) := (ht14.cell (p := ⟨w3.heap.size, 0, none⟩) (cell_lt l4_13) (by have : w3.heap.size < w13.heap.size := cell_lt l4_13; show w3.heap.size < _ ∨ _ ≤ w3.heap.size; omega)).trans l4_13
  have l6_14 : w14.cell? ⟨w5.heap.size, 0, none⟩ = some (.slice xa5 g0.length xc5) := (ht14.cell (p := ⟨w5.heap.size, 0, none⟩) (cell_lt l6_13) (by have : w5.heap.size < w13.heap.size := cell_lt l6_13; show w5.heap.size < _ ∨ _ ≤ w5.heap.size; omega)).trans l6_13
  have l8_14 : w14.cell? ⟨w7.heap.size, 0, none⟩ = some (.slice g0a0 r0.length g0c0) := (ht14.cell (p := ⟨w7.heap.size, 0, none⟩) (cell_lt l8_13) (by have : w7.heap.size < w13.heap.size := cell_lt l8_13; show w7.heap.size < _ ∨ _ ≤ w7.heap.size; omega)).trans l8_13
  have y2_14 := y2_13.between ht14 (by omega)
  have w0_0_14 := w0_0_13.betweenR ht14 (fun b (hb : b < w3.heap.size) => ⟨by omega, by omega⟩)
  have hmn14 : ¬ (1 + (sumL r0 : Int)) < 0 := by omega
  go_wp2_with fail
  refine (heldAround_any (g0_0_14.rows (marksR_small hN0)) hN0 (k := 1) (by omega) (by omega)).mono ?_
  rintro e w15 ⟨rfl, hb15⟩
  have q15 := q14.trans (hb15.mono q14.size)
  have z15 := hb15.size
  have b0_15 : w15.cell? ⟨w.heap.size, 0, none⟩ = some (.slice a0 g0.length c0) := (hb15.cell (p := ⟨w.heap.size, 0, none⟩) (cell_lt b0_14)).trans b0_14
  have l4_15 : w15.cell? ⟨w3.heap.size, 0, none⟩ = some (.slice w0a0 r0.length w0c0) := (hb15.cell (p := ⟨w3.heap.size, 0, none⟩) (cell_lt l4_14)).trans l4_14
  have l6_15 : w15.cell? ⟨w5.heap.size, 0, none⟩ = some (.slice xa5 g0.length xc5) := (hb15.cell (p := ⟨w5.heap.size, 0, none⟩) (cell_lt l6_14)).trans l6_14
  have l8_15 : w15.cell? ⟨w7.heap.size, 0, none⟩ = some (.slice g0a0 r0.length g0c0) := (hb15.cell (p := ⟨w7.heap.size, 0, none⟩) (cell_lt l8_14)).trans l8_14
  have y2_15 := y2_14.below hb15 (Nat.le_refl _)
  have w0_0_15 := w0_0_14.below hb15 (Nat.le_refl _)
  have g0_0_15 := g0_0_14.below hb15 (Nat.le_refl _)
  have hmn15 : ¬ (1 + (sumL r0 : Int)) < 0 := by omega
  go_wp2_with fail
  refine (toGraphR_any (hv0.below q15 (Nat.le_refl _)) hsm0).mono ?_
  rintro e w16 ⟨x16, rfl, y16_16, hb16⟩
  have q16 := q15.trans (hb16.mono q15.size)
  have z16 := hb16.size
  have b0_16 : w16.cell? ⟨w.heap.size, 0, none⟩ = some (.slice a0 g0.length c0) := (hb16.cell (p := ⟨w.heap.size, 0, none⟩) (cell_lt b0_15)).trans b0_15
  have l4_16 : w16.cell? ⟨w3.heap.size, 0, none⟩ = some (.slice w0a0 r0.length w0c0) := (hb16.cell (p := ⟨w3.heap.size, 0, none⟩) (cell_lt l4_15)).trans l4_15
  have l6_16 : w16.cell? ⟨w5.heap.size, 0, none⟩ = some (.slice xa5 g0.length xc5) := (hb16.cell (p := ⟨w5.heap.size, 0, none⟩) (cell_lt l6_15)).trans l6_15
  have l8_16 : w16.cell? ⟨w7.heap.size, 0, none⟩ = some (.slice g0a0 r0.length g0c0) := (hb16.cell (p := ⟨w7.heap.size, 0, none⟩) (cell_lt l8_15)).trans l8_15
  have y2_16 := y2_15.below hb16 (Nat.le_refl _)
  have w0_0_16 := w0_0_15.below hb16 (Nat.le_refl _)
  have g0_0_16 := g0_0_15.below hb16 (Nat.le_refl _)
  obtain ⟨xa16, xc16, rfl⟩ := y16_16.isSlice
  go_wp2_with fail
  refine (hI (ht.below q16 (Nat.le_refl _)) (y16_16.rows hsm0)).mono ?_
  rintro e w17 ⟨h0u0, rfl, h0_0_17, hb17⟩
  have q17 := q16.trans (hb17.mono q16.size)
  have z17 := hb17.size
  have b0_17 : w17.cell? ⟨w.heap.size, 0, none⟩ = some (.slice a0 g0.length c0) := (hb17.cell (p := ⟨w.heap.size, 0, none⟩) (cell_lt b0_16)).trans b0_16
  have l4_17 : w17.cell? ⟨w3.heap.size, 0, none⟩ = some (.slice w0a0 r0.length w0c0) := (hb17.cell (p := ⟨w3.heap.size, 0, none⟩) (cell_lt l4_16)).trans l4_16
  have l6_17 : w17.cell? ⟨w5.heap.size, 0, none⟩ = some (.slice xa5 g0.length xc5) := (hb17.cell (p := ⟨w5.heap.size, 0, none⟩) (cell_lt l6_16)).trans l6_16
  have l8_17 : w17.cell? ⟨w7.heap.size, 0, none⟩ = some (.slice g0a0 r0.length g0c0) := (hb17.cell (p := ⟨w7.heap.size, 0, none⟩) (cell_lt l8_16)).trans l8_16
  have y2_17 := y2_16.below hb17 (Nat.le_refl _)
  have w0_0_17 := w0_0_16.below hb17 (Nat.le_refl _)
  have g0_0_17 := g0_0_16.below hb17 (Nat.le_refl _)
  have y16_17 := y16_16.below hb17 (Nat.le_refl _)
  obtain ⟨h0a0, h0c0, rfl⟩ := h0_0_17.isSlice
  have hb18 : Below w17.heap.size w17 (w17.alloc (.cells #[.slice h0a0 r0.length h0c0] 28)) := (Below.refl _ _).alloc (Nat.le_refl _) _
  obtain ⟨w18, ew18⟩ : ∃ x, x = (w17.alloc (.cells #[.slice h0a0 r0.length h0c0] 28)) := ⟨_, rfl⟩
  rw [← ew18] at hb18
  have l18_18 : w18.cell? ⟨w17.heap.size, 0, none⟩ = some (.slice h0a0 r0.length h0c0) := by rw [ew18]; simp [go_sem]
  have zz18 : w18.heap.size = w17.heap.size + 1 := by rw [ew18]; simp
  have q18 := q17.trans (hb18.mono q17.size)
  have z18 := hb18.size
  have b0_18 : w18.cell? ⟨w.heap.size, 0, none⟩ = some (.slice a0 g0.length c0) := (hb18.cell (p := ⟨w.heap.size, 0, none⟩) (cell_lt b0_17)).trans b0_17
  have l4_18 : w18.cell? ⟨w3.heap.size, 0, none⟩ = some (.slice w0a0 r0.length w0c0) := (hb18.cell (p := ⟨w3.heap.size, 0, none⟩) (cell_lt l4_17)).trans l4_17
  have l6_18 : w18.cell? ⟨w5.heap.size, 0, none⟩ = some (.slice xa5 g0.length xc5) := (hb18.cell (p := ⟨w5.heap.size, 0, none⟩) (cell_lt l6_17)).trans l6_17
  have l8_18 : w18.cell? ⟨w7.heap.size, 0, none⟩ = some (.slice g0a0 r0.length g0c0) := (hb18.cell (p := ⟨w7.heap.size, 0, none⟩) (cell_lt l8_17)).trans l8_17
  have y2_18 := y2_17.below hb18 (Nat.le_refl _)
  have w0_0_18 := w0_0_17.below hb18 (Nat.le_refl _)
  have g0_0_18 := g0_0_17.below hb18 (Nat.le_refl _)
  have y16_18 := y16_17.below hb18 (Nat.le_refl _)
  have h0_0_18 := h0_0_17.below hb18 (Nat.le_refl _)
  have b0_18e : (w17.alloc (.cells #[.slice h0a0 r0.length h0c0] 28)).cell? ⟨w.heap.size, 0, none⟩ = some (.slice a0 g0.length c0) := by rw [← ew18]; exact b0_18
  have l4_18e : (w17.alloc (.cells #[.slice h0a0 r0.length h0c0] 28)).cell? ⟨w3.heap.size, 0, none⟩ = some (.slice w0a0 r0.length w0c0) := by rw [← ew18]; exact l4_18
  have l6_18e : (w17.alloc (.cells #[.slice h0a0 r0.length h0c0] 28)).cell? ⟨w5.heap.size, 0, none⟩ = some (.slice xa5 g0.length xc5) := by rw [← ew18]; exact l6_18
  have l8_18e : (w17.alloc (.cells #[.slice h0a0 r0.length h0c0] 28)).cell? ⟨w7.heap.size, 0, none⟩ = some (.slice g0a0 r0.length g0c0) := by rw [← ew18]; exact l8_18
  have l18_18e : (w17.alloc (.cells #[.slice h0a0 r0.length h0c0] 28)).cell? ⟨w17.heap.size, 0, none⟩ = some (.slice h0a0 r0.length h0c0) := by rw [← ew18]; exact l18_18
  go_wp2_with fail
  rw [← ew18]
  refine (eqAround_same (h0_0_18.rows hN0) w0_0_18).mono ?_
  rintro e w19 ⟨rfl, hb19⟩
  have q19 := q18.trans (hb19.mono q18.size)
  have z19 := hb19.size
  have b0_19 : w19.cell? ⟨w.heap.size, 0, none⟩ = some (.slice a0 g0.length c0) := (hb19.cell (p := ⟨w.heap.size, 0, none⟩) (cell_lt b0_18)).trans b0_18
  have l4_19 : w19.cell? ⟨w3.heap.size, 0, none⟩ = some (.slice w0a0 r0.length w0c0) := (hb19.cell (p := ⟨w3.heap.size, 0, none⟩) (cell_lt l4_18)).trans l4_18
  have l6_19 : w19.cell? ⟨w5.heap.size, 0, none⟩ = some (.slice xa5 g0.length xc5) := (hb19.cell (p := ⟨w5.heap.size, 0, none⟩) (cell_lt l6_18)).trans l6_18
  have l8_19 : w19.cell? ⟨w7.heap.size, 0, none⟩ = some (.slice g0a0 r0.length g0c0) := (hb19.cell (p := ⟨w7.heap.size, 0, none⟩) (cell_lt l8_18)).trans l8_18
  have l18_19 : w19.cell? ⟨w17.heap.size, 0, none⟩ = some (.slice h0a0 r0.length h0c0) := (hb19.cell (p := ⟨w17.heap.size, 0, none⟩) (cell_lt l18_18)).trans l18_18
  have y2_19 := y2_18.below hb19 (Nat.le_refl _)
  have w0_0_19 := w0_0_18.below hb19 (Nat.le_refl _)
  have g0_0_19 := g0_0_18.below hb19 (Nat.le_refl _)
  have y16_19 := y16_18.below hb19 (Nat.le_refl _)
  have h0_0_19 := h0_0_18.below hb19 (Nat.le_refl _)
  go_wp2_with fail
  refine (heldAround_any (g0_0_19.rows (marksR_small hN0)) hN0 (k := 1) (by omega) (by omega)).mono ?_
  rintro e w20 ⟨rfl, hb20⟩
  have q20 := q19.trans (hb20.mono q19.size)
  have z20 := hb20.size
  have b0_20 : w20.cell? ⟨w.heap.size, 0, none⟩ = some (.slice a0 g0.length c0) := (hb20.cell (p := ⟨w.heap.size, 0, none⟩) (cell_lt b0_19)).trans b0_19
  have l4_20 : w20.cell? ⟨w3.heap.size, 0, none⟩ = some (.slice w0a0 r0.length w0c0) := (hb20.cell (p := ⟨w3.heap.size, 0, none⟩) (cell_lt l4_19)).trans l4_19
  have l6_20 : w20.cell? ⟨w5.heap.size, 0, none⟩ = some (.slice xa5 g0.length xc5) := (hb20.cell (p := ⟨w5.heap.size, 0, none⟩) (cell_lt l6_19)).trans l6_19
  have l8_20 : w20.cell? ⟨w7.heap.size, 0, none⟩ = some (.slice g0a0 r0.length g0c0) := (hb20.cell (p := ⟨w7.heap.size, 0, none⟩) (cell_lt l8_19)).trans l8_19
  have l18_20 : w20.cell? ⟨w17.heap.size, 0, none⟩ = some (.slice h0a0 r0.length h0c0) := (hb20.cell (p := ⟨w17.heap.size, 0, none⟩) (cell_lt l18_19)).trans l18_19
  have y2_20 := y2_19.below hb20 (Nat.le_refl _)
  have w0_0_20 := w0_0_19.below hb20 (Nat.le_refl _)
  have g0_0_20 := g0_0_19.below hb20 (Nat.le_refl _)
  have y16_20 := y16_19.below hb20 (Nat.le_refl _)
  have h0_0_20 := h0_0_19.below hb20 (Nat.le_refl _)
  have hmn20 : ¬ (1 + (sumL r0 : Int)) < 0 := by omega
  go_wp2
  go_ret
  exact ⟨rfl, q20⟩
end Go.Proofs.YtdbanndcdbikmaaGreatDoor
