/- The law of PruneAt. -/
import Derived.Test.YtfccpencgengaaaPruneAt2
namespace Go.Proofs.Ytfccpencgengaaa
open Go.RowKit
theorem drew_of {w w' : World} {n : Nat} (h : Below n w.drew w') : Below n w w' := ⟨h.os, h.tape, h.output, h.size, h.block⟩
set_option maxRecDepth 100000 in
set_option maxHeartbeats 8000000 in
theorem lawPruneAt_any {S0 S1 : Nat → Prop} (v0 : Value) (g0 : List (List Int)) (v1 : Value) (s1 : List Int) (z2 : Int) (w : World) (hv0 : SlR S0 w v0 g0) (hv1 : SlI S1 w .i64 v1 s1) (hv2 : -9223372036854775808 ≤ z2 ∧ z2 ≤ 9223372036854775807) :
    Calls Try.prog 4 #[.agg #[v0], v1, .int .i64 z2] w fun e w' => e = .returned (.bool true) ∧ Below w.heap.size w w' := by
  obtain ⟨a0, c0, rfl⟩ := hv0.slice
  obtain ⟨a1, c1, rfl⟩ := hv1.slice
  have q0 : Below w.heap.size w (w.alloc (.cells #[.slice a0 g0.length c0] 24)) := (Below.refl _ _).alloc (Nat.le_refl _) _
  by_cases hl1 : s1.length ≤ 1048576
  case neg =>
    go_enter Try.func4, Try.ntmps4
    go_wp2
    go_ret
    exact ⟨rfl, q0⟩
  go_enter Try.func4, Try.ntmps4
  go_wp2_with fail
  refine (szGraph_any _ _ _ _ (hv0.below q0 (Nat.le_refl _)) (by omega) (by omega)).mono ?_
  rintro e w1 ⟨r1, rfl, hr1, hs1, hm1, hb1⟩
  have q1 := q0.trans (hb1.mono q0.size)
  have b_1 : w1.cell? ⟨w.heap.size, 0, none⟩ = some (.slice a0 g0.length c0) := (hb1.cell (p := ⟨w.heap.size, 0, none⟩) (by simp)).trans (by simp [go_sem])
  by_cases hneg1 : r1 < 0
  case pos =>
    go_wp2
    go_ret
    exact ⟨rfl, q1⟩
  have hsm0 : SmallR g0 1048576 := hm1 (by omega)
  go_wp2_with fail
  refine (toGraph_any _ _ _ (hv0.below q1 (Nat.le_refl _)) hsm0).mono ?_
  rintro e w2 ⟨x2, rfl, y2, hb2⟩
  have q2 := q1.trans (hb2.mono q1.size)
  have b_2 := (hb2.cell (cell_lt b_1)).trans b_1
  go_wp2_with fail
  refine (toInt64S_any _ _ _ (hv1.below q2 (Nat.le_refl _)) hl1).mono ?_
  rintro e w3 ⟨x3, rfl, hy3, hb3⟩
  have q3 := q2.trans (hb3.mono q2.size)
  have b_3 := (hb3.cell (cell_lt b_2)).trans b_2
  have y3 := Own.ints (xs := s1) hy3 (by omega)
  go_wp2_with fail
  refine (specPruneAt_any (y2.below hb3 (Nat.le_refl _)) y3).mono ?_
  rintro e w4 ⟨o, ho, rfl, hb4⟩
  have q4 := q3.trans (hb4.mono q3.size)
  have b_4 := (hb4.cell (cell_lt b_3)).trans b_3
  have HO := Lib.hid ho
  have hun := fun (o' : Option Tri) (h : AtP g0 s1 z2 o') => h.unique HO.out
  have HU := Lib.hid hun
  clear ho hun
  have HT : ∀ o' : Option Tri, AtP g0 s1 z2 o' → o'.getD ⟨0, 0, 0⟩ = o.getD ⟨0, 0, 0⟩ ∧ o'.isSome = o.isSome := fun o' h => by rw [HU.out o' h]; exact ⟨rfl, rfl⟩
  generalize o.getD ⟨0, 0, 0⟩ = q at HT ⊢
  generalize o.isSome = b at HT ⊢
  have HTH := Lib.hid HT
  clear HT HU HO
  obtain ⟨qa, qb, qc⟩ := q
  simp only [triV]
  have q5 : Below w.heap.size w (w4.alloc (.cells #[.int .i64 qa, .int .i64 qb, .int .i64 qc] 38)) := q4.alloc q4.size _
  have hb5 : Below w4.heap.size w4 (w4.alloc (.cells #[.int .i64 qa, .int .i64 qb, .int .i64 qc] 38)) := (Below.refl _ _).alloc (Nat.le_refl _) _
  have b_5 := (hb5.cell (cell_lt b_4)).trans b_4
  go_wp2_with fail
  refine (toGraph_any _ _ _ (hv0.below q5 (Nat.le_refl _)) hsm0).mono ?_
  rintro e w6 ⟨x6, rfl, y6, hb6⟩
  have q6 := q5.trans (hb6.mono q5.size)
  have b_6 := (hb6.cell (cell_lt b_5)).trans b_5
  have l6 : Box3 w6 w4.heap.size (.int .i64 qa) (.int .i64 qb) (.int .i64 qc) := Box3.below ⟨by simp [go_sem], by simp [go_sem], by simp [go_sem], by simp [go_sem], by simp [go_sem], by simp [go_sem]⟩ hb6 (Nat.le_refl _)
  obtain ⟨xa, xc, rfl⟩ := y6.slice
  have hb7 : Below w6.heap.size w6 (w6.alloc (.cells #[.slice xa g0.length xc] 29)) := (Below.refl _ _).alloc (Nat.le_refl _) _
  have q7 := q6.trans (hb7.mono q6.size)
  have b_7 := (hb7.cell (cell_lt b_6)).trans b_6
  have l7 := l6.below hb7 (Nat.le_refl _)
  have y7 := y6.below hb7 (Nat.le_refl _)
  go_wp2_with fail
  refine (toInt64S_any _ _ _ (hv1.below q7 (Nat.le_refl _)) hl1).mono ?_
  rintro e w8 ⟨x8, rfl, hy8, hb8⟩
  have q8 := q7.trans (hb8.mono q7.size)
  have b_8 := (hb8.cell (cell_lt b_7)).trans b_7
  have l8 := l7.below hb8 (Nat.le_refl _)
  have y8 := y7.below hb8 (Nat.le_refl _)
  have m8 : w8.cell? ⟨w6.heap.size, 0, none⟩ = some (.slice xa g0.length xc) := (hb8.cell (p := ⟨w6.heap.size, 0, none⟩) (by simp)).trans (by simp [go_sem])
  have t8 := Own.ints (xs := s1) hy8 (by omega)
  go_wp2_with fail
  refine (implPruneAt_any y8 t8).mono ?_
  rintro e w9 ⟨o', ho', rfl, hb9⟩
  obtain ⟨he1, he2⟩ := HTH.out o' ho'
  rw [he1, he2]
  clear he1 he2 ho' o'
  simp only [triV]
  have q9 := q8.trans (hb9.mono q8.size)
  have b_9 := (hb9.cell (cell_lt b_8)).trans b_8
  have l9 := l8.below hb9 (Nat.le_refl _)
  have y9 := y8.below hb9 (Nat.le_refl _)
  have m9 := (hb9.cell (cell_lt m8)).trans m8
  have t9 := t8.below hb9 (Nat.le_refl _)
  have hb10 : Below w9.heap.size w9 (w9.alloc (.cells #[.int .i64 qa, .int .i64 qb, .int .i64 qc] 38)) := (Below.refl _ _).alloc (Nat.le_refl _) _
  have q10 := q9.trans (hb10.mono q9.size)
  have b_10 := (hb10.cell (cell_lt b_9)).trans b_9
  have l10 := l9.below hb10 (Nat.le_refl _)
  have y10 := y9.below hb10 (Nat.le_refl _)
  have m10 := (hb10.cell (cell_lt m9)).trans m9
  have t10 := t9.below hb10 (Nat.le_refl _)
  obtain ⟨d0, d1, d2, -, -, -⟩ := l10
  have heq := eqPrune_any ⟨qa, qb, qc⟩ ⟨qa, qb, qc⟩ (w9.alloc (.cells #[.int .i64 qa, .int .i64 qb, .int .i64 qc] 38))
  simp only [triV, decide_true] at heq
  clear l6 l7 l8 l9 y2 y3 y6 y7 y8 y9 t8 t9 b_1 b_2 b_3 b_4 b_5 b_6 b_7 b_8 b_9 m8 m9 HTH
  go_wp2_with fail
  refine heq.mono ?_
  rintro e w11 ⟨rfl, hb11⟩
  have q11 := q10.trans (hb11.mono q10.size)
  have b_11 := (hb11.cell (cell_lt b_10)).trans b_10
  have m11 := (hb11.cell (cell_lt m10)).trans m10
  have y11 := y10.below hb11 (Nat.le_refl _)
  have t11 := t10.below hb11 (Nat.le_refl _)
  clear heq d0 d1 d2 y10 t10 b_10 m10
  have htrue : decide (g0 = g0) = true := by simp
  have htrue2 : decide (s1 = s1) = true := by simp
  go_wp2
  refine wp_region_held_drew (S := (fun w' => w'.cell? ⟨w.heap.size, 0, none⟩ = some (.slice a0 g0.length c0) ∧ w'.cell? ⟨w6.heap.size, 0, none⟩ = some (.slice xa g0.length xc))) (by kernel_rfl) ?_ (fun hHeld => ?_)
  · first | exact ⟨‹_›, ‹_›⟩ | assumption | (simp [*, go_sem])
  have qd := q11.drew
  have yd := y11.drew
  have td := t11.drew
  generalize w11.drew = wd at qd yd td hHeld ⊢
  have hHeld2 := hHeld
  obtain ⟨bd, md⟩ := hHeld2
  refine wpAnyH_take (i := 0) (v := ?v1) (by simp only [List.getElem?_toArray, List.getElem?_cons_zero]; exact rfl) (by kernel_rfl) (by kernel_rfl) (by kernel_rfl) (by intro _ _ _ h; exact h) (Or.inl ⟨by rfl, ?y1⟩) hHeld ?_
  case y1 => (intro w hSw; (try dsimp only at hSw); go_simp; try (with_reducible rfl))
  try simp only [Act.put, List.setIfInBounds_toArray, List.set_cons_zero, List.set_cons_succ]
  refine wpAnyH_take (i := 1) (v := ?v2) (by simp only [List.getElem?_toArray, List.getElem?_cons_succ, List.getElem?_cons_zero]; exact rfl) (by kernel_rfl) (by kernel_rfl) (by kernel_rfl) (by intro _ _ _ h; exact h) (Or.inl ⟨by rfl, ?y2⟩) hHeld ?_
  case y2 => (intro w hSw; (try dsimp only at hSw); go_simp; try (with_reducible rfl))
  try simp only [Act.put, List.setIfInBounds_toArray, List.set_cons_zero, List.set_cons_succ]
  refine wpAnyH_ready (rs := [2]) (by kernel_rfl) (by simp) ?_
  refine AllReadyH.cons (by simp only [List.getElem?_toArray, List.getElem?_cons_succ, List.getElem?_cons_zero]; exact rfl) (fun K hK => ?_) AllReadyH.nil
  go_simp
  refine (toGraph_any _ _ _ (hv0.below qd (Nat.le_refl _)) hsm0).mono ?_
  rintro e wn ⟨x12, rfl, y12, hb12⟩
  have qd := qd.trans (hb12.mono qd.size)
  have yd := yd.below hb12 (Nat.le_refl _)
  have td := td.below hb12 (Nat.le_refl _)
  have bd := (hb12.cell (cell_lt bd)).trans bd
  have md := (hb12.cell (cell_lt md)).trans md
  obtain ⟨wd, rfl⟩ : ∃ wx : World, wx = wn := ⟨_, rfl⟩
  try dsimp only
  refine hK.out _ _ ?h4 (fun hHeld => ?_)
  case h4 => first | exact ⟨‹_›, ‹_›⟩ | assumption | (simp [*, go_sem])
  clear hK K
  try simp only [Act.put, List.setIfInBounds_toArray, List.set_cons_zero, List.set_cons_succ]
  refine wpAnyH_ready (rs := [3]) (by kernel_rfl) (by simp) ?_
  refine AllReadyH.cons (by simp only [List.getElem?_toArray, List.getElem?_cons_succ, List.getElem?_cons_zero]; exact rfl) (fun K hK => ?_) AllReadyH.nil
  go_simp
  refine (eqGraph_any _ _ _ _ _ yd y12).mono ?_
  rintro e wn ⟨rfl, hb13⟩
  have qd := qd.trans (hb13.mono qd.size)
  have td := td.below hb13 (Nat.le_refl _)
  have bd := (hb13.cell (cell_lt bd)).trans bd
  have md := (hb13.cell (cell_lt md)).trans md
  obtain ⟨wd, rfl⟩ : ∃ wx : World, wx = wn := ⟨_, rfl⟩
  try dsimp only
  refine hK.out _ _ ?h6 (fun hHeld => ?_)
  case h6 => first | exact ⟨‹_›, ‹_›⟩ | assumption | (simp [*, go_sem])
  clear hK K
  try simp only [Act.put, List.setIfInBounds_toArray, List.set_cons_zero, List.set_cons_succ]
  refine wpAnyH_take (i := 4) (v := ?v7) (by simp only [List.getElem?_toArray, List.getElem?_cons_succ, List.getElem?_cons_zero]; exact rfl) (by kernel_rfl) (by kernel_rfl) (by kernel_rfl) (by intro _ _ _ h; exact h) (Or.inl ⟨by rfl, ?y7⟩) hHeld ?_
  case y7 => (intro w hSw; (try dsimp only at hSw); go_simp; try (with_reducible rfl))
  try simp only [Act.put, List.setIfInBounds_toArray, List.set_cons_zero, List.set_cons_succ]
  refine wpAnyH_done (by kernel_rfl) ?_ _
  all_goals
    go_wp2_with fail
    refine (toInt64S_any _ _ _ (hv1.below qd (Nat.le_refl _)) hl1).mono ?_
    rintro e w14 ⟨x14, rfl, hy14, hb14⟩
    have q14 := qd.trans (hb14.mono qd.size)
    have t14 := td.below hb14 (Nat.le_refl _)
    have y14 := Own.ints (xs := s1) hy14 (by omega)
    go_wp2_with fail
    refine (eqInt64S_any _ _ _ _ _ t14 y14).mono ?_
    rintro e w15 ⟨rfl, hd15⟩
    have q15 := q14.trans ((hd15.below _).mono q14.size)
    go_wp2
    go_ret
    exact ⟨rfl, q15⟩
end Go.Proofs.Ytfccpencgengaaa
