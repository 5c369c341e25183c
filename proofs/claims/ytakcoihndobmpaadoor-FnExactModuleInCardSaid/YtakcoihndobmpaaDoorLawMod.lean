/- The laws of ModuleIn and SplitterOf, walked. -/
import Derived.Test.YtakcoihndobmpaaDoorSets
import Derived.Test.YtakcoihndobmpaaDoorLaws
namespace Go.Proofs.YtakcoihndobmpaaDoor
open Go.RowKit
set_option maxHeartbeats 4000000 in
theorem lawModuleIn_any {S S' : Nat → Prop} (v u : Value) (g : List (List Int)) (s : List Int) (w : World) (ht : Tab w) (hv : SlR S w v g) (hu : SlI S' w .i64 u s) :
    Calls Tryd.prog 4 #[.agg #[v], u] w fun e w' => e = .returned (.bool true) ∧ Below w.heap.size w w' := by
  have hb : Below w.heap.size w (w.alloc (.cells #[v] 31)) := (Below.refl _ _).alloc (Nat.le_refl _) _
  obtain ⟨va, vc, rfl⟩ := hv.slice
  obtain ⟨ua, uc, rfl⟩ := hu.slice
  have hv1 := hv.below hb (Nat.le_refl _)
  by_cases hl : s.length ≤ 1048576
  · go_enter Tryd.func4, Tryd.ntmps4
    go_wp2_with fail
    refine (szGraph_any _ _ _ _ hv1 (by omega) (by omega)).mono ?_
    rintro e w1 ⟨r, rfl, hr0, hr1, hsm, hb1⟩
    have hq1 := hb.trans (hb1.mono hb.size)
    have c1 : w1.cell? ⟨w.heap.size, 0, none⟩ = some (.slice va g.length vc) := (hb1.cell (p := ⟨w.heap.size, 0, none⟩) (by simp)).trans (by simp [go_sem])
    by_cases hneg : r < 0
    · go_wp2
      go_ret
      exact ⟨rfl, hq1⟩
    have hsmall : SmallR g 1048576 := hsm (by omega)
    have hv2 := hv.below hq1 (Nat.le_refl _)
    go_wp2_with fail
    refine (toGraph_any _ _ _ hv2 hsmall).mono ?_
    rintro e w2 ⟨x2, rfl, hx2, hb2⟩
    have hq2 := hq1.trans (hb2.mono hq1.size)
    have c2 := (hb2.cell (p := ⟨w.heap.size, 0, none⟩) (cell_lt c1)).trans c1
    have hu2 := hu.below hq2 (Nat.le_refl _)
    go_wp2_with fail
    refine (toInt64S_any _ _ _ hu2 hl).mono ?_
    rintro e w3 ⟨x3, rfl, hx3, hb3⟩
    have hq3 := hq2.trans (hb3.mono hq2.size)
    have c3 := (hb3.cell (p := ⟨w.heap.size, 0, none⟩) (cell_lt c2)).trans c2
    have hx23 := hx2.below hb3 (Nat.le_refl _)
    have hx3i := hx3.ints (by omega)
    go_wp2_with fail
    refine (specModuleIn_any _ _ _ _ _ hx23 hx3i).mono ?_
    rintro e w4 ⟨rfl, hb4⟩
    have hq4 := hq3.trans (hb4.mono hq3.size)
    have c4 := (hb4.cell (p := ⟨w.heap.size, 0, none⟩) (cell_lt c3)).trans c3
    have hv4 := hv.below hq4 (Nat.le_refl _)
    go_wp2_with fail
    refine (toGraph_any _ _ _ hv4 hsmall).mono ?_
    rintro e w5 ⟨x5, rfl, hx5, hb5⟩
    obtain ⟨xa5, xc5, rfl⟩ := hx5.slice
    have hq5 := hq4.trans (hb5.mono hq4.size)
    have c5 := (hb5.cell (p := ⟨w.heap.size, 0, none⟩) (cell_lt c4)).trans c4
    have hlt5 := cell_lt c5
    have hb6 : Below w5.heap.size w5 (w5.alloc (.cells #[.slice xa5 g.length xc5] 35)) := (Below.refl _ _).alloc (Nat.le_refl _) _
    have hq6 := hq5.trans (hb6.mono hq5.size)
    go_wp2_with fail
    refine (toInt64S_any _ _ _ (hu.below hq6 (Nat.le_refl _)) hl).mono ?_
    rintro e w7 ⟨x7, rfl, hx7, hb7⟩
    have hq7 := hq6.trans (hb7.mono hq6.size)
    have c7 : w7.cell? ⟨w.heap.size, 0, none⟩ = some (.slice va g.length vc) := (hb7.cell (p := ⟨w.heap.size, 0, none⟩) (by have := cell_lt c5; simp at this ⊢; omega)).trans ((hb6.cell (p := ⟨w.heap.size, 0, none⟩) (cell_lt c5)).trans c5)
    have d7 : w7.cell? ⟨w5.heap.size, 0, none⟩ = some (.slice xa5 g.length xc5) := (hb7.cell (p := ⟨w5.heap.size, 0, none⟩) (by simp)).trans (by simp [go_sem])
    have hx57 := (hx5.below hb6 (Nat.le_refl _)).below hb7 (Nat.le_refl _)
    have hx7i := hx7.ints (by omega)
    have ht7 := ht.below hq7 (Nat.le_refl _)
    go_wp2_with fail
    refine (implModuleIn_any _ _ _ _ _ ht7 hx57 hx7i).mono ?_
    rintro e w8 ⟨rfl, hb8⟩
    have hq8 := hq7.trans (hb8.mono hq7.size)
    have c8 := (hb8.cell (p := ⟨w.heap.size, 0, none⟩) (cell_lt c7)).trans c7
    have d8 := (hb8.cell (p := ⟨w5.heap.size, 0, none⟩) (cell_lt d7)).trans d7
    have hv8 := (hv.below hq8 (Nat.le_refl _)).drew
    have hx8 := (hx57.below hb8 (Nat.le_refl _))
    have hx78 := hx7i.below hb8 (Nat.le_refl _)
    have htrue : decide (g = g) = true := by simp
    go_wp2
    refine wp_region_held_drew (S := (fun w' => w'.cell? ⟨w.heap.size, 0, none⟩ = some (.slice va g.length vc) ∧ w'.cell? ⟨w5.heap.size, 0, none⟩ = some (.slice xa5 g.length xc5))) (by kernel_rfl) ?_ (fun hHeld => ?_)
    · first | exact ⟨‹_›, ‹_›⟩ | (simp [*, go_sem])
    refine wpAnyH_take (i := 0) (v := ?v1) (by simp only [List.getElem?_toArray, List.getElem?_cons_succ, List.getElem?_cons_zero]; exact rfl) (by kernel_rfl) (by kernel_rfl) (by kernel_rfl) (by intro _ _ _ h; exact h) (Or.inl ⟨by rfl, ?y1⟩) hHeld ?_
    case y1 => (intro w hSw; (try dsimp only at hSw); go_simp; try (with_reducible rfl))
    try simp only [Act.put, List.setIfInBounds_toArray, List.set_cons_zero, List.set_cons_succ]
    refine wpAnyH_take (i := 1) (v := ?v2) (by simp only [List.getElem?_toArray, List.getElem?_cons_succ, List.getElem?_cons_zero]; exact rfl) (by kernel_rfl) (by kernel_rfl) (by kernel_rfl) (by intro _ _ _ h; exact h) (Or.inl ⟨by rfl, ?y2⟩) hHeld ?_
    case y2 => (intro w hSw; (try dsimp only at hSw); go_simp; try (with_reducible rfl))
    try simp only [Act.put, List.setIfInBounds_toArray, List.set_cons_zero, List.set_cons_succ]
    refine wpAnyH_ready (rs := [2]) (by kernel_rfl) (by simp) ?_
    refine AllReadyH.cons (by simp only [List.getElem?_toArray, List.getElem?_cons_succ, List.getElem?_cons_zero]; exact rfl) (fun K hK => ?_) AllReadyH.nil
    go_simp
    refine (toGraph_any _ _ _ hv8 hsmall).mono ?_
    rintro e w9 ⟨x9, rfl, hx9, hb9⟩
    have hb9' : Below w8.heap.size w8 w9 := ⟨hb9.os, hb9.tape, hb9.output, hb9.size, hb9.block⟩
    have hq9 := hq8.trans (hb9'.mono hq8.size)
    have c9 := (hb9'.cell (p := ⟨w.heap.size, 0, none⟩) (cell_lt c8)).trans c8
    have d9 := (hb9'.cell (p := ⟨w5.heap.size, 0, none⟩) (cell_lt d8)).trans d8
    have hx89 := hx8.below hb9' (Nat.le_refl _)
    have hx79 := hx78.below hb9' (Nat.le_refl _)
    try dsimp only
    refine hK.out _ _ ?h3 (fun hHeld => ?_)
    case h3 => first | exact ⟨‹_›, ‹_›⟩ | (simp [*, go_sem])
    clear hK K
    try simp only [Act.put, List.setIfInBounds_toArray, List.set_cons_zero, List.set_cons_succ]
    refine wpAnyH_ready (rs := [3]) (by kernel_rfl) (by simp) ?_
    refine AllReadyH.cons (by simp only [List.getElem?_toArray, List.getElem?_cons_succ, List.getElem?_cons_zero]; exact rfl) (fun K hK => ?_) AllReadyH.nil
    go_simp
    refine (eqGraph_any _ _ _ _ _ hx89 hx9).mono ?_
    rintro e w10 ⟨rfl, hb10⟩
    have hq10 := hq9.trans (hb10.mono hq9.size)
    have c10 := (hb10.cell (p := ⟨w.heap.size, 0, none⟩) (cell_lt c9)).trans c9
    have d10 := (hb10.cell (p := ⟨w5.heap.size, 0, none⟩) (cell_lt d9)).trans d9
    have hx710 := hx79.below hb10 (Nat.le_refl _)
    try dsimp only
    refine hK.out _ _ ?h4 (fun hHeld => ?_)
    case h4 => first | exact ⟨‹_›, ‹_›⟩ | (simp [*, go_sem])
    clear hK K
    try simp only [Act.put, List.setIfInBounds_toArray, List.set_cons_zero, List.set_cons_succ]
    refine wpAnyH_take (i := 4) (v := ?v5) (by simp only [List.getElem?_toArray, List.getElem?_cons_succ, List.getElem?_cons_zero]; exact rfl) (by kernel_rfl) (by kernel_rfl) (by kernel_rfl) (by intro _ _ _ h; exact h) (Or.inl ⟨by rfl, ?y5⟩) hHeld ?_
    case y5 => (intro w hSw; (try dsimp only at hSw); go_simp; try (with_reducible rfl))
    try simp only [Act.put, List.setIfInBounds_toArray, List.set_cons_zero, List.set_cons_succ]
    refine wpAnyH_done (by kernel_rfl) ?_ _
    have hu10 := hu.below hq10 (Nat.le_refl _)
    go_wp2_with fail
    refine (toInt64S_any _ _ _ hu10 hl).mono ?_
    rintro e w11 ⟨x11, rfl, hx11, hb11⟩
    have hq11 := hq10.trans (hb11.mono hq10.size)
    have hx711 := hx710.below hb11 (Nat.le_refl _)
    have hx11i := hx11.ints (by omega)
    have htrue2 : decide (s = s) = true := by simp
    go_wp2_with fail
    refine (eqInt64S_any _ _ _ _ _ hx711 hx11i).mono ?_
    rintro e w12 ⟨rfl, hd12⟩
    go_wp2
    go_ret
    exact ⟨rfl, hq11.trans (hd12.below _)⟩
  · go_enter Tryd.func4, Tryd.ntmps4
    go_wp2
    go_ret
    exact ⟨rfl, hb⟩
end Go.Proofs.YtakcoihndobmpaaDoor
