/- PartsOk of the program; the laws of trees of parts, walked. -/
import Derived.Test.YtakcoihndobmpaaDoorPartL
namespace Go.Proofs.YtakcoihndobmpaaDoor
open Go.RowKit
theorem small_len {t : List PNode} (h : SmallP t 1048576) : t.length ≤ 1048576 := by have := h.1; omega
theorem implPartsOk_any {S : Nat → Prop} {v : Value} {t : List PNode} {w : World} (ht : Tab w) (hv : SlP S w v t) (hn : t.length ≤ 1048576) :
    Calls Tryd.prog 13 #[v] w fun e w' => e = .returned (.bool (partsB t)) ∧ Below w.heap.size w w' := by
  go_enter Tryd.func13, Tryd.ntmps13
  go_wp2_with (go_at_call 37; refine (subtreeLeaves_any ht hv hn).mono ?_; rintro e w1 ⟨u, rfl, -, hb1⟩)
  go_ret
  exact ⟨rfl, hb1⟩
set_option maxHeartbeats 8000000 in
theorem lawPartsOk_any {S0 : Nat → Prop} (v0 : Value) (t0 : List PNode) (w : World) (ht : Tab w) (hv0 : SlP S0 w v0 t0) :
    Calls Tryd.prog 3 #[v0] w fun e w' => e = .returned (.bool true) ∧ Below w.heap.size w w' := by
  obtain ⟨a0, c0, rfl⟩ := hv0.slice
  have q0 : Below w.heap.size w w := Below.refl _ _
  go_enter Tryd.func3, Tryd.ntmps3
  go_wp2_with fail
  refine (szPartS_any _ _ _ _ (hv0.below q0 (Nat.le_refl _)) (by omega) (by omega)).mono ?_
  rintro e w1 ⟨r1, rfl, hr1, hs1, hm1, hb1⟩
  have q1 := q0.trans (hb1.mono q0.size)
  by_cases hneg1 : r1 < 0
  case pos =>
    go_wp2
    go_ret
    exact ⟨rfl, q1⟩
  have hsm0 : SmallP t0 1048576 := hm1 (by omega)
  go_wp2_with fail
  refine (toPartS_any _ _ _ (hv0.below q1 (Nat.le_refl _)) hsm0).mono ?_
  rintro e w2 ⟨x2, rfl, hy2, hb2⟩
  have q2 := q1.trans (hb2.mono q1.size)
  have y2_2 := hy2
  go_wp2_with fail
  refine (specPartsOk_any y2_2 (small_len hsm0)).mono ?_
  rintro e w3 ⟨rfl, hb3⟩
  have q3 := q2.trans (hb3.mono q2.size)
  have y2_3 := y2_2.below hb3 (Nat.le_refl _)
  go_wp2_with fail
  refine (toPartS_any _ _ _ (hv0.below q3 (Nat.le_refl _)) hsm0).mono ?_
  rintro e w4 ⟨x4, rfl, hy4, hb4⟩
  have q4 := q3.trans (hb4.mono q3.size)
  have y2_4 := y2_3.below hb4 (Nat.le_refl _)
  have y4_4 := hy4
  go_wp2_with fail
  refine (implPartsOk_any (ht.below q4 (Nat.le_refl _)) y4_4 (small_len hsm0)).mono ?_
  rintro e w5 ⟨rfl, hb5⟩
  have q5 := q4.trans (hb5.mono q4.size)
  have y2_5 := y2_4.below hb5 (Nat.le_refl _)
  have y4_5 := y4_4.below hb5 (Nat.le_refl _)
  go_wp2_with fail
  refine (toPartS_any _ _ _ (hv0.below q5 (Nat.le_refl _)) hsm0).mono ?_
  rintro e w6 ⟨x6, rfl, hy6, hb6⟩
  have q6 := q5.trans (hb6.mono q5.size)
  have y2_6 := y2_5.below hb6 (Nat.le_refl _)
  have y4_6 := y4_5.below hb6 (Nat.le_refl _)
  have y6_6 := hy6
  go_wp2_with fail
  refine (eqPartS_any _ _ _ _ _ y4_6 y6_6).mono ?_
  rintro e w7 ⟨rfl, hb7⟩
  have q7 := q6.trans (hb7.mono q6.size)
  have y2_7 := y2_6.below hb7 (Nat.le_refl _)
  have y4_7 := y4_6.below hb7 (Nat.le_refl _)
  have y6_7 := y6_6.below hb7 (Nat.le_refl _)
  go_wp2
  go_ret
  exact ⟨rfl, q7⟩
end Go.Proofs.YtakcoihndobmpaaDoor
