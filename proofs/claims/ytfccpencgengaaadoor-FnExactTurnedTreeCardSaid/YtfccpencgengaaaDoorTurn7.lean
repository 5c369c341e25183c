/- TurnedTree: the law. -/
import Derived.Test.YtfccpencgengaaaDoorTurn6
namespace Go.Proofs.YtfccpencgengaaaDoor
open Go.RowKit
set_option maxRecDepth 100000 in
set_option maxHeartbeats 16000000 in
theorem lawTurnedTree_any {S0 : Nat → Prop} (v0 : Value) (t0 : List PNode) (w : World) (ht : Tab w) (hv0 : SlP S0 w v0 t0) :
    Calls Tryd.prog 9 #[v0] w fun e w' => e = .returned (.bool true) ∧ Below w.heap.size w w' := by
  obtain ⟨a0, c0, rfl⟩ := hv0.slice
  go_enter Tryd.func9, Tryd.ntmps9
  go_wp2_with fail
  refine (szPartS_any _ _ _ _ hv0 (by omega) (by omega)).mono ?_
  rintro e w1 ⟨r1, rfl, hr1, hs1, hm1, q1⟩
  by_cases hneg : r1 < 0
  case pos =>
    go_wp2
    go_ret
    exact ⟨rfl, q1⟩
  have hsm : SmallP t0 1048576 := hm1 (by omega)
  have hsl := turnL_small hsm
  clear hr1 hs1 hm1
  go_wp2_with fail
  refine (toPartSO_any (hv0.below q1 (Nat.le_refl _)) hsm).mono ?_
  rintro e w2 ⟨x2, rfl, y2, hb2⟩
  have q2 := q1.trans (hb2.mono q1.size)
  go_wp2_with fail
  refine (specTurnedTree_any (y2.parts hsm) hsm).mono ?_
  rintro e w3 ⟨s0, rfl, s3, hb3⟩
  have q3 := q2.trans (hb3.mono q2.size)
  clear y2
  go_wp2_with fail
  refine (toPartSO_any (hv0.below q3 (Nat.le_refl _)) hsm).mono ?_
  rintro e w4 ⟨x0, rfl, y4, hb4⟩
  have q4 := q3.trans (hb4.mono q3.size)
  have s4 := s3.below hb4 (Nat.le_refl _)
  go_wp2_with fail
  refine (implTurnedTree_any (ht.below q4 (Nat.le_refl _)) (y4.parts hsm) hsm).mono ?_
  rintro e w5 ⟨g0, rfl, g5, hb5⟩
  have q5 := q4.trans (hb5.mono q4.size)
  have s5 := s4.below hb5 (Nat.le_refl _)
  have y5 := y4.below hb5 (Nat.le_refl _)
  go_wp2_with fail
  refine (eqP_same (g5.parts hsl) (s5.parts hsl)).mono ?_
  rintro e w6 ⟨rfl, hb6⟩
  have q6 := q5.trans (hb6.mono q5.size)
  have s6 := s5.below hb6 (Nat.le_refl _)
  have y6 := y5.below hb6 (Nat.le_refl _)
  have g6 := g5.below hb6 (Nat.le_refl _)
  go_wp2_with fail
  refine (toPartSO_any (hv0.below q6 (Nat.le_refl _)) hsm).mono ?_
  rintro e w7 ⟨x7, rfl, y7, hb7⟩
  have q7 := q6.trans (hb7.mono q6.size)
  have s7 := s6.below hb7 (Nat.le_refl _)
  have x07 := y6.below hb7 (Nat.le_refl _)
  have g7 := g6.below hb7 (Nat.le_refl _)
  go_wp2_with fail
  refine (eqP_same (x07.parts hsm) (y7.parts hsm)).mono ?_
  rintro e w8 ⟨rfl, hb8⟩
  have q8 := q7.trans (hb8.mono q7.size)
  have s8 := s7.below hb8 (Nat.le_refl _)
  have x08 := x07.below hb8 (Nat.le_refl _)
  have g8 := g7.below hb8 (Nat.le_refl _)
  have z34 := hb4.size
  have z3 := q3.size
  have z45 := hb5.size
  clear s3 s4 s5 s6 s7 y4 y5 y6 x07 g5 g6 g7 y7
  go_wp2_with fail
  refine (markP_any x08 hsm (k := 1) (by omega) (by omega)).mono ?_
  rintro e w9 ⟨rfl, x09, ht9⟩
  have q9 := ht9.below q8 (by omega) q8.size
  have s9 := s8.between ht9 (by omega)
  have g9 := g8.between ht9 (by omega)
  have hk9 : ¬ (1 + (sizeP t0 : Int)) < 0 := by omega
  clear s8 x08 g8
  go_wp2_with fail
  refine (eqP_same (g9.parts hsl) (s9.parts hsl)).mono ?_
  rintro e w10 ⟨rfl, hb10⟩
  have q10 := q9.trans (hb10.mono q9.size)
  have s10 := s9.below hb10 (Nat.le_refl _)
  have g10 := g9.below hb10 (Nat.le_refl _)
  go_wp2_with fail
  refine (markP_any g10 hsl (k := 1) (by omega) (by omega)).mono ?_
  rintro e w11 ⟨rfl, g11, ht11⟩
  have q11 := ht11.below q10 (by omega) q10.size
  have s11 := s10.between ht11 (by omega)
  have hk11 : ¬ (1 + (sizeP (turnL t0) : Int)) < 0 := by omega
  clear s9 s10 g9 g10
  go_wp2_with fail
  refine (heldP_any (g11.parts (markP_small hsl)) hsl (k := 1) (by omega) (by omega)).mono ?_
  rintro e w12 ⟨rfl, hb12⟩
  have q12 := q11.trans (hb12.mono q11.size)
  have s12 := s11.below hb12 (Nat.le_refl _)
  have g12 := g11.below hb12 (Nat.le_refl _)
  go_wp2_with fail
  refine (toPartSO_any (hv0.below q12 (Nat.le_refl _)) hsm).mono ?_
  rintro e w13 ⟨x13, rfl, y13, hb13⟩
  have q13 := q12.trans (hb13.mono q12.size)
  have s13 := s12.below hb13 (Nat.le_refl _)
  have g13 := g12.below hb13 (Nat.le_refl _)
  go_wp2_with fail
  refine (implTurnedTree_any (ht.below q13 (Nat.le_refl _)) (y13.parts hsm) hsm).mono ?_
  rintro e w14 ⟨h0, rfl, h14, hb14⟩
  have q14 := q13.trans (hb14.mono q13.size)
  have s14 := s13.below hb14 (Nat.le_refl _)
  have g14 := g13.below hb14 (Nat.le_refl _)
  go_wp2_with fail
  refine (eqP_same (h14.parts hsl) (s14.parts hsl)).mono ?_
  rintro e w15 ⟨rfl, hb15⟩
  have q15 := q14.trans (hb15.mono q14.size)
  have g15 := g14.below hb15 (Nat.le_refl _)
  go_wp2_with fail
  refine (heldP_any (g15.parts (markP_small hsl)) hsl (k := 1) (by omega) (by omega)).mono ?_
  rintro e w16 ⟨rfl, hb16⟩
  have q16 := q15.trans (hb16.mono q15.size)
  go_wp2
  go_ret
  exact ⟨rfl, q16⟩
end Go.Proofs.YtfccpencgengaaaDoor
