/- PlanarBy of both sides; the law. -/
import Derived.Test.YtdbanndcdbikmaaGreatDoorGroM
import Derived.Test.YtdbanndcdbikmaaGreatDoorGenC
import Derived.Test.YtdbanndcdbikmaaGreatDoorGenD
namespace Go.Proofs.YtdbanndcdbikmaaGreatDoor
open Go.RowKit
noncomputable def planB (g r : List (List Int)) : Bool := aroundB g r && decide (twiceI (tOf r) = 0)
theorem aro_irr {g r : List (List Int)} (h : AroundP g r) : ∀ u, u ∉ (tOf r).getD u [] := fun u hu => by
  have hm := (aro_mem h u u).1 hu
  by_cases hl : u < g.length
  · rw [show g.getD u [] = g[u] by simp [hl]] at hm
    exact h.gok.irrefl u hl hm
  · rw [show g.getD u [] = [] by simp [hl]] at hm
    simp at hm
theorem plan_genus {g r : List (List Int)} : planB g r = decide (genusI g r = 0) := by
  unfold planB genusI
  by_cases ha : aroundB g r = true
  · rw [ha, Bool.true_and, if_pos rfl, decide_eq_decide]
    have hP := around_iff.1 ha
    have hev := twice_even (aro_rot hP) (aro_irr hP)
    generalize twiceI (tOf r) = z at *
    constructor
    · rintro rfl; rfl
    · intro h
      rcases Int.le_total 0 z with h0 | h0
      · rw [Int.tdiv_eq_ediv_of_nonneg h0] at h; omega
      · obtain ⟨y, rfl⟩ : ∃ y, z = -y := ⟨-z, by omega⟩
        rw [Int.neg_tdiv, Int.tdiv_eq_ediv_of_nonneg (by omega)] at h; omega
  · rw [if_neg ha]
    have : aroundB g r = false := by simpa using ha
    rw [this]; rfl
set_option maxHeartbeats 4000000 in
theorem implPlanarBy_any {S S' : Nat → Prop} {gv rv : Value} {g r : List (List Int)} {w : World} (htab : Tab w) (hvg : SlR S w gv g) (hvr : SlR S' w rv r) (hs : SmallR r 1048576) :
    Calls Tryz.prog 15 #[.agg #[gv], .agg #[rv]] w fun e w' => e = .returned (.bool (planB g r)) ∧ Below w.heap.size w w' := by
  have hq0 : Below w.heap.size w ((w.alloc (.cells #[gv] 26)).alloc (.cells #[rv] 28)) := ((Below.refl _ _).alloc (Nat.le_refl _) _).alloc (by simp) _
  obtain ⟨ga, gc, rfl⟩ := hvg.slice
  obtain ⟨ra, rc, rfl⟩ := hvr.slice
  have hge := implGenusOf_any (htab.below hq0 (Nat.le_refl _)) (hvg.below hq0 (Nat.le_refl _)) (hvr.below hq0 (Nat.le_refl _)) hs
  have HE := Lib.hid (show planB g r = decide (genusI g r = 0) from plan_genus)
  generalize genusI g r = z at *
  have HZ := Lib.hid (show (z == 0) = decide (z = 0) by rw [Bool.eq_iff_iff, beq_iff_eq, decide_eq_true_eq])
  go_enter Tryz.func15, Tryz.ntmps15
  go_wp2_with (go_at_call 9; refine hge.mono ?_; rintro e w1 ⟨rfl, hb1⟩)
  go_ret
  exact ⟨ret_bool (by rw [HE.out]; first | exact HZ.out | rfl | simp), hq0.trans (hb1.mono hq0.size)⟩
