/- Is there a vertex, is there an edge? By the reference. -/
import Derived.Test.YtplohdnakllbiaaFit4
namespace Go.Proofs.Ytplohdnakllbiaa
open Go.RowKit
theorem l1There_any {S : Nat → Prop} {v : Value} {g : List (List Int)} {x : Int} {w : World} (hg : g.length ≤ 16) (hv : SlR S w v g) :
    Calls Try.prog 53 #[.agg #[v], .int .i64 x] w fun e w' => e = .returned (.bool (inB x 0 ((g.length : Int) - 1))) ∧ Below w.heap.size w w' := by
  have hq0 : Below w.heap.size w (w.alloc (.cells #[v] 31)) := (Below.refl _ _).alloc (Nat.le_refl _) _
  have hsz := l1Size_any (hv.below hq0 (Nat.le_refl _))
  have hw1 : IntKind.i64.wrap ((g.length : Int) - 1) = (g.length : Int) - 1 := IntWalk.i64_in _ (by omega)
  obtain ⟨va, vc, rfl⟩ := hv.slice
  go_enter Try.func53, Try.ntmps53
  go_wp2_with fail
  refine hsz.mono ?_
  rintro e w1 ⟨rfl, hb1⟩
  go_wp2_with (go_at_call 64; refine (l1In_any _ _ _ _).mono ?_; rintro e w' ⟨rfl, rfl⟩)
  go_ret
  exact ⟨rfl, hq0.trans (hb1.mono hq0.size)⟩
set_option maxHeartbeats 2000000 in
theorem edgeIn_any {S : Nat → Prop} {v : Value} {g : List (List Int)} {x y : Nat} {w : World} (hg : GOk g) (hv : SlR S w v g) (hx : x < g.length) (hy : y < g.length) :
    Calls Try.prog 21 #[.agg #[v], .int .i64 (x : Int), .int .i64 (y : Int)] w fun e w' => e = .returned (.bool (decide ((y : Int) ∈ g.getD x []))) ∧ Below w.heap.size w w' := by
  have h16 := hg.hi
  have hq0 : Below w.heap.size w (w.alloc (.cells #[v] 31)) := (Below.refl _ _).alloc (Nat.le_refl _) _
  obtain ⟨va, vc, rfl⟩ := hv.slice
  have hgb := fun (W : World) (hb : Below w.heap.size w W) => hv.below hb (Nat.le_refl _)
  have hgo := fun (W : World) (hb : Below w.heap.size w W) => specGraphOk_any _ _ W (hgb W hb)
  rw [gokB_true hg] at hgo
  have hth := fun (W : World) (hb : Below w.heap.size w W) (z : Int) => l1There_any (x := z) h16 (hgb W hb)
  have ht1 := fun (W : World) (hb : Below w.heap.size w W) => hth W hb (x : Int)
  have ht2 := fun (W : World) (hb : Below w.heap.size w W) => hth W hb (y : Int)
  rw [inB_true (show 0 ≤ (x : Int) ∧ (x : Int) ≤ (g.length : Int) - 1 by omega)] at ht1
  rw [inB_true (show 0 ≤ (y : Int) ∧ (y : Int) ≤ (g.length : Int) - 1 by omega)] at ht2
  have hed := fun (W : World) (hb : Below w.heap.size w W) => l1Edge_any (x := (y : Int)) (hgb W hb) hx
  clear hth hgb
  generalize decide ((y : Int) ∈ g.getD x []) = bb at *
  go_enter Try.func21, Try.ntmps21
  go_wp2_with fail
  refine (hgo _ hq0).mono ?_
  rintro e w1 ⟨rfl, hb1⟩
  have hq1 := hq0.trans (hb1.mono hq0.size)
  have c1 : w1.cell? ⟨w.heap.size, 0, none⟩ = some (.slice va g.length vc) := (hb1.cell (p := ⟨w.heap.size, 0, none⟩) (by simp)).trans (by simp [go_sem])
  go_wp2_with fail
  refine (ht1 _ hq1).mono ?_
  rintro e w2 ⟨rfl, hb2⟩
  have hq2 := hq1.trans (hb2.mono hq1.size)
  have c2 := (hb2.cell (cell_lt c1)).trans c1
  go_wp2_with fail
  refine (ht2 _ hq2).mono ?_
  rintro e w3 ⟨rfl, hb3⟩
  have hq3 := hq2.trans (hb3.mono hq2.size)
  have c3 := (hb3.cell (cell_lt c2)).trans c2
  go_wp2_with fail
  refine (hed _ hq3).mono ?_
  rintro e w4 ⟨rfl, hb4⟩
  go_wp2
  go_ret
  exact ⟨rfl, hq3.trans (hb4.mono hq3.size)⟩
end Go.Proofs.Ytplohdnakllbiaa
