/- The program's isVertex. -/
import Derived.Test.YtmcaccacdbcnmaaDoorSets
import Derived.Test.YtmcaccacdbcnmaaDoorBits
namespace Go.Proofs.YtmcaccacdbcnmaaDoor
open Go.RowKit
theorem isVtx_any {S : Nat → Prop} {v : Value} {g : List (List Int)} {x : Int} {w : World} (hv : SlR S w v g) :
    Calls Tryd.prog 38 #[.agg #[v], .int .i64 x] w fun e w' => e = .returned (.bool (gokB g && inB x 0 ((g.length : Int) - 1))) ∧ Below w.heap.size w w' := by
  have hq0 : Below w.heap.size w (w.alloc (.cells #[v] 28)) := (Below.refl _ _).alloc (Nat.le_refl _) _
  obtain ⟨va, vc, rfl⟩ := hv.slice
  have hgo := implGraphOk_any _ _ _ (hv.below hq0 (Nat.le_refl _))
  by_cases hgg : gokB g = true
  case neg =>
    have hgg' : gokB g = false := by simpa using hgg
    rw [hgg'] at hgo ⊢
    clear hgg hgg'
    go_enter Tryd.func38, Tryd.ntmps38
    go_wp2_with (go_at_call 61; refine hgo.mono ?_; rintro e w1 ⟨rfl, hb1⟩)
    go_ret
    exact ⟨ret_bool (by simp), hq0.trans (hb1.mono hq0.size)⟩
  have h16 := (gokB_iff.1 hgg).hi
  rw [hgg] at hgo ⊢
  clear hgg
  go_enter Tryd.func38, Tryd.ntmps38
  go_wp2_with (first | (go_at_call 61; refine hgo.mono ?_; rintro e w1 ⟨rfl, hb1⟩; have cg : w1.cell? ⟨w.heap.size, 0, none⟩ = some (.slice va g.length vc) := (hb1.cell (p := ⟨w.heap.size, 0, none⟩) (by simp)).trans (by simp [go_sem])) | (go_at_call 73; refine (inRange_any x 0 ((g.length : Int) - 1) _).mono ?_; rintro e w' ⟨rfl, rfl⟩))
  go_ret
  exact ⟨ret_bool (by simp), hq0.trans (hb1.mono hq0.size)⟩
end Go.Proofs.YtmcaccacdbcnmaaDoor
