/- The law's test on the length of a code. -/
import Derived.Test.YtdbanndcdbikmaaGreatDoorBase
namespace Go.Proofs.YtdbanndcdbikmaaGreatDoor
open Go.RowKit
theorem big_any {S : Nat → Prop} {v : Value} {bs : List Int} {w : World} (hv : SlI S w .u8 v bs) : Calls Tryz.prog 5 #[v] w fun e w' => e = .returned (.bool (decide (4096 < bs.length))) ∧ w = w' := by
  obtain ⟨a, c, rfl⟩ := hv.slice
  have e : decide ((4096 : Int) < (bs.length : Int)) = decide (4096 < bs.length) := by rw [decide_eq_decide]; omega
  have HE := Lib.hid e
  clear e
  go_enter Tryz.func5, Tryz.ntmps5
  go_wp2
  go_ret
  exact ⟨ret_bool (by first | rfl | exact HE.out), rfl⟩
end Go.Proofs.YtdbanndcdbikmaaGreatDoor
