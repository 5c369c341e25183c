/- The program's has: whether a set has a vertex. -/
import Derived.Test.YtmcaccacdbcnmaaDoorBits
import Derived.Test.YtmcaccacdbcnmaaDoorMod3
namespace Go.Proofs.YtmcaccacdbcnmaaDoor
open Go.RowKit
def shrH (m v : Nat) : Nat := m / 2 ^ v
def bitOfH (m v : Nat) : Nat := shrH m v % 2
theorem bitOfH_test (m v : Nat) : (((bitOfH m v : Nat) : Int) == 1) = m.testBit v := by
  have h := Nat.testBit_eq_decide_div_mod_eq (x := m) (i := v)
  rw [h]
  unfold bitOfH shrH
  by_cases h1 : m / 2 ^ v % 2 = 1
  · simp [h1]
  · have : m / 2 ^ v % 2 = 0 := by omega
    simp [this]
theorem hasV_any (m v : Nat) (w : World) (hm : m < 4294967296) (hv : v < 32) : Calls Tryd.prog 41 #[.int .u32 (m : Int), .int .i64 (v : Int)] w fun e w' => e = .returned (.bool (m.testBit v)) ∧ w = w' := by
  have he : ((m : Int) / (2 : Int) ^ v) = ((shrH m v : Nat) : Int) := by rw [pow_int]; rfl
  have hs : shrH m v < 4294967296 := Nat.lt_of_le_of_lt (Nat.div_le_self _ _) hm
  have ha := u32_and_nat (shrH m v) 1 hs (by omega)
  rw [Nat.and_one_is_mod, show shrH m v % 2 = bitOfH m v from rfl] at ha
  have hb := bitOfH_test m v
  have ha' : bits BinOp.and IntKind.u32 (shrH m v : Int) 1 = (bitOfH m v : Int) := ha
  clear ha hs
  have HB := Lib.hid hb; clear hb
  go_enter Tryd.func41, Tryd.ntmps41
  go_wp2
  go_ret
  exact ⟨ret_bool HB.out, rfl⟩
end Go.Proofs.YtmcaccacdbcnmaaDoor
