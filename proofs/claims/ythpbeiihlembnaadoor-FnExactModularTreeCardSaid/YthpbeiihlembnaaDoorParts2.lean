/- A slice of nodes, copied by the laws. -/
import Derived.Test.YthpbeiihlembnaaDoorParts
namespace Go.Proofs.YthpbeiihlembnaaDoor
open Go.RowKit
def zPart : Value := .agg #[.int .i64 0, .int .i64 0, .slice none 0 0]
theorem elParts : Elem Tryd.prog 53 126 3 40 zPart := ⟨Tryd.underlying53, by kernel_rfl, rfl, by omega, by omega⟩
theorem make_parts (n : Nat) (hn : n ≤ 1048576) (w : World) : (Instr.makeSlice 53 (.int .i64 (n : Int)) (.int .i64 (n : Int))).run Tryd.prog w = .ok (.slice (some ⟨w.heap.size, 0, none⟩) n n) (w.alloc (.cells (madeCells zPart.cells (n * 3)) 126)) := by
  obtain ⟨i, hi, hzz⟩ := Option.map_eq_some_iff.1 elParts.hi
  simp only [Prod.mk.injEq] at hzz
  obtain ⟨hz, hs, hb⟩ := hzz
  have := run_make (P := Tryd.prog) (w := w) 53 126 i zPart elParts.ht hi hz .i64 .i64 n n (by omega) (Int.le_refl _) (by rw [hb]; omega) (by omega)
  simpa [hs] using this
