/- The first fit; all symmetries: the program's searches run. -/
import Derived.Test.YtpdlcnpmljfclaaDoorFit
import Derived.Test.YtpdlcnpmljfclaaDoorInto2
import Derived.Lib.SliceRun
namespace Go.Proofs.YtpdlcnpmljfclaaDoor
open Go.RowKit

theorem Own.noneOrSome {w : World} {B : Nat} {E : TypeId} {size : Nat} {v : Value} {n : Nat} {xs : List Value} (h : Own w B E size v n xs) : (v = .slice none 0 0 ∧ n = 0) ∨ ∃ g c, v = .slice (some ⟨g, 0, none⟩) n c := by
  rcases h.2 with ⟨rfl, rfl⟩ | ⟨g, cap, cur, rfl, _⟩
  · exact .inl ⟨rfl, rfl⟩
  · exact .inr ⟨g, cap, rfl⟩
theorem own_cell {w : World} {B : Nat} {E : TypeId} {b : Nat} {v : Value} (h : Own w B E 1 (.slice (some ⟨b, 0, none⟩) 1 1) 1 [v]) : w.cell? ⟨b, 0, none⟩ = some v ∧ w.frozen? ⟨b, 0, none⟩ = false ∧ B ≤ b ∧ b < w.heap.size :=
  ⟨World.ownsRow.cellAt h 0 (by omega), World.ownsRow.frozenAt h 0, (h.lt b rfl).1, (h.lt b rfl).2⟩
theorem run_enter {P : Program} {f : FuncId} {fn : Func} {c : Code} (hf : P.funcs[f]? = some fn) (hname : (fn.name == "runtime.NumGoroutine") = false) (hb : fn.body = some c) (args : Array Value) (w : World) :
    (callFunc f args).run P w = .ok (.enter f args) w := by
  have h1 : fn.name ≠ "runtime.NumGoroutine" := by simpa using hname
  simp [callFunc, hf, h1, hb]
theorem own_new (w : World) (B : Nat) (E : TypeId) (v : Value) (hB : B ≤ w.heap.size) : Own (w.alloc (.cells #[v] E)) B E 1 (.slice (some ⟨w.heap.size, 0, none⟩) 1 1) 1 [v] :=
  World.ownsRow_lit (base := B) (e := E) (size := 1) w #[v] 1 hB (by unfold maxLen; omega) rfl
theorem own_set {w : World} {B : Nat} {E : TypeId} {b : Nat} {v : Value} (h : Own w B E 1 (.slice (some ⟨b, 0, none⟩) 1 1) 1 [v]) (u : Value) : Own (w.setCell ⟨b, 0, none⟩ u) B E 1 (.slice (some ⟨b, 0, none⟩) 1 1) 1 [u] := by
  have := h.stored 0 u; simpa using this
