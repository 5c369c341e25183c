/- The first fit; all symmetries: the program's searches run. -/
import Derived.Test.YtgkkgagnoeedaaaDoorFit
import Derived.Test.YtgkkgagnoeedaaaDoorInto
import Derived.Lib.SliceRun
namespace Go.Proofs.YtgkkgagnoeedaaaDoor
open Go.RowKit

theorem Own.noneOrSome {w : World} {B : Nat} {E : TypeId} {size : Nat} {v : Value} {n : Nat} {xs : List Value} (h : Own w B E size v n xs) : (v = .slice none 0 0 ∧ n = 0) ∨ ∃ g c, v = .slice (some ⟨g, 0, none⟩) n c := by
  rcases h.2 with ⟨rfl, rfl⟩ | ⟨g, cap, cur, rfl, _⟩
  · exact .inl ⟨rfl, rfl⟩
  · exact .inr ⟨g, cap, rfl⟩
theorem own_cell {w : World} {B : Nat} {E : TypeId} {b : Nat} {v : Value} (h : Own w B E 1 (.slice (some ⟨b, 0, none⟩) 1 1) 1 [v]) : w.cell? ⟨b, 0, none⟩ = some v ∧ w.frozen? ⟨b, 0, none⟩ = false ∧ B ≤ b ∧ b < w.heap.size :=
  ⟨World.ownsRow.cellAt h 0 (by omega), World.ownsRow.frozenAt h 0, (h.lt b rfl).1, (h.lt b rfl).2⟩
theorem run_enter {P : Program} {f : FuncId} {fn : Func} {c : Code} (hf : P.funcs[f]? = some fn) (hname : (fn.name == "runtime.NumGoroutine") = false) (hb : fn.body = some c) (args : Array Value) (w : World) :
    (callFunc f args).run P w = .ok (.enter f args) w := by
  have h1 : fn.name ≠ "runtime.NumGoroutine" := by simpa using hname
  simp [callFunc, hf, h1, hb]
theorem own_new (w : World) (B : Nat) (E : TypeId) (v : Value) (hB : B ≤ w.heap.size) : Own (w.alloc (.cells #[v] E)) B E 1 (.slice (some ⟨w.heap.size, 0, none⟩) 1 1) 1 [v] :=
  World.ownsRow_lit (base := B) (e := E) (size := 1) w #[v] 1 hB (by unfold maxLen; omega) rfl
theorem own_set {w : World} {B : Nat} {E : TypeId} {b : Nat} {v : Value} (h : Own w B E 1 (.slice (some ⟨b, 0, none⟩) 1 1) 1 [v]) (u : Value) : Own (w.setCell ⟨b, 0, none⟩ u) B E 1 (.slice (some ⟨b, 0, none⟩) 1 1) 1 [u] := by
  have := h.stored 0 u; simpa using this
theorem nilInts : ∀ (w : World) (a : Option Addr) (n c n' c' : Nat), (binOp .eql 84 (.slice a n c) (.slice none n' c')).run Tryd.prog w = .ok (.bool a.isNone) w := fun w a n c n' c' => Lib.run_eql_slice_nil w _ _ a n c n' c' Tryd.underlying84
set_option maxHeartbeats 1000000 in
theorem cloneI_any {B : Nat} {v : Value} {n : Nat} {xs : List Int} {w : World} (hv : Own w B 3 1 v n (xs.map (.int .i64))) (hn : n ≤ 1048576) :
    Calls Tryd.prog 187 #[v] w fun e w' => ∃ u, e = .returned u ∧ Own w' w.heap.size 3 1 u n (xs.map (.int .i64)) ∧ Below w.heap.size w w' := by
  have hln : xs.length = n := by have := hv.1; simpa using this
  have q := nilInts
  rcases hv.noneOrSome with ⟨rfl, rfl⟩ | ⟨g, c, rfl⟩
  · have hx : xs = [] := List.eq_nil_of_length_eq_zero hln
    subst hx
    go_enter Tryd.func187, Tryd.ntmps187
    go_wp2
    go_ret
    exact ⟨_, rfl, Own.nil _ _ _ _, Below.refl _ _⟩
  · have hq0 : Below w.heap.size w (w.alloc (.cells #[] 3)) := (Below.refl _ _).alloc (Nat.le_refl _) _
    have hi := (hv.ints (by omega)).below hq0 (Nat.le_refl _)
    obtain ⟨a, b, off, cap, he, hl, ha, hc⟩ := hi
    have hown : Own (w.alloc (.cells #[] 3)) w.heap.size 3 1 (.slice (some ⟨w.heap.size, 0, none⟩) 0 0) 0 [] := World.ownsRow_lit (base := w.heap.size) (e := 3) (size := 1) w #[] 0 (Nat.le_refl _) (by unfold maxLen; omega) rfl
    by_cases h0 : n = 0
    · subst h0
      have hx : xs = [] := List.eq_nil_of_length_eq_zero hln
      subst hx
      go_enter Tryd.func187, Tryd.ntmps187
      go_wp2_with (at_builtin; refine wpList_append0 elInt rfl _ _ rfl hown rfl rfl ?_)
      go_ret
      exact ⟨_, rfl, hown, hq0⟩
    · simp only [Value.slice.injEq] at he
      obtain ⟨rfl, he2, rfl⟩ := he
      have ha2 := (ha (by omega)).1
      simp only [Option.some.injEq, Addr.mk.injEq, and_true] at ha2
      obtain ⟨rfl, rfl⟩ := ha2
      have hnews := hc.news
      clear he2
      go_enter Tryd.func187, Tryd.ntmps187
      go_wp2_with (at_builtin; refine wpList_append elInt rfl _ _ rfl hown rfl (news := xs.map (.int .i64)) rfl (by simp [hln]) hnews ints_one (by omega) (by simp) ?_; intro v' w1 hown1 hgr hmv; have hq1 := (KeptBut.of_grown hgr).below hq0 (by simp) hown.ge)
      go_ret
      refine ⟨_, rfl, ?_, hq1⟩
      simpa using hown1
