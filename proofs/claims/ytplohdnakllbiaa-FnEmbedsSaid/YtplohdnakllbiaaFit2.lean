/- The first fit; all symmetries: the program's searches run. -/
import Derived.Test.YtplohdnakllbiaaFit
import Derived.Test.YtplohdnakllbiaaInto
import Derived.Lib.SliceRun
namespace Go.Proofs.Ytplohdnakllbiaa
open Go.RowKit

theorem Own.noneOrSome {w : World} {B : Nat} {E : TypeId} {size : Nat} {v : Value} {n : Nat} {xs : List Value} (h : Own w B E size v n xs) : (v = .slice none 0 0 ∧ n = 0) ∨ ∃ g c, v = .slice (some ⟨g, 0, none⟩) n c := by
  rcases h.2 with ⟨rfl, rfl⟩ | ⟨g, cap, cur, rfl, _⟩
  · exact .inl ⟨rfl, rfl⟩
  · exact .inr ⟨g, cap, rfl⟩
theorem own_cell {w : World} {B : Nat} {E : TypeId} {b : Nat} {v : Value} (h : Own w B E 1 (.slice (some ⟨b, 0, none⟩) 1 1) 1 [v]) : w.cell? ⟨b, 0, none⟩ = some v ∧ w.frozen? ⟨b, 0, none⟩ = false ∧ B ≤ b ∧ b < w.heap.size :=
  ⟨World.ownsRow.cellAt h 0 (by omega), World.ownsRow.frozenAt h 0, (h.lt b rfl).1, (h.lt b rfl).2⟩
theorem run_enter {P : Program} {f : FuncId} {fn : Func} {c : Code} (hf : P.funcs[f]? = some fn) (hname : (fn.name == "runtime.NumGoroutine") = false) (hb : fn.body = some c) (args : Array Value) (w : World) :
    (callFunc f args).run P w = .ok (.enter f args) w := by
  have h1 : fn.name ≠ "runtime.NumGoroutine" := by simpa using hname
  simp [callFunc, hf, h1, hb]
theorem own_new (w : World) (B : Nat) (E : TypeId) (v : Value) (hB : B ≤ w.heap.size) : Own (w.alloc (.cells #[v] E)) B E 1 (.slice (some ⟨w.heap.size, 0, none⟩) 1 1) 1 [v] :=
  World.ownsRow_lit (base := B) (e := E) (size := 1) w #[v] 1 hB (by unfold maxLen; omega) rfl
theorem own_set {w : World} {B : Nat} {E : TypeId} {b : Nat} {v : Value} (h : Own w B E 1 (.slice (some ⟨b, 0, none⟩) 1 1) 1 [v]) (u : Value) : Own (w.setCell ⟨b, 0, none⟩ u) B E 1 (.slice (some ⟨b, 0, none⟩) 1 1) 1 [u] := by
  have := h.stored 0 u; simpa using this
theorem nilInts : ∀ (w : World) (a : Option Addr) (n c n' c' : Nat), (binOp .eql 59 (.slice a n c) (.slice none n' c')).run Try.prog w = .ok (.bool a.isNone) w := fun w a n c n' c' => Lib.run_eql_slice_nil w _ _ a n c n' c' Try.underlying59
set_option maxHeartbeats 1000000 in
theorem cloneI_any {B : Nat} {v : Value} {n : Nat} {xs : List Int} {w : World} (hv : Own w B 3 1 v n (xs.map (.int .i64))) (hn : n ≤ 1048576) :
    Calls Try.prog 81 #[v] w fun e w' => ∃ u, e = .returned u ∧ Own w' w.heap.size 3 1 u n (xs.map (.int .i64)) ∧ Below w.heap.size w w' := by
  have hln : xs.length = n := by have := hv.1; simpa using this
  have q := nilInts
  rcases hv.noneOrSome with ⟨rfl, rfl⟩ | ⟨g, c, rfl⟩
  · have hx : xs = [] := List.eq_nil_of_length_eq_zero hln
    subst hx
    go_enter Try.func81, Try.ntmps81
    go_wp2
    go_ret
    exact ⟨_, rfl, Own.nil _ _ _ _, Below.refl _ _⟩
  · have hq0 : Below w.heap.size w (w.alloc (.cells #[] 3)) := (Below.refl _ _).alloc (Nat.le_refl _) _
    have hi := (hv.ints (by omega)).below hq0 (Nat.le_refl _)
    obtain ⟨a, b, off, cap, he, hl, ha, hc⟩ := hi
    have hown : Own (w.alloc (.cells #[] 3)) w.heap.size 3 1 (.slice (some ⟨w.heap.size, 0, none⟩) 0 0) 0 [] := World.ownsRow_lit (base := w.heap.size) (e := 3) (size := 1) w #[] 0 (Nat.le_refl _) (by unfold maxLen; omega) rfl
    by_cases h0 : n = 0
    · subst h0
      have hx : xs = [] := List.eq_nil_of_length_eq_zero hln
      subst hx
      go_enter Try.func81, Try.ntmps81
      go_wp2_with (at_builtin; refine wpList_append0 elInt rfl _ _ rfl hown rfl rfl ?_)
      go_ret
      exact ⟨_, rfl, hown, hq0⟩
    · simp only [Value.slice.injEq] at he
      obtain ⟨rfl, he2, rfl⟩ := he
      have ha2 := (ha (by omega)).1
      simp only [Option.some.injEq, Addr.mk.injEq, and_true] at ha2
      obtain ⟨rfl, rfl⟩ := ha2
      have hnews := hc.news
      clear he2
      go_enter Try.func81, Try.ntmps81
      go_wp2_with (at_builtin; refine wpList_append elInt rfl _ _ rfl hown rfl (news := xs.map (.int .i64)) rfl (by simp [hln]) hnews ints_one (by omega) (by simp) ?_; intro v' w1 hown1 hgr hmv; have hq1 := (KeptBut.of_grown hgr).below hq0 (by simp) hown.ge)
      go_ret
      refine ⟨_, rfl, ?_, hq1⟩
      simpa using hown1
/-- What the first fit keeps: the found path's variable. -/
def FitSt (E E1 : TypeId) (cb B : Nat) (F : Nat → Prop) (s : Option (List Nat)) (w : World) : Prop :=
  ∃ fv, Own w B E1 1 (.slice (some ⟨cb, 0, none⟩) 1 1) 1 [fv] ∧ Own w B E 1 fv (s.getD []).length ((natsI (s.getD [])).map (.int .i64)) ∧ (s = none → fv = .slice none 0 0) ∧ (∀ b, fv.ownBlock = some b → b ≠ cb ∧ F b) ∧ F cb
set_option maxHeartbeats 1000000 in
theorem eachFit (cb B : Nat) : EachC Try.prog 80 cb B 3 (FitSt 3 59 cb B) fitEf := by
  refine ⟨?_, ?_, ?_⟩
  · intro F s pv p w hst hown hpF hFl hB hp _
    obtain ⟨fv, h1, h2, h3, h4, h5⟩ := hst
    obtain ⟨c1, f1, hB1, hl1⟩ := own_cell h1
    have hcl := cloneI_any hown (by omega)
    go_enter Try.func80, Try.ntmps80
    go_wp2_with fail
    refine hcl.mono ?_
    rintro e w1 ⟨u, rfl, hu, hb1⟩
    have h1' := h1.below hb1 (Nat.le_refl _)
    obtain ⟨d1, g1, -, hl2⟩ := own_cell h1'
    obtain ⟨ua, uc, rfl⟩ := hu.isSlice
    have hge := hu.ge
    have hlt := hu.lt
    clear c1 f1
    go_wp2
    go_ret
    refine ⟨fun b => b = cb ∨ (Value.slice ua p.length uc).ownBlock = some b, rfl, ⟨_, own_set h1' _, (hu.weak hB).keep (fun k hk => Below.heap_setCell _ _ _ _ (by have := hge k hk; simp; omega)), (fun h => by simp [fitEf] at h), (fun b hb => ⟨by have := hge b hb; omega, .inr hb⟩), .inl rfl⟩, fun b hb => ?_, fun b hb => ?_, ?_⟩
    · rcases hb with rfl | hb
      · exact .inl h5
      · exact .inr (hge b hb)
    · rcases hb with rfl | hb
      · simp; omega
      · have := (hlt b hb).2; simp; omega
    · exact ⟨hb1.os, hb1.tape, hb1.output, by simpa using hb1.size, fun b hb hf => (Below.heap_setCell _ _ _ _ (by simp; intro e; subst e; exact hf h5)).trans (hb1.block b hb)⟩
  · intro args w
    exact run_enter Try.func80 (by kernel_rfl) rfl args w
  · intro F s w w' hst hk
    obtain ⟨fv, h1, h2, h3, h4, h5⟩ := hst
    exact ⟨fv, h1.keep (fun k hk2 => hk k (by (have : cb = k := by simpa [Value.ownBlock] using hk2); rw [← this]; exact h5)), h2.keep (fun k hk2 => hk k (h4 k hk2).2), h3, h4, h5⟩
end Go.Proofs.Ytplohdnakllbiaa
