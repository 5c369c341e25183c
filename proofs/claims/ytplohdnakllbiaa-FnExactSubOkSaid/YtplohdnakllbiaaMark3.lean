/- What a law with slices as results does with them, in one form. -/
import Derived.Test.YtplohdnakllbiaaMark2
namespace Go.Proofs.Ytplohdnakllbiaa
open Go.RowKit
theorem Between.cell {B C : Nat} {w w' : World} (h : Between B C w w') {p : Addr} (hp : p.block < w.heap.size) (hB : p.block < B ∨ C ≤ p.block) : w'.cell? p = w.cell? p := World.cell?_of_block (h.block _ hp hB)
theorem OwnR.isSlice {w : World} {B C : Nat} {EO EI : TypeId} {u : Value} {g : List (List Int)} (h : OwnR w B C EO EI u g) : ∃ a c, u = .slice a g.length c := by
  obtain ⟨vs, h1, h2, _⟩ := h
  exact h2.isSlice
theorem OwnR.weaken {w : World} {B C B1 C1 : Nat} {EO EI : TypeId} {u : Value} {g : List (List Int)} (h : OwnR w B C EO EI u g) (hB : B1 ≤ B) (hC : C ≤ C1) : OwnR w B1 C1 EO EI u g := by
  obtain ⟨vs, h1, h2, h3, hap, h4⟩ := h
  exact ⟨vs, h1, h2.weak hB, fun b hb => Nat.lt_of_lt_of_le (h3 b hb) hC, hap, fun i hi hi2 => ⟨(h4 i hi hi2).1.weak hB, fun b hb => ⟨Nat.lt_of_lt_of_le ((h4 i hi hi2).2 b hb).1 hC, ((h4 i hi hi2).2 b hb).2⟩⟩⟩
theorem Between.drew (B C : Nat) (w : World) : Between B C w w.drew := ⟨rfl, rfl, rfl, Nat.le_refl _, fun _ _ _ => rfl⟩
theorem eqI_same {S S' : Nat → Prop} {v u : Value} {xs : List Int} {w : World} (hv : SlI S w .i64 v xs) (hu : SlI S' w .i64 u xs) :
    Calls Try.prog 44 #[v, u] w fun e w' => e = .returned (.bool true) ∧ Below w.heap.size w w' := by
  refine (eqInt64S_any _ _ _ _ _ hv hu).mono ?_
  rintro e w' ⟨rfl, hd⟩
  exact ⟨by rw [decide_eq_true rfl], hd.below _⟩
theorem eqG_same {S S' : Nat → Prop} {v u : Value} {xs : List (List Int)} {w : World} (hv : SlR S w v xs) (hu : SlR S' w u xs) :
    Calls Try.prog 12 #[.agg #[v], .agg #[u]] w fun e w' => e = .returned (.bool true) ∧ Below w.heap.size w w' := by
  refine (eqGraph_any _ _ _ _ _ hv hu).mono ?_
  rintro e w' ⟨rfl, hd⟩
  exact ⟨by rw [decide_eq_true rfl], hd⟩
