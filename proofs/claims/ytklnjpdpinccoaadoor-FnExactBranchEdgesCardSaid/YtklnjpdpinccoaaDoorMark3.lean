/- What a law with slices as results does with them, in one form. -/
import Derived.Test.YtklnjpdpinccoaaDoorMark2
namespace Go.Proofs.YtklnjpdpinccoaaDoor
open Go.RowKit
theorem Between.cell {B C : Nat} {w w' : World} (h : Between B C w w') {p : Addr} (hp : p.block < w.heap.size) (hB : p.block < B ∨ C ≤ p.block) : w'.cell? p = w.cell? p := World.cell?_of_block (h.block _ hp hB)
theorem OwnR.isSlice {w : World} {B C : Nat} {EO EI : TypeId} {u : Value} {g : List (List Int)} (h : OwnR w B C EO EI u g) : ∃ a c, u = .slice a g.length c := by
  obtain ⟨vs, h1, h2, _⟩ := h
  exact h2.isSlice
theorem OwnR.weaken {w : World} {B C B1 C1 : Nat} {EO EI : TypeId} {u : Value} {g : List (List Int)} (h : OwnR w B C EO EI u g) (hB : B1 ≤ B) (hC : C ≤ C1) : OwnR w B1 C1 EO EI u g := by
  obtain ⟨vs, h1, h2, h3, hap, h4⟩ := h
  exact ⟨vs, h1, h2.weak hB, fun b hb => Nat.lt_of_lt_of_le (h3 b hb) hC, hap, fun i hi hi2 => ⟨(h4 i hi hi2).1.weak hB, fun b hb => ⟨Nat.lt_of_lt_of_le ((h4 i hi hi2).2 b hb).1 hC, ((h4 i hi hi2).2 b hb).2⟩⟩⟩
theorem Between.drew (B C : Nat) (w : World) : Between B C w w.drew := ⟨rfl, rfl, rfl, Nat.le_refl _, fun _ _ _ => rfl⟩
theorem eqI_same {S S' : Nat → Prop} {v u : Value} {xs : List Int} {w : World} (hv : SlI S w .i64 v xs) (hu : SlI S' w .i64 u xs) :
    Calls Tryd.prog 22 #[v, u] w fun e w' => e = .returned (.bool true) ∧ Below w.heap.size w w' := by
  refine (eqInt64S_any _ _ _ _ _ hv hu).mono ?_
  rintro e w' ⟨rfl, hd⟩
  exact ⟨by rw [decide_eq_true rfl], hd.below _⟩
theorem eqG_same {S S' : Nat → Prop} {v u : Value} {xs : List (List Int)} {w : World} (hv : SlR S w v xs) (hu : SlR S' w u xs) :
    Calls Tryd.prog 15 #[.agg #[v], .agg #[u]] w fun e w' => e = .returned (.bool true) ∧ Below w.heap.size w w' := by
  refine (eqGraph_any _ _ _ _ _ hv hu).mono ?_
  rintro e w' ⟨rfl, hd⟩
  exact ⟨by rw [decide_eq_true rfl], hd⟩
theorem markI_any {B n : Nat} {v : Value} {xs : List Int} {w : World} (hv : Own w B 2 1 v n (xs.map (.int .i64))) (hn : n ≤ 1048576) :
    Calls Tryd.prog 40 #[v, .int .i64 1] w fun e w' => e = .returned (.int .i64 (1 + n)) ∧ Own w' B 2 1 v n ((marksL 1 n).map (.int .i64)) ∧ Between B w.heap.size w w' := by
  refine (markInt64S_any hv hn (by omega) (by omega)).mono ?_
  rintro e w' ⟨rfl, h1, h2⟩
  exact ⟨rfl, h1, h2.between fun b hb => hv.lt b hb⟩
theorem heldI_any {S : Nat → Prop} {n : Nat} {v : Value} {w : World} (hv : SlI S w .i64 v (marksL 1 n)) (hn : n ≤ 1048576) :
    Calls Tryd.prog 41 #[v, .int .i64 1] w fun e w' => e = .returned (.int .i64 (1 + n)) ∧ Below w.heap.size w w' := by
  refine (heldInt64S_any hv hn (by omega) (by omega)).mono ?_
  rintro e w' ⟨rfl, h1⟩
  exact ⟨rfl, h1.below _⟩
theorem markG_any {B C : Nat} {EO : TypeId} {u : Value} {g : List (List Int)} {k : Int} {w : World} (hu : OwnR w B C EO 2 u g) (hs : SmallR g 1048576) (hC : C ≤ w.heap.size) (hk0 : 0 ≤ k) (hk1 : k ≤ 100000000000000) :
    Calls Tryd.prog 16 #[.agg #[u], .int .i64 k] w fun e w' => ∃ k' : Int, e = .returned (.int .i64 k') ∧ 0 ≤ k' ∧ k' ≤ k + 1099511627776 ∧ Between B C w w' := by
  have hbl : Below w.heap.size w (w.alloc (.cells #[u] 27)) := (Below.refl _ _).alloc (Nat.le_refl _) _
  have hu1 := hu.below hbl (Nat.le_refl _)
  obtain ⟨ua, uc, rfl⟩ := hu.isSlice
  go_enter Tryd.func16, Tryd.ntmps16
  go_wp2_with fail
  refine (markRows_any hu1 hs hk0 hk1).mono ?_
  rintro e w' ⟨k', rfl, h1, h2, h3⟩
  have hs3 := h3.size
  have hC1 := hC
  simp at hs3
  go_wp2
  go_ret
  exact ⟨k', rfl, h1, h2, h3.os, h3.tape, h3.output, by omega, fun b hb hB => (h3.block b (by simp; omega) hB).trans (hbl.block b hb)⟩
end Go.Proofs.YtklnjpdpinccoaaDoor
