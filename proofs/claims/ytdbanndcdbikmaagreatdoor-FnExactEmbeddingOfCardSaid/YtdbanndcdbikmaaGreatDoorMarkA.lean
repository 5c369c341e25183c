/- Marks of an Around, and the looks of a law at it. -/
import Derived.Test.YtdbanndcdbikmaaGreatDoorMark4
namespace Go.Proofs.YtdbanndcdbikmaaGreatDoor
open Go.RowKit
theorem markAroundE_any {B C : Nat} {EO : TypeId} {u : Value} {g : List (List Int)} {k : Int} {w : World} (hu : OwnR w B C EO 2 u g) (hs : SmallR g 1048576) (hC : C ≤ w.heap.size) (hk0 : 0 ≤ k) (hk1 : k ≤ 100000000000000) :
    Calls Tryz.prog 23 #[.agg #[u], .int .i64 k] w fun e w' => e = .returned (.int .i64 (k + (sumL g : Int))) ∧ OwnR w' B C EO 2 u (marksR k g) ∧ Between B C w w' := by
  have hbl : Below w.heap.size w (w.alloc (.cells #[u] 28)) := (Below.refl _ _).alloc (Nat.le_refl _) _
  have hu1 := hu.below hbl (Nat.le_refl _)
  obtain ⟨ua, uc, rfl⟩ := hu.isSlice
  go_enter Tryz.func23, Tryz.ntmps23
  go_wp2_with fail
  refine (markRR_any hu1 hs hk0 hk1).mono ?_
  rintro e w' ⟨rfl, h2, h3⟩
  have hs3 := h3.size
  have hC1 := hC
  simp at hs3
  go_wp2
  go_ret
  exact ⟨rfl, h2, h3.os, h3.tape, h3.output, by omega, fun b hb hB => (h3.block b (by simp; omega) hB).trans (hbl.block b hb)⟩
theorem heldAround_any {S : Nat → Prop} {u : Value} {g : List (List Int)} {k : Int} {w : World} (hu : SlR S w u (marksR k g)) (hs : SmallR g 1048576) (hk0 : 0 ≤ k) (hk1 : k ≤ 100000000000000) :
    Calls Tryz.prog 24 #[.agg #[u], .int .i64 k] w fun e w' => e = .returned (.int .i64 (k + (sumL g : Int))) ∧ Below w.heap.size w w' := by
  have hbl : Below w.heap.size w (w.alloc (.cells #[u] 28)) := (Below.refl _ _).alloc (Nat.le_refl _) _
  have hu1 := hu.below hbl (Nat.le_refl _)
  obtain ⟨ua, uc, rfl⟩ := hu.slice
  have hneg : ¬ (k + (sumL g : Int)) < 0 := by omega
  go_enter Tryz.func24, Tryz.ntmps24
  go_wp2_with fail
  refine (heldRR_any hu1 hs hk0 hk1).mono ?_
  rintro e w' ⟨rfl, h2⟩
  go_wp2
  go_ret
  exact ⟨rfl, hbl.trans (h2.mono hbl.size)⟩
theorem meetA1 {H G : Value → Option Addr → Nat → Nat → World → Prop} {R : Prop} (rest : ∀ a b c d e, H a b c d e → G a b c d e) (orders : (∀ a b c d e, H a b c d e → G a b c d e) → R) : R := orders rest
theorem meetA2 {H G : Value → Value → Option Addr → Nat → Nat → World → Prop} {R : Prop} (rest : ∀ a b c d e f, H a b c d e f → G a b c d e f) (orders : (∀ a b c d e f, H a b c d e f → G a b c d e f) → R) : R := orders rest
theorem Between.setCell1 (w : World) (ab : Nat) (v : Value) : Between ab (ab + 1) w (w.setCell ⟨ab, 0, none⟩ v) :=
  ⟨rfl, rfl, rfl, by simp, fun b hb h => Below.heap_setCell _ _ _ _ (by simp; omega)⟩
end Go.Proofs.YtdbanndcdbikmaaGreatDoor
