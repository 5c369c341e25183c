/- A number put into a rising list that may hold it: sets as words. -/
import Derived.Test.YtbpjbjeglcphcaaInto
namespace Go.Proofs.Ytbpjbjeglcphcaa
open Go.RowKit
/-- An own rising list of a set. -/
def OwnB (w : World) (B : Nat) (E : TypeId) (v : Value) (m : Nat) : Prop := Own w B E 1 v (bitsI m).length ((bitsI m).map (.int .i64))
theorem OwnB.below {w w' : World} {B B1 : Nat} {E : TypeId} {v : Value} {m : Nat} (h : OwnB w B E v m) (hb : Below B1 w w') (hB : w.heap.size ≤ B1) : OwnB w' B E v m := Own.below h hb hB
theorem OwnB.weak {w : World} {B B' : Nat} {E : TypeId} {v : Value} {m : Nat} (h : OwnB w B E v m) (hB : B' ≤ B) : OwnB w B' E v m := Own.weak h hB
theorem OwnB.ints {w : World} {B : Nat} {E : TypeId} {v : Value} {m : Nat} (h : OwnB w B E v m) : SlI (fun b => v.ownBlock = some b) w .i64 v (bitsI m) := Own.ints h (by have := bitsI_len m; omega)
theorem OwnB.drawn {w w' : World} {B : Nat} {E : TypeId} {v : Value} {m : Nat} (h : OwnB w B E v m) (hb : Drawn w w') : OwnB w' B E v m := Own.drawn h hb
theorem bitsI_or {m x : Nat} (hm : m < 4294967296) (hx : x < 32) {k : Nat} (hk1 : ∀ y ∈ (bitsI m).take k, y < (x : Int)) (hk2 : ∀ y ∈ (bitsI m).drop k, (x : Int) < y) : intoL (bitsI m) k x = bitsI (m ||| bit x) := by
  have hb := bit_lt hx
  have hor : m ||| bit x < 4294967296 := Nat.or_lt_two_pow (n := 32) hm hb
  refine sorted_ext (intoL_sorted (bitsI_sorted m) hk1 hk2) (bitsI_sorted _) fun y => ?_
  rw [mem_intoL, mem_bitsI hm, mem_bitsI hor, Nat.testBit_or, testBit_bit]
  simp only [Bool.or_eq_true, decide_eq_true_eq]
  constructor
  · rintro (rfl | ⟨h1, h2⟩)
    · exact ⟨by omega, .inr (by omega)⟩
    · exact ⟨h1, .inl h2⟩
  · rintro ⟨h1, h2 | h2⟩
    · exact .inr ⟨h1, h2⟩
    · exact .inl (by omega)
theorem or_bit_same {m x : Nat} (h : m.testBit x = true) : m ||| bit x = m := by
  apply nat_ext
  intro i
  rw [Nat.testBit_or, testBit_bit]
  by_cases e : x = i
  · subst e; simp [h]
  · simp [e]
