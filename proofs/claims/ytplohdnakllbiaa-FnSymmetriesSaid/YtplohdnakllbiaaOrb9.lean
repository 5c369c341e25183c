/- The law of OrbitsOf, from both contracts. -/
import Derived.Test.YtplohdnakllbiaaOrb8
import Derived.Test.YtplohdnakllbiaaMark3
namespace Go.Proofs.Ytplohdnakllbiaa
open Go.RowKit
theorem orbL_len {g : List (List Int)} (hw : g.length ≤ 1048576) : (orbL g).length ≤ 1048576 := by
  unfold orbL
  split
  · rw [natsI_len, orbN_len, netsL_len]; exact hw
  · simp
theorem conOrbitsOf {g0 : List (List Int)} (hsm0 : SmallR g0 1048576) : ∃ (r0 : List Int), (∀ {S0 : Nat → Prop} {v0 : Value} {w : World}, SlR S0 w v0 g0 → Calls Try.prog 26 #[.agg #[v0]] w fun e w' => ∃ u0, e = .returned (u0) ∧ SlI (fun b => b < w'.heap.size) w' .i64 u0 r0 ∧ Below w.heap.size w w') ∧
    (∀ {S0 : Nat → Prop} {v0 : Value} {w : World}, SlR S0 w v0 g0 → Calls Try.prog 24 #[.agg #[v0]] w fun e w' => ∃ u0, e = .returned (u0) ∧ Own w' w.heap.size 2 1 u0 r0.length (r0.map (.int .i64)) ∧ Below w.heap.size w w') ∧
    r0.length ≤ 1048576 := by
  exact ⟨orbL g0, fun h0 => specOrbitsOf_any h0, fun h0 => implOrbitsOf_any h0, orbL_len (by have := hsm0.1; omega)⟩
