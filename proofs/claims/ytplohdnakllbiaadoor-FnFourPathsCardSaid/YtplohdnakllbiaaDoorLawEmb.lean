/- EmbedsIn and AlikeIn: the laws. -/
import Derived.Test.YtplohdnakllbiaaDoorFit7
import Derived.Test.YtplohdnakllbiaaDoorMark3
namespace Go.Proofs.YtplohdnakllbiaaDoor
open Go.RowKit
theorem embF_long {p g : List (List Int)} (hp : p.length ≤ 1048576) : (natsI ((embF p g).getD [])).length ≤ 1048576 := by
  rw [natsI_len]
  rcases h : embF p g with _ | r
  · simp
  · unfold embF at h
    split at h
    · have := fit_long h; simpa [this] using hp
    · cases h
theorem outP {S : Nat → Prop} {f : Option (List Nat)} {w w' : World} {e : Ending} (h : TwoP S f w e w') : ∃ u0, e = .returned (.tuple #[u0, .bool f.isSome]) ∧ SlI (fun b => b < w'.heap.size) w' .i64 u0 (natsI (f.getD [])) ∧ Below w.heap.size w w' := by
  obtain ⟨u, h1, h2, h3⟩ := h
  exact ⟨u, h1, h2.low, h3⟩
theorem outO {E : TypeId} {f : Option (List Nat)} {w w' : World} {e : Ending} (h : TwoO E f w e w') : ∃ u0, e = .returned (.tuple #[u0, .bool f.isSome]) ∧ Own w' w.heap.size E 1 u0 (natsI (f.getD [])).length ((natsI (f.getD [])).map (.int .i64)) ∧ Below w.heap.size w w' := by
  obtain ⟨u, h1, h2, h3⟩ := h
  rw [natsI_len]
  exact ⟨u, h1, h2, h3⟩
