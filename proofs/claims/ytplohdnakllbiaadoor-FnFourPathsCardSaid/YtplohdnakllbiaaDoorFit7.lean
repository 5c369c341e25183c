/- EmbedsIn, FreeOf, AlikeIn of the program. -/
import Derived.Test.YtplohdnakllbiaaDoorFit6
import Derived.Test.YtplohdnakllbiaaDoorSets
import Derived.Test.YtplohdnakllbiaaDoorLaws
namespace Go.Proofs.YtplohdnakllbiaaDoor
open Go.RowKit
def TwoO (E : TypeId) (f : Option (List Nat)) (w : World) (e : Ending) (w' : World) : Prop := ∃ u, e = .returned (.tuple #[u, .bool f.isSome]) ∧ Own w' w.heap.size E 1 u (f.getD []).length ((natsI (f.getD [])).map (.int .i64)) ∧ Below w.heap.size w w'
theorem fit_long {g p : List (List Int)} {r : List Nat} (h : fitO (netsL g) (netsL p) = some r) : r.length = p.length := by
  unfold fitO at h
  rcases srch_fit (netsL g) (netsL p) (netsL p).length [] none with ⟨h1, h2⟩ | ⟨h1, r', h2, h3⟩
  · rw [h2] at h; cases h
  · rw [h2] at h; cases h; rw [h3, netsL_len]; simp
