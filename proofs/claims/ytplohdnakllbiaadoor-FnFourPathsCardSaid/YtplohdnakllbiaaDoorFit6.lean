/- EmbedsIn, FreeOf, AlikeIn of the reference. -/
import Derived.Test.YtplohdnakllbiaaDoorFit5
namespace Go.Proofs.YtplohdnakllbiaaDoor
open Go.RowKit
noncomputable def embF (p g : List (List Int)) : Option (List Nat) := if smallB p && gokB g then fitO (netsL g) (netsL p) else none
noncomputable def alikeF (a b : List (List Int)) : Option (List Nat) := if smallB a && (smallB b && decide (a.length = b.length)) then fitO (netsL a) (netsL b) else none
def TwoP (S : Nat → Prop) (f : Option (List Nat)) (w : World) (e : Ending) (w' : World) : Prop := ∃ u, e = .returned (.tuple #[u, .bool f.isSome]) ∧ SlI S w' .i64 u (natsI (f.getD [])) ∧ Below w.heap.size w w'
theorem fitO_embL {p g : List (List Int)} : (fitO (netsL g) (netsL p)).getD [] = embL g p p.length [] := by rw [fitO, embL, netsL_len]
theorem fitO_some {p g : List (List Int)} (hp : 0 < p.length) : (fitO (netsL g) (netsL p)).isSome = decide (0 < (natsI (embL g p p.length [])).length) := by
  rw [natsI_len, ← fitO_embL]
  rcases srch_fit (netsL g) (netsL p) (netsL p).length [] none with ⟨h1, h2⟩ | ⟨h1, r, h2, h3⟩
  · unfold fitO; rw [h2]; rfl
  · have hl : 0 < r.length := by rw [h3, netsL_len]; simp; exact hp
    unfold fitO; rw [h2]; simp [hl]
theorem SlI.empty (S : Nat → Prop) (w : World) (k : IntKind) (a : Option Addr) : SlI S w k (.slice a 0 0) [] := ⟨a, 0, 0, 0, rfl, by simp, fun h => by simp at h, fun i hi => by simp at hi⟩
theorem SlI.emptyN (S : Nat → Prop) (w : World) (k : IntKind) (a : Option Addr) : SlI S w k (.slice a 0 0) (natsI []) := SlI.empty S w k a
theorem GP.nil (n : Nat) : GP n [] := ⟨by simp, by simp⟩
