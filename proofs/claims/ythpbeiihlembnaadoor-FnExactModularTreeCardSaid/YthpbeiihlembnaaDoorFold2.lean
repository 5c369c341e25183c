/- Folding by the program: foldAway, foldedOf, isSeries, SeriesIn. -/
import Derived.Test.YthpbeiihlembnaaDoorFold
import Derived.Test.YthpbeiihlembnaaDoorSets
import Derived.Test.YthpbeiihlembnaaDoorLaws
namespace Go.Proofs.YthpbeiihlembnaaDoor
open Go.RowKit
theorem foldV_none {a : List Nat} {left : Nat} : foldV a left = none ↔ ∀ v ∈ bitsN left, foldF a left v = none := by
  unfold foldV
  rw [List.find?_eq_none]
  constructor
  · intro h v hv; have := h v hv; simpa using this
  · intro h v hv; rw [h v hv]; simp
theorem foldV_some {a : List Nat} {left k : Nat} {f : Tri} (hk : k < (bitsN left).length) (h : ∀ j (hj : j < (bitsN left).length), j < k → foldF a left (bitsN left)[j] = none) (hf : foldF a left (bitsN left)[k] = some f) : foldV a left = some (bitsN left)[k] := by
  unfold foldV
  rw [List.find?_eq_some_iff_getElem]
  refine ⟨by rw [hf]; rfl, k, hk, rfl, fun j hj => ?_⟩
  rw [h j (by omega) hj]; rfl
theorem foldsF_stop {n : Nat} {a : List Nat} {left : Nat} (h : foldV a left = none) : foldsF (n + 1) a left = (a, left) := by rw [foldsF, h]
theorem foldsF_step {n v : Nat} {a : List Nat} {left : Nat} {f : Tri} (h : foldV a left = some v) (hf : foldF a left v = some f) : foldsF (n + 1) a left = foldsF n (foldN a f) (andN left (bit v)) := by rw [foldsF, h]; simp only [hf]
theorem pop_less {left v : Nat} (hl : left < 4294967296) (hv : left.testBit v = true) : popN (andN left (bit v)) < popN left := by
  have hv32 := bit_lt_of (n := 32) hl hv
  exact popN_lt hl (fun i hi => by rw [testBit_andN hl (bit_lt hv32), Bool.and_eq_true] at hi; exact hi.1) hv (by rw [testBit_andN hl (bit_lt hv32), testBit_bit]; simp)
theorem foldN_len (a : List Nat) (f : Tri) : (foldN a f).length = a.length := by unfold foldN; split; exact joinN_len _ _ _; rfl
noncomputable def seriesB (g : List (List Int)) : Bool := gokB g && decide ((foldsF 33 (netsL g) (firstN g.length)).2 = 0)
theorem FoldI.start {g : List (List Int)} (hg : GOk g) : FoldI (netsL g) (firstN g.length) g.length := by
  refine ⟨netsL_len g, hg.hi, by unfold firstN; have := Nat.two_pow_pos g.length; omega, netsL_lt hg, fun u => ?_⟩
  by_cases hu : u < g.length
  · rw [nets_bit2 hg hu]
    have := hg.irrefl u hu
    simpa [hu] using this
  · have : (netsL g).getD u 0 = 0 := by simp [netsL, List.getElem?_eq_none (show g.length ≤ u by omega)]
    rw [this, Nat.zero_testBit]
