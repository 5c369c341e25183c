/- What comes in, read: graphs, lists; the library's table. -/
import Derived.Test.YtdbanndcdbikmaaGreatDoorLaws
import Derived.Test.YtdbanndcdbikmaaGreatDoorMod3
import Derived.ProofKit
import Derived.OpenShut
import Derived.Deep.Matrix
import Derived.Deep.DeepHandedRow
import Derived.Lib.LaidTab
namespace Go.Proofs.YtdbanndcdbikmaaGreatDoor
open Go.RowKit Go.WideShapes Go.ChangeShapes Go.Deep

theorem ownG : ownKnob Tryz.prog.godebug = none := by kernel_rfl
theorem laidOutG : laidOutB Tryz.prog = true := by kernel_rfl
theorem gTabD : Tryz.prog.globalNamed "math/bits.deBruijn32tab" = some 0 := by kernel_rfl
theorem gTabTypeD : (Tryz.prog.globals[0]?).map (·.type) = some 144 := by kernel_rfl
theorem cellsTabD : Tryz.prog.cellsOf 144 = 32 := by kernel_rfl
theorem cellsU8 : Tryz.prog.cellsOf 5 = 1 := by kernel_rfl
def tabI : List Int := Lib.deBruijn32tab.map fun n : Nat => (n : Int)
theorem tab_of_laid {W : World} (h : laidMetH Tryz.prog [("math/bits.deBruijn32tab", Rows.laid_math_bits_deBruijn32tab)] W) : Tab W := by
  have ht : Lib.TabIs Tryz.prog W "math/bits.deBruijn32tab" .u8 tabI := Lib.tabIs_of_head (rest := []) gTabD gTabTypeD Tryz.underlying144 Tryz.underlying5 cellsU8 cellsTabD h
  intro i hi
  have h1 := ht.cell gTabD i (by show i < 32; exact hi)
  rw [h1]
  have : tabI.getD i 0 = ((Lib.deBruijn32tab.getD i 0 : Nat) : Int) := by
    have hi' : i < Lib.deBruijn32tab.length := hi
    simp [tabI, List.getD, hi']
  rw [this]
/-- A world for the witness: the table holding what its initialiser lays. -/
noncomputable def laidWorld (os : Os) : World :=
  { World.holding Tryz.prog os ⟨#[], #[], []⟩ with heap := (World.holding Tryz.prog os ⟨#[], #[], []⟩).heap.modify 0 fun
      | .cells _ t frozen => .cells #[.int .u8 0, .int .u8 1, .int .u8 28, .int .u8 2, .int .u8 29, .int .u8 14, .int .u8 24, .int .u8 3, .int .u8 30, .int .u8 22, .int .u8 20, .int .u8 15, .int .u8 25, .int .u8 17, .int .u8 4, .int .u8 8, .int .u8 31, .int .u8 27, .int .u8 13, .int .u8 23, .int .u8 21, .int .u8 19, .int .u8 16, .int .u8 7, .int .u8 26, .int .u8 12, .int .u8 18, .int .u8 6, .int .u8 11, .int .u8 5, .int .u8 10, .int .u8 9] t frozen
      | o => o }
theorem cellsU8b : Tryz.prog.cellsOf 5 = 1 := by kernel_rfl
theorem wf_u8 {n : Int} (h : (Lit.int .u8 n).wf = true) : 0 ≤ n ∧ n < 256 := by
  have := bounds_u8 h
  omega
set_option maxRecDepth 100000 in
theorem read_bytes {H : Type} {enc : TypeId × Value → H} {W : World} {base : Nat} {v : Value} {d : DataW H} {p : List MemPlace} (hok : Value.okWide Tryz.prog W .any base 22 v)
    (h : DataW.Trod enc Tryz.prog W 0 (fun _ => true) true 22 v d p) : ∃ xs, SlI (fun _ => True) W .u8 v xs ∧ ∀ x ∈ xs, 0 ≤ x ∧ x < 256 := by
  obtain ⟨a0, len, cap, rfl⟩ := okWide_slice Tryz.underlying22 hok
  obtain ⟨fuel, hf⟩ := h
  rcases open_ints Tryz.underlying22 Tryz.underlying5 cellsU8b hf with ⟨hcs, hx⟩ | ⟨a, len', cap', zs, hcs, _, hl, hm, hz, hx, hcell, hwz⟩
  · simp [Value.cells] at hcs
    obtain ⟨rfl, rfl, rfl⟩ := hcs
    exact ⟨[], ⟨none, 0, 0, 0, rfl, by simp, fun h => by simp at h, fun i hi => by simp at hi⟩, fun x hx => by cases hx⟩
  · simp [Value.cells] at hcs
    obtain ⟨rfl, rfl, rfl⟩ := hcs
    simp only [if_true] at hz
    have hm' : cap ≤ 9223372036854775807 := by unfold maxLen at hm; omega
    by_cases h0 : len = 0
    · subst h0
      exact ⟨[], ⟨some a, 0, 0, cap, rfl, by simp; omega, fun h => by simp at h, fun i hi => by simp at hi⟩, fun x hx => by cases hx⟩
    · obtain ⟨b, off, rfl, hc⟩ := Go.ints_at hcell (by omega)
      refine ⟨zs.take len, ⟨some ⟨b, off, none⟩, b, off, cap, by simp [List.length_take]; omega, by rw [List.length_take]; omega, fun _ => ⟨rfl, trivial⟩, fun i hi => ?_⟩, fun x hx => wf_u8 (hwz x (List.mem_of_mem_take hx))⟩
      have hi' : i < len ∧ i < zs.length := by simp at hi; omega
      have := hc i hi'.2
      rw [List.getElem_take]
      simpa [hi'.2] using this
end Go.Proofs.YtdbanndcdbikmaaGreatDoor
