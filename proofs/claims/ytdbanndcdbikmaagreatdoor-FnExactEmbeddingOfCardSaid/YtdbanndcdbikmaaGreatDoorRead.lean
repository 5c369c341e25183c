/- What comes in, read: graphs, lists; the library's table. -/
import Derived.Test.YtdbanndcdbikmaaGreatDoorLaws
import Derived.Test.YtdbanndcdbikmaaGreatDoorMod3
import Derived.ProofKit
import Derived.OpenShut
import Derived.Deep.Matrix
import Derived.Deep.DeepHandedRow
import Derived.Lib.LaidTab
namespace Go.Proofs.YtdbanndcdbikmaaGreatDoor
open Go.RowKit Go.WideShapes Go.ChangeShapes Go.Deep

theorem ownG : ownKnob Tryz.prog.godebug = none := by kernel_rfl
theorem laidOutG : laidOutB Tryz.prog = true := by kernel_rfl
theorem cellsI64 : Tryz.prog.cellsOf 2 = 1 := by kernel_rfl
set_option maxRecDepth 100000 in
theorem read_ints {H : Type} {enc : TypeId × Value → H} {W : World} {base : Nat} {v : Value} {d : DataW H} {p : List MemPlace} (hok : Value.okWide Tryz.prog W .any base 36 v)
    (h : DataW.Trod enc Tryz.prog W 0 (fun _ => true) true 36 v d p) : ∃ xs, SlI (fun _ => True) W .i64 v xs := by
  obtain ⟨a0, len, cap, rfl⟩ := okWide_slice Tryz.underlying36 hok
  obtain ⟨fuel, hf⟩ := h
  rcases open_ints Tryz.underlying36 Tryz.underlying2 cellsI64 hf with ⟨hcs, hx⟩ | ⟨a, len', cap', zs, hcs, _, hl, hm, hz, hx, hcell, hwz⟩
  · simp [Value.cells] at hcs
    obtain ⟨rfl, rfl, rfl⟩ := hcs
    exact ⟨[], none, 0, 0, 0, rfl, by simp, fun h => by simp at h, fun i hi => by simp at hi⟩
  · simp [Value.cells] at hcs
    obtain ⟨rfl, rfl, rfl⟩ := hcs
    simp only [if_true] at hz
    have hm' : cap ≤ 9223372036854775807 := by unfold maxLen at hm; omega
    by_cases h0 : len = 0
    · subst h0
      exact ⟨[], some a, 0, 0, cap, rfl, by simp; omega, fun h => by simp at h, fun i hi => by simp at hi⟩
    · obtain ⟨b, off, rfl, hc⟩ := Go.ints_at hcell (by omega)
      refine ⟨zs.take len, some ⟨b, off, none⟩, b, off, cap, by simp [List.length_take]; omega, by rw [List.length_take]; omega, fun _ => ⟨rfl, trivial⟩, fun i hi => ?_⟩
      have hi' : i < len ∧ i < zs.length := by simp at hi; omega
      have := hc i hi'.2
      rw [List.getElem_take]
      simpa [hi'.2] using this
theorem cellsRow : Tryz.prog.cellsOf 36 = 1 := by kernel_rfl
set_option maxRecDepth 100000 in
theorem read_rows {H : Type} {enc : TypeId × Value → H} {W : World} {fuel : Nat} {cs : List Value} {x : DataW H × List MemPlace}
    (h : DataW.trod enc Tryz.prog W 0 (fun _ => true) true fuel 24 cs = some x) : ∃ v g, cs = [v] ∧ SlR (fun _ => True) W v g := by
  rcases open_int_rows Tryz.underlying24 Tryz.underlying36 Tryz.underlying2 cellsRow cellsI64 h with ⟨hcs, hx⟩ | ⟨a, len, cap, A, L, C, Z, hcs, _, hl, hm, hx, hrow⟩
  · exact ⟨_, [], hcs, none, 0, 0, 0, fun _ => undef, rfl, by simp, fun h => by simp at h, fun i hi => by simp at hi⟩
  · refine ⟨_, (List.range len).map (fun r => (Z r).take (L r)), hcs, ?_⟩
    have hm' : cap ≤ 9223372036854775807 := by unfold maxLen at hm; omega
    have hrows : ∀ i, i < cap → SlI (fun _ => True) W .i64 (.slice (A i) (L i) (C i)) ((Z i).take (L i)) := by
      intro i hi
      obtain ⟨_, h1, h2, h3, _, h5, h6⟩ := hrow i hi
      have h2' : C i ≤ 9223372036854775807 := by unfold maxLen at h2; omega
      have hlen : ((Z i).take (L i)).length = L i := by simp; omega
      by_cases h0 : L i = 0
      · exact ⟨A i, 0, 0, C i, by rw [hlen], by omega, fun h => by omega, fun j hj => by omega⟩
      · have hne : A i ≠ none := fun h => by have := h5 h; omega
        obtain ⟨a', ha'⟩ := Option.ne_none_iff_exists'.1 hne
        obtain ⟨_, h7⟩ := h6 a' ha'
        obtain ⟨b, off, rfl, hc⟩ := Go.ints_at (zs := Z i) (fun j hj => h7 j (by omega)) (by omega)
        refine ⟨A i, b, off, C i, by rw [hlen], by omega, fun _ => ⟨ha', trivial⟩, fun j hj => ?_⟩
        have hj' : j < (Z i).length := by omega
        have := hc j hj'
        rw [List.getElem_take]
        simpa [hj'] using this
    by_cases h0 : len = 0
    · subst h0
      exact ⟨some a, 0, 0, cap, fun _ => undef, rfl, by simp; omega, fun h => by simp at h, fun i hi => by simp at hi⟩
    · have hc0 := (hrow 0 (by omega)).1
      obtain ⟨b, off, spot⟩ := a
      have hspot : spot = none := by simpa [Addr.add] using World.cell?_spot hc0
      subst hspot
      refine ⟨some ⟨b, off, none⟩, b, off, cap, fun i => .slice (A i) (L i) (C i), by simp, by rw [List.length_map, List.length_range]; omega, fun _ => ⟨rfl, trivial⟩, fun i hi => ?_⟩
      have hi' : i < len := by simpa using hi
      refine ⟨?_, by simpa using hrows i (by omega)⟩
      have := (hrow i (by omega)).1
      rwa [add_plain] at this
theorem cellsRows : Tryz.prog.cellsOf 24 = 1 := by kernel_rfl
theorem cellsLGraph : Tryz.prog.cellsOf 38 = 1 := by kernel_rfl
set_option maxRecDepth 100000 in
theorem read_graph {H : Type} {enc : TypeId × Value → H} {W : World} {base : Nat} {v : Value} {d : DataW H} {p : List MemPlace} (hok : Value.okWide Tryz.prog W .any base 38 v)
    (h : DataW.Trod enc Tryz.prog W 0 (fun _ => true) true 38 v d p) : ∃ u g, v = .agg #[u] ∧ SlR (fun _ => True) W u g := by
  obtain ⟨cs, rfl, hsz⟩ := okWide_struct Tryz.underlying38 hok
  rw [cellsLGraph] at hsz
  obtain ⟨c, rfl⟩ : ∃ c, cs = #[c] := by
    obtain ⟨l⟩ := cs
    match l, hsz with
    | [c], _ => exact ⟨c, rfl⟩
  obtain ⟨fuel, hf⟩ := h
  obtain ⟨y0, n, _, _, h0⟩ := trod_struct1 Tryz.underlying38 hf
  simp only [Value.cells, List.drop_zero, cellsRows] at h0
  obtain ⟨u, g, hu, hg⟩ := read_rows h0
  have : c = u := by simpa using hu
  subst this
  exact ⟨c, g, rfl, hg⟩
theorem gTabD : Tryz.prog.globalNamed "math/bits.deBruijn32tab" = some 0 := by kernel_rfl
theorem gTabTypeD : (Tryz.prog.globals[0]?).map (·.type) = some 144 := by kernel_rfl
theorem cellsTabD : Tryz.prog.cellsOf 144 = 32 := by kernel_rfl
theorem cellsU8 : Tryz.prog.cellsOf 5 = 1 := by kernel_rfl
def tabI : List Int := Lib.deBruijn32tab.map fun n : Nat => (n : Int)
theorem tab_of_laid {W : World} (h : laidMetH Tryz.prog [("math/bits.deBruijn32tab", Rows.laid_math_bits_deBruijn32tab)] W) : Tab W := by
  have ht : Lib.TabIs Tryz.prog W "math/bits.deBruijn32tab" .u8 tabI := Lib.tabIs_of_head (rest := []) gTabD gTabTypeD Tryz.underlying144 Tryz.underlying5 cellsU8 cellsTabD h
  intro i hi
  have h1 := ht.cell gTabD i (by show i < 32; exact hi)
  rw [h1]
  have : tabI.getD i 0 = ((Lib.deBruijn32tab.getD i 0 : Nat) : Int) := by
    have hi' : i < Lib.deBruijn32tab.length := hi
    simp [tabI, List.getD, hi']
  rw [this]
/-- A world for the witness: the table holding what its initialiser lays. -/
noncomputable def laidWorld (os : Os) : World :=
  { World.holding Tryz.prog os ⟨#[], #[], []⟩ with heap := (World.holding Tryz.prog os ⟨#[], #[], []⟩).heap.modify 0 fun
      | .cells _ t frozen => .cells #[.int .u8 0, .int .u8 1, .int .u8 28, .int .u8 2, .int .u8 29, .int .u8 14, .int .u8 24, .int .u8 3, .int .u8 30, .int .u8 22, .int .u8 20, .int .u8 15, .int .u8 25, .int .u8 17, .int .u8 4, .int .u8 8, .int .u8 31, .int .u8 27, .int .u8 13, .int .u8 23, .int .u8 21, .int .u8 19, .int .u8 16, .int .u8 7, .int .u8 26, .int .u8 12, .int .u8 18, .int .u8 6, .int .u8 11, .int .u8 5, .int .u8 10, .int .u8 9] t frozen
      | o => o }
theorem cellsU8b : Tryz.prog.cellsOf 5 = 1 := by kernel_rfl
theorem wf_u8 {n : Int} (h : (Lit.int .u8 n).wf = true) : 0 ≤ n ∧ n < 256 := by
  have := bounds_u8 h
  omega
set_option maxRecDepth 100000 in
theorem read_bytes {H : Type} {enc : TypeId × Value → H} {W : World} {base : Nat} {v : Value} {d : DataW H} {p : List MemPlace} (hok : Value.okWide Tryz.prog W .any base 22 v)
    (h : DataW.Trod enc Tryz.prog W 0 (fun _ => true) true 22 v d p) : ∃ xs, SlI (fun _ => True) W .u8 v xs ∧ ∀ x ∈ xs, 0 ≤ x ∧ x < 256 := by
  obtain ⟨a0, len, cap, rfl⟩ := okWide_slice Tryz.underlying22 hok
  obtain ⟨fuel, hf⟩ := h
  rcases open_ints Tryz.underlying22 Tryz.underlying5 cellsU8b hf with ⟨hcs, hx⟩ | ⟨a, len', cap', zs, hcs, _, hl, hm, hz, hx, hcell, hwz⟩
  · simp [Value.cells] at hcs
    obtain ⟨rfl, rfl, rfl⟩ := hcs
    exact ⟨[], ⟨none, 0, 0, 0, rfl, by simp, fun h => by simp at h, fun i hi => by simp at hi⟩, fun x hx => by cases hx⟩
  · simp [Value.cells] at hcs
    obtain ⟨rfl, rfl, rfl⟩ := hcs
    simp only [if_true] at hz
    have hm' : cap ≤ 9223372036854775807 := by unfold maxLen at hm; omega
    by_cases h0 : len = 0
    · subst h0
      exact ⟨[], ⟨some a, 0, 0, cap, rfl, by simp; omega, fun h => by simp at h, fun i hi => by simp at hi⟩, fun x hx => by cases hx⟩
    · obtain ⟨b, off, rfl, hc⟩ := Go.ints_at hcell (by omega)
      refine ⟨zs.take len, ⟨some ⟨b, off, none⟩, b, off, cap, by simp [List.length_take]; omega, by rw [List.length_take]; omega, fun _ => ⟨rfl, trivial⟩, fun i hi => ?_⟩, fun x hx => wf_u8 (hwz x (List.mem_of_mem_take hx))⟩
      have hi' : i < len ∧ i < zs.length := by simp at hi; omega
      have := hc i hi'.2
      rw [List.getElem_take]
      simpa [hi'.2] using this
end Go.Proofs.YtdbanndcdbikmaaGreatDoor
