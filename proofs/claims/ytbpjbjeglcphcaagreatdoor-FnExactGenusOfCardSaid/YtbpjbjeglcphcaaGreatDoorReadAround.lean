/- Around, read. -/
import Derived.Test.YtbpjbjeglcphcaaGreatDoorRead
namespace Go.Proofs.YtbpjbjeglcphcaaGreatDoor
open Go.RowKit Go.WideShapes Go.ChangeShapes Go.Deep
theorem cellsLAround : Tryz.prog.cellsOf 26 = 1 := by kernel_rfl
set_option maxRecDepth 100000 in
theorem read_around {H : Type} {enc : TypeId × Value → H} {W : World} {base : Nat} {v : Value} {d : DataW H} {p : List MemPlace} (hok : Value.okWide Tryz.prog W .any base 26 v)
    (h : DataW.Trod enc Tryz.prog W 0 (fun _ => true) true 26 v d p) : ∃ u g, v = .agg #[u] ∧ SlR (fun _ => True) W u g := by
  obtain ⟨cs, rfl, hsz⟩ := okWide_struct Tryz.underlying26 hok
  rw [cellsLAround] at hsz
  obtain ⟨c, rfl⟩ : ∃ c, cs = #[c] := by
    obtain ⟨l⟩ := cs
    match l, hsz with
    | [c], _ => exact ⟨c, rfl⟩
  obtain ⟨fuel, hf⟩ := h
  obtain ⟨y0, n, _, _, h0⟩ := trod_struct1 Tryz.underlying26 hf
  simp only [Value.cells, List.drop_zero, cellsRows] at h0
  obtain ⟨u, g, hu, hg⟩ := read_rows h0
  have : c = u := by simpa using hu
  subst this
  exact ⟨c, g, rfl, hg⟩
end Go.Proofs.YtbpjbjeglcphcaaGreatDoor
