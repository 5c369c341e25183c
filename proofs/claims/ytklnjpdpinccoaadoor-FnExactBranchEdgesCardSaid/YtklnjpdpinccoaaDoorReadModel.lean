/- Model, read. -/
import Derived.Test.YtklnjpdpinccoaaDoorRead
namespace Go.Proofs.YtklnjpdpinccoaaDoor
open Go.RowKit Go.WideShapes Go.ChangeShapes Go.Deep
theorem cellsLModel : Tryd.prog.cellsOf 40 = 1 := by kernel_rfl
set_option maxRecDepth 100000 in
theorem read_model {H : Type} {enc : TypeId × Value → H} {W : World} {base : Nat} {v : Value} {d : DataW H} {p : List MemPlace} (hok : Value.okWide Tryd.prog W .any base 40 v)
    (h : DataW.Trod enc Tryd.prog W 0 (fun _ => true) true 40 v d p) : ∃ u g, v = .agg #[u] ∧ SlR (fun _ => True) W u g := by
  obtain ⟨cs, rfl, hsz⟩ := okWide_struct Tryd.underlying40 hok
  rw [cellsLModel] at hsz
  obtain ⟨c, rfl⟩ : ∃ c, cs = #[c] := by
    obtain ⟨l⟩ := cs
    match l, hsz with
    | [c], _ => exact ⟨c, rfl⟩
  obtain ⟨fuel, hf⟩ := h
  obtain ⟨y0, n, _, _, h0⟩ := trod_struct1 Tryd.underlying40 hf
  simp only [Value.cells, List.drop_zero, cellsRows] at h0
  obtain ⟨u, g, hu, hg⟩ := read_rows h0
  have : c = u := by simpa using hu
  subst this
  exact ⟨c, g, rfl, hg⟩
end Go.Proofs.YtklnjpdpinccoaaDoor
