/- A list of lists that comes in, read. -/
import Derived.Test.YtklnjpdpinccoaaRead
namespace Go.Proofs.Ytklnjpdpinccoaa
open Go.RowKit Go.WideShapes Go.ChangeShapes Go.Deep
set_option maxRecDepth 100000 in
theorem read_list {H : Type} {enc : TypeId × Value → H} {W : World} {base : Nat} {v : Value} {d : DataW H} {p : List MemPlace} (hok : Value.okWide Try.prog W .any base 22 v)
    (h : DataW.Trod enc Try.prog W 0 (fun _ => true) true 22 v d p) : ∃ g, SlR (fun _ => True) W v g := by
  obtain ⟨a0, len, cap, rfl⟩ := okWide_slice Try.underlying22 hok
  obtain ⟨fuel, hf⟩ := h
  obtain ⟨u, g, hu, hg⟩ := read_rows hf
  have : Value.slice a0 len cap = u := by simpa [Value.cells] using hu
  subst this
  exact ⟨g, hg⟩
end Go.Proofs.Ytklnjpdpinccoaa
