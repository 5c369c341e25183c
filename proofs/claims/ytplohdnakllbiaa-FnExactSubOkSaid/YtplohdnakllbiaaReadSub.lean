/- A struct of a kind, hubs and paths that comes in, read. -/
import Derived.Test.YtplohdnakllbiaaRead
import Derived.Deep.Slices
import Derived.Deep.Strs
namespace Go.Proofs.Ytplohdnakllbiaa
open Go.RowKit Go.WideShapes Go.ChangeShapes Go.Deep
set_option maxRecDepth 100000 in
theorem read_ints0 {H : Type} {enc : TypeId × Value → H} {W : World} {fuel : Nat} {cs : List Value} {x : DataW H × List MemPlace}
    (h : DataW.trod enc Try.prog W 0 (fun _ => true) true fuel 25 cs = some x) : ∃ v xs, cs = [v] ∧ SlI (fun _ => True) W .i64 v xs := by
  rcases open_ints Try.underlying25 Try.underlying2 cellsI64 h with ⟨hcs, hx⟩ | ⟨a, len, cap, zs, hcs, _, hl, hm, hz, hx, hcell, hwz⟩
  · exact ⟨_, [], hcs, none, 0, 0, 0, rfl, by simp, fun h => by simp at h, fun i hi => by simp at hi⟩
  · simp only [if_true] at hz
    have hm' : cap ≤ 9223372036854775807 := by unfold maxLen at hm; omega
    by_cases h0 : len = 0
    · subst h0
      exact ⟨_, [], hcs, some a, 0, 0, cap, rfl, by simp; omega, fun h => by simp at h, fun i hi => by simp at hi⟩
    · obtain ⟨b, off, rfl, hc⟩ := Go.ints_at hcell (by omega)
      refine ⟨_, zs.take len, hcs, some ⟨b, off, none⟩, b, off, cap, by simp [List.length_take]; omega, by rw [List.length_take]; omega, fun _ => ⟨rfl, trivial⟩, fun i hi => ?_⟩
      have hi' : i < len ∧ i < zs.length := by simp at hi; omega
      have := hc i hi'.2
      rw [List.getElem_take]
      simpa [hi'.2] using this
theorem cellsLSub : Try.prog.cellsOf 27 = 3 := by kernel_rfl
set_option maxRecDepth 100000 in
theorem read_sub {H : Type} {enc : TypeId × Value → H} {W : World} {base : Nat} {v : Value} {d : DataW H} {p : List MemPlace} (hok : Value.okWide Try.prog W .any base 27 v)
    (h : DataW.Trod enc Try.prog W 0 (fun _ => true) true 27 v d p) : ∃ hv pv k xs ps, v = .agg #[.int .i64 k, hv, pv] ∧ SlI (fun _ => True) W .i64 hv xs ∧ SlR (fun _ => True) W pv ps := by
  obtain ⟨cs, rfl, hsz⟩ := okWide_struct Try.underlying27 hok
  rw [cellsLSub] at hsz
  obtain ⟨c0, c1, c2, rfl⟩ : ∃ c0 c1 c2, cs = #[c0, c1, c2] := by
    obtain ⟨l⟩ := cs
    match l, hsz with
    | [c0, c1, c2], _ => exact ⟨c0, c1, c2, rfl⟩
  obtain ⟨fuel, hf⟩ := h
  obtain ⟨y0, y1, y2, n', _, _, g0, g1, g2⟩ := trod_struct3 Try.underlying27 hf
  simp only [Value.cells, List.drop_zero, List.drop_succ_cons, cellsI64, cellsRow, cellsRows, List.take_succ_cons, List.take_zero] at g0 g1 g2
  obtain ⟨k0, e0, _, _⟩ := DataW.trod_int Try.underlying2 g0
  obtain ⟨u1, xs, e1, h1⟩ := read_ints0 g1
  obtain ⟨u2, ps, e2, h2⟩ := read_rows g2
  simp only [List.cons.injEq, and_true] at e0 e1 e2
  subst e0 e1 e2
  exact ⟨_, _, _, _, _, rfl, h1, h2⟩
end Go.Proofs.Ytplohdnakllbiaa
