/- Slices of nodes that come in, read. -/
import Derived.Test.YtfccpencgengaaaDoorRead
import Derived.Test.YtfccpencgengaaaDoorParts
import Derived.Deep.Slices
import Derived.Deep.Strs
namespace Go.Proofs.YtfccpencgengaaaDoor
open Go.RowKit Go.WideShapes Go.ChangeShapes Go.Deep

set_option maxRecDepth 100000 in
theorem read_ints0 {H : Type} {enc : TypeId × Value → H} {W : World} {fuel : Nat} {cs : List Value} {x : DataW H × List MemPlace}
    (h : DataW.trod enc Tryd.prog W 0 (fun _ => true) true fuel 41 cs = some x) : ∃ v xs, cs = [v] ∧ SlI (fun _ => True) W .i64 v xs := by
  rcases open_ints Tryd.underlying41 Tryd.underlying2 cellsI64 h with ⟨hcs, hx⟩ | ⟨a, len, cap, zs, hcs, _, hl, hm, hz, hx, hcell, hwz⟩
  · exact ⟨_, [], hcs, none, 0, 0, 0, rfl, by simp, fun h => by simp at h, fun i hi => by simp at hi⟩
  · simp only [if_true] at hz
    have hm' : cap ≤ 9223372036854775807 := by unfold maxLen at hm; omega
    by_cases h0 : len = 0
    · subst h0
      exact ⟨_, [], hcs, some a, 0, 0, cap, rfl, by simp; omega, fun h => by simp at h, fun i hi => by simp at hi⟩
    · obtain ⟨b, off, rfl, hc⟩ := Go.ints_at hcell (by omega)
      refine ⟨_, zs.take len, hcs, some ⟨b, off, none⟩, b, off, cap, by simp [List.length_take]; omega, by rw [List.length_take]; omega, fun _ => ⟨rfl, trivial⟩, fun i hi => ?_⟩
      have hi' : i < len ∧ i < zs.length := by simp at hi; omega
      have := hc i hi'.2
      rw [List.getElem_take]
      simpa [hi'.2] using this
theorem cellsLPart : Tryd.prog.cellsOf 104 = 3 := by kernel_rfl
instance : Inhabited PNode := ⟨⟨0, 0, []⟩⟩
set_option maxRecDepth 100000 in
theorem read_parts0 {H : Type} {enc : TypeId × Value → H} {W : World} {fuel : Nat} {cs : List Value} {x : DataW H × List MemPlace}
    (h : DataW.trod enc Tryd.prog W 0 (fun _ => true) true fuel 52 cs = some x) : ∃ v t, cs = [v] ∧ SlP (fun _ => True) W v t := by
  rcases open_slice Tryd.underlying52 h with ⟨hcs, _⟩ | ⟨a, len, cap, m, n, D, Pl, hcs, hb, hl, hm, hmm, hx, hrow⟩
  · exact ⟨_, [], hcs, none, 0, 0, 0, fun _ => undef, rfl, by simp, fun h => by simp at h, fun i hi => by simp at hi⟩
  simp only [if_true] at hmm
  have hm' : cap ≤ 9223372036854775807 := by unfold maxLen at hm; omega
  have each : ∀ i, i < len → ∃ q : PNode × Value, W.cell? (a.add (i * 3)) = some (.int .i64 q.1.kind) ∧ W.cell? (a.add (i * 3 + 1)) = some (.int .i64 q.1.vertex) ∧ W.cell? (a.add (i * 3 + 2)) = some q.2 ∧ SlI (fun _ => True) W .i64 q.2 q.1.kids := by
    intro i hi
    obtain ⟨cs', h1, h2⟩ := hrow i (by omega)
    rw [cellsLPart] at h1
    obtain ⟨_, hlen, hcell⟩ := World.cells?_some h1
    obtain ⟨y0, y1, y2, n', _, _, g0, g1, g2⟩ := trod_struct3 Tryd.underlying104 h2
    match cs', hlen with
    | [v0, v1, v2], _ =>
      simp only [List.drop_zero, List.drop_succ_cons, cellsI64, cellsRow, List.take_succ_cons, List.take_zero] at g0 g1 g2
      obtain ⟨k0, e0, _, _⟩ := DataW.trod_int Tryd.underlying2 g0
      obtain ⟨k1, e1, _, _⟩ := DataW.trod_int Tryd.underlying2 g1
      obtain ⟨v, xs, e2, hxs⟩ := read_ints0 g2
      simp only [List.cons.injEq, and_true] at e0 e1 e2
      subst e0 e1 e2
      have d0 := hcell 0 (by omega)
      have d1 := hcell 1 (by omega)
      have d2 := hcell 2 (by omega)
      rw [add_add] at d0 d1 d2
      exact ⟨(⟨k0, k1, xs⟩, v2), by simpa using d0, by simpa using d1, by simpa using d2, hxs⟩
  obtain ⟨q, hq⟩ := choose_lt each
  refine ⟨_, (List.range len).map fun i => (q i).1, hcs, ?_⟩
  by_cases h0 : len = 0
  · subst h0
    exact ⟨some a, 0, 0, cap, fun _ => undef, rfl, by simp; omega, fun h => by simp at h, fun i hi => by simp at hi⟩
  · have hc0 := (hq 0 (by omega)).1
    obtain ⟨b, off, spot⟩ := a
    have hspot : spot = none := by simpa [Addr.add] using World.cell?_spot hc0
    subst hspot
    refine ⟨some ⟨b, off, none⟩, b, off, cap, fun i => (q i).2, by simp, by rw [List.length_map, List.length_range]; omega, fun _ => ⟨rfl, trivial⟩, fun i hi => ?_⟩
    have hi' : i < len := by simpa using hi
    obtain ⟨h1, h2, h3, h4⟩ := hq i hi'
    rw [add_plain] at h1 h2 h3
    simp only [List.getElem_map, List.getElem_range]
    exact ⟨h1, by rw [Nat.add_assoc]; exact h2, by rw [Nat.add_assoc]; exact h3, h4⟩
set_option maxRecDepth 100000 in
theorem read_parts {H : Type} {enc : TypeId × Value → H} {W : World} {base : Nat} {v : Value} {d : DataW H} {p : List MemPlace} (hok : Value.okWide Tryd.prog W .any base 52 v)
    (h : DataW.Trod enc Tryd.prog W 0 (fun _ => true) true 52 v d p) : ∃ t, SlP (fun _ => True) W v t := by
  obtain ⟨a0, len, cap, rfl⟩ := okWide_slice Tryd.underlying52 hok
  obtain ⟨fuel, hf⟩ := h
  obtain ⟨v, t, hcs, ht⟩ := read_parts0 hf
  have : Value.slice a0 len cap = v := by simpa [Value.cells] using hcs
  subst this
  exact ⟨t, ht⟩
end Go.Proofs.YtfccpencgengaaaDoor
