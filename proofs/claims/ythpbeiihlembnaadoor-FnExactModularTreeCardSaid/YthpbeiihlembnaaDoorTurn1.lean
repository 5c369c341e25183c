/- Trees of a call's own: copied, marked, looked at again. -/
import Derived.Test.YthpbeiihlembnaaDoorParts2
import Derived.Test.YthpbeiihlembnaaDoorMark3
import Derived.Test.YthpbeiihlembnaaDoorJoin
namespace Go.Proofs.YthpbeiihlembnaaDoor
open Go.RowKit
/-- xs are the nodes' cells, vs their lists of kids. -/
def CellsP (t : List PNode) (xs vs : List Value) : Prop := xs.length = t.length * 3 ∧ vs.length = t.length ∧ ∀ i (hi : i < t.length) (hi2 : i < vs.length), xs[i * 3]? = some (.int .i64 t[i].kind) ∧ xs[i * 3 + 1]? = some (.int .i64 t[i].vertex) ∧ xs[i * 3 + 2]? = some vs[i]
theorem CellsP.nil : CellsP [] [] [] := ⟨rfl, rfl, fun i hi => by simp at hi⟩
theorem CellsP.snoc {t : List PNode} {xs vs : List Value} (h : CellsP t xs vs) (p : PNode) (v : Value) : CellsP (t ++ [p]) (xs ++ [.int .i64 p.kind, .int .i64 p.vertex, v]) (vs ++ [v]) := by
  obtain ⟨h1, h2, h3⟩ := h
  refine ⟨by simp [h1]; omega, by simp [h2], fun i hi hi2 => ?_⟩
  by_cases e : i < t.length
  · obtain ⟨g1, g2, g3⟩ := h3 i e (by omega)
    rw [List.getElem_append_left e, List.getElem_append_left (by omega), List.getElem?_append_left (by omega), List.getElem?_append_left (by omega), List.getElem?_append_left (by omega)]
    exact ⟨g1, g2, g3⟩
  · have e2 : i = t.length := by simp at hi; omega
    subst e2
    rw [List.getElem?_append_right (by omega), List.getElem?_append_right (by omega), List.getElem?_append_right (by omega), List.getElem_append_right (by omega), List.getElem_append_right (by omega)]
    have a1 : t.length * 3 - xs.length = 0 := by omega
    have a2 : t.length * 3 + 1 - xs.length = 1 := by omega
    have a3 : t.length * 3 + 2 - xs.length = 2 := by omega
    simp [a1, a2, a3, h2]
theorem CellsP.kind {t : List PNode} {xs vs : List Value} {j : Nat} (h : CellsP t xs vs) (hj : j < t.length) (k : Int) : CellsP (t.set j { t[j] with kind := k }) (xs.set (j * 3) (.int .i64 k)) vs := by
  obtain ⟨h1, h2, h3⟩ := h
  refine ⟨by simp [h1], by simp [h2], fun i hi hi2 => ?_⟩
  simp only [List.length_set] at hi
  obtain ⟨g1, g2, g3⟩ := h3 i hi hi2
  by_cases e : j = i
  · subst e
    rw [List.getElem_set_self, List.getElem?_set_self (by omega), List.getElem?_set_ne (by omega), List.getElem?_set_ne (by omega)]
    exact ⟨rfl, g2, g3⟩
  · rw [List.getElem_set_ne e, List.getElem?_set_ne (by omega), List.getElem?_set_ne (by omega), List.getElem?_set_ne (by omega)]
    exact ⟨g1, g2, g3⟩
theorem CellsP.vertex {t : List PNode} {xs vs : List Value} {j : Nat} (h : CellsP t xs vs) (hj : j < t.length) (k : Int) : CellsP (t.set j { t[j] with vertex := k }) (xs.set (j * 3 + 1) (.int .i64 k)) vs := by
  obtain ⟨h1, h2, h3⟩ := h
  refine ⟨by simp [h1], by simp [h2], fun i hi hi2 => ?_⟩
  simp only [List.length_set] at hi
  obtain ⟨g1, g2, g3⟩ := h3 i hi hi2
  by_cases e : j = i
  · subst e
    rw [List.getElem_set_self, List.getElem?_set_self (by omega), List.getElem?_set_ne (by omega), List.getElem?_set_ne (by omega)]
    exact ⟨g1, rfl, g3⟩
  · rw [List.getElem_set_ne e, List.getElem?_set_ne (by omega), List.getElem?_set_ne (by omega), List.getElem?_set_ne (by omega)]
    exact ⟨g1, g2, g3⟩
/-- The kids' lists: of the call's own, each for itself. -/
def KidsP (w : World) (B C : Nat) (EI : TypeId) (u : Value) (t : List PNode) (vs : List Value) : Prop := ∀ i (hi : i < t.length) (hi2 : i < vs.length), Own w B EI 1 vs[i] t[i].kids.length (t[i].kids.map (.int .i64)) ∧ ∀ b, vs[i].ownBlock = some b → b < C ∧ u.ownBlock ≠ some b
/-- u is a tree of the call's own. -/
def OwnP (w : World) (B C : Nat) (EO EI : TypeId) (u : Value) (t : List PNode) : Prop :=
  ∃ xs vs, CellsP t xs vs ∧ Own w B EO 3 u t.length xs ∧ (∀ b, u.ownBlock = some b → b < C) ∧ ApartL vs ∧ KidsP w B C EI u t vs
theorem OwnP.isSlice {w : World} {B C : Nat} {EO EI : TypeId} {u : Value} {t : List PNode} (h : OwnP w B C EO EI u t) : ∃ a c, u = .slice a t.length c := by
  obtain ⟨xs, vs, _, h2, _⟩ := h
  exact h2.isSlice
theorem OwnP.below {w w' : World} {B C B1 : Nat} {EO EI : TypeId} {u : Value} {t : List PNode} (h : OwnP w B C EO EI u t) (hb : Below B1 w w') (hB : w.heap.size ≤ B1) : OwnP w' B C EO EI u t := by
  obtain ⟨xs, vs, h1, h2, h3, h4, h5⟩ := h
  exact ⟨xs, vs, h1, h2.below hb hB, h3, h4, fun i hi hi2 => ⟨(h5 i hi hi2).1.below hb hB, (h5 i hi hi2).2⟩⟩
theorem OwnP.between {w w' : World} {B0 C0 B C : Nat} {EO EI : TypeId} {u : Value} {t : List PNode} (h : OwnP w B0 C0 EO EI u t) (hb : Between B C w w') (hS : C ≤ B0 ∨ C0 ≤ B) : OwnP w' B0 C0 EO EI u t := by
  obtain ⟨xs, vs, h1, h2, h3, h4, h5⟩ := h
  refine ⟨xs, vs, h1, h2.keep fun b hv => hb.block b (h2.lt b hv).2 ?_, h3, h4, fun i hi hi2 => ⟨(h5 i hi hi2).1.keep fun b hv => hb.block b ((h5 i hi hi2).1.lt b hv).2 ?_, (h5 i hi hi2).2⟩⟩
  · have h6 := (h2.lt b hv).1; have h7 := h3 b hv; omega
  · have h6 := ((h5 i hi hi2).1.lt b hv).1; have h7 := ((h5 i hi hi2).2 b hv).1; omega
theorem OwnP.parts {w : World} {B C : Nat} {EO EI : TypeId} {u : Value} {t : List PNode} (h : OwnP w B C EO EI u t) (hs : SmallP t 1048576) : SlP (fun b => B ≤ b ∧ b < C) w u t := by
  obtain ⟨xs, vs, ⟨h1, h2, h3⟩, h4, h5, h6, h7⟩ := h
  have hgl : t.length ≤ 1048576 := by have := hs.1; omega
  rcases own_none_some h4 with ⟨rfl, hn⟩ | ⟨g, c, rfl⟩
  · have ht : t = [] := List.eq_nil_of_length_eq_zero hn
    subst ht
    exact ⟨none, 0, 0, 0, fun _ => undef, rfl, by simp, fun h => by simp at h, fun i hi => by simp at hi⟩
  · have hcap : t.length ≤ c ∧ c ≤ 9223372036854775807 := by
      rcases h4.2 with ⟨hv, _⟩ | ⟨g', cap', cur, hv, _, _, hnc, hcm, _⟩
      · cases hv
      · simp only [Value.slice.injEq] at hv
        obtain ⟨_, _, rfl⟩ := hv
        exact ⟨hnc, by unfold maxLen at hcm; omega⟩
    refine ⟨_, g, 0, c, fun i => vs.getD i undef, rfl, hcap, fun _ => ⟨rfl, (h4.lt g rfl).1, h5 g rfl⟩, fun i hi => ?_⟩
    obtain ⟨g1, g2, g3⟩ := h3 i hi (by omega)
    have hcell := fun j => World.ownsRow.cellAt h4 j
    have hi2 : i < vs.length := by omega
    have hgd : vs.getD i undef = vs[i] := by simp [hi2]
    obtain ⟨k1, k2⟩ := h7 i hi hi2
    refine ⟨?_, ?_, ?_, ?_⟩
    · rw [Nat.zero_add, hcell _ (by omega)]; exact g1
    · rw [Nat.zero_add, hcell _ (by omega)]; exact g2
    · rw [Nat.zero_add, hcell _ (by omega), g3]; simp only [hgd]
    · simp only [hgd]
      have hsm := hs.2 i hi hi
      exact (Own.ints k1 (by omega)).weak fun b hb => ⟨(k1.lt b hb).1, (k2 b hb).1⟩
/-- What marking makes of a tree. -/
def markP : Int → List PNode → List PNode
  | _, [] => []
  | k, p :: t => ⟨k, k + 1, marksL (k + 2) p.kids.length⟩ :: markP (k + 2 + p.kids.length) t
def sizeP (t : List PNode) : Nat := (t.map fun p => 2 + p.kids.length).sum
theorem markP_len : ∀ (k : Int) (t : List PNode), (markP k t).length = t.length
  | _, [] => rfl
  | k, p :: t => by simp [markP, markP_len]
theorem sizeP_snoc (t : List PNode) (p : PNode) : sizeP (t ++ [p]) = sizeP t + (2 + p.kids.length) := by simp [sizeP]
theorem markP_get : ∀ (k : Int) (t : List PNode) (i : Nat) (hi : i < t.length), (markP k t)[i]'(by rw [markP_len]; exact hi) = ⟨k + sizeP (t.take i), k + sizeP (t.take i) + 1, marksL (k + sizeP (t.take i) + 2) t[i].kids.length⟩
  | k, p :: t, 0, hi => by simp [markP, sizeP]
  | k, p :: t, i + 1, hi => by
    have ih := markP_get (k + 2 + p.kids.length) t i (by simpa using hi)
    have e : k + (sizeP ((p :: t).take (i + 1)) : Int) = k + 2 + p.kids.length + sizeP (t.take i) := by simp [sizeP]; omega
    rw [e]
    simpa [markP] using ih
theorem sizeP_take {t : List PNode} {i : Nat} (hi : i < t.length) : sizeP (t.take (i + 1)) = sizeP (t.take i) + (2 + t[i].kids.length) := by
  rw [List.take_succ_eq_append_getElem hi, sizeP_snoc]
theorem sizeP_le {t : List PNode} (h : SmallP t 1048576) : ∀ i, i ≤ t.length → sizeP (t.take i) ≤ i * 1048578
  | 0, _ => by simp [sizeP]
  | i + 1, hi => by
    have ih := sizeP_le h i (by omega)
    have := h.2 i (by omega) (by omega)
    rw [sizeP_take (show i < t.length by omega)]
    omega
theorem markP_small {t : List PNode} {k : Int} (h : SmallP t 1048576) : SmallP (markP k t) 1048576 := by
  refine ⟨by rw [markP_len]; exact h.1, fun i hi _ => ?_⟩
  rw [markP_len] at hi
  rw [markP_get k t i hi]
  simp only [marksL_len]
  exact h.2 i hi hi
