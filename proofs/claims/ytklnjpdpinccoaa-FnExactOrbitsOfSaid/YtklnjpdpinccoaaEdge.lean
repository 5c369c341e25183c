/- The edges of a graph, as pairs: of both. -/
import Derived.Test.YtklnjpdpinccoaaMark3
import Derived.Test.YtklnjpdpinccoaaWide1
import Derived.Test.YtklnjpdpinccoaaJoin
import Derived.Test.YtklnjpdpinccoaaDist2
namespace Go.Proofs.Ytklnjpdpinccoaa
open Go.RowKit
def edgeRow (u : Nat) (row : List Int) : List (List Int) := (row.filter fun v => decide ((u : Int) < v)).map fun v => [(u : Int), v]
def edgesTo (g : List (List Int)) : Nat → List (List Int)
  | 0 => []
  | k + 1 => edgesTo g k ++ edgeRow k (g.getD k [])
def edgesL (g : List (List Int)) : List (List Int) := edgesTo g g.length
theorem edgeRow_len (u : Nat) (row : List Int) : (edgeRow u row).length ≤ row.length := by
  unfold edgeRow
  rw [List.length_map]
  exact List.length_filter_le _ _
theorem edgeRow_yes {u : Nat} {row : List Int} {j : Nat} (hj : j < row.length) (h : (u : Int) < row[j]) : edgeRow u (row.take (j + 1)) = edgeRow u (row.take j) ++ [[(u : Int), row[j]]] := by
  unfold edgeRow
  rw [List.take_succ_eq_append_getElem hj, List.filter_append, List.map_append]
  simp [h]
theorem edgeRow_no {u : Nat} {row : List Int} {j : Nat} (hj : j < row.length) (h : ¬ (u : Int) < row[j]) : edgeRow u (row.take (j + 1)) = edgeRow u (row.take j) := by
  unfold edgeRow
  rw [List.take_succ_eq_append_getElem hj, List.filter_append, List.map_append]
  simp [h]
theorem GOk.rowlen {g : List (List Int)} (hg : GOk g) {x : Nat} (hx : x < g.length) : g[x].length ≤ 32 := by
  have := bitsI_maskL (rise_sorted (hg.rise x hx)) (hg.ge32 hx)
  rw [← this]
  exact bitsI_len _
theorem edgesTo_len {g : List (List Int)} (hg : GOk g) : ∀ k, k ≤ g.length → (edgesTo g k).length ≤ 32 * k
  | 0, _ => by simp [edgesTo]
  | k + 1, hk => by
    have ih := edgesTo_len hg k (by omega)
    have h1 := edgeRow_len k (g.getD k [])
    have h2 := hg.rowlen (x := k) (by omega)
    have h3 : g.getD k [] = g[k] := by simp; rw [List.getElem?_eq_getElem (by omega)]; rfl
    rw [h3] at h1
    rw [edgesTo, List.length_append, h3]
    omega
theorem mem_edgeRow {u : Nat} {row : List Int} {e : List Int} : e ∈ edgeRow u row ↔ ∃ v ∈ row, (u : Int) < v ∧ e = [(u : Int), v] := by
  unfold edgeRow
  simp only [List.mem_map, List.mem_filter, decide_eq_true_eq]
  constructor
  · rintro ⟨v, ⟨h1, h2⟩, rfl⟩; exact ⟨v, h1, h2, rfl⟩
  · rintro ⟨v, h1, h2, rfl⟩; exact ⟨v, ⟨h1, h2⟩, rfl⟩
theorem mem_edgesTo {g : List (List Int)} {e : List Int} : ∀ {k : Nat}, e ∈ edgesTo g k ↔ ∃ u : Nat, u < k ∧ ∃ v ∈ g.getD u [], (u : Int) < v ∧ e = [(u : Int), v]
  | 0 => by simp [edgesTo]
  | k + 1 => by
    rw [edgesTo, List.mem_append, mem_edgesTo, mem_edgeRow]
    constructor
    · rintro (⟨u, h1, h2⟩ | h2)
      · exact ⟨u, by omega, h2⟩
      · exact ⟨k, by omega, h2⟩
    · rintro ⟨u, h1, h2⟩
      by_cases e : u = k
      · subst e; exact .inr h2
      · exact .inl ⟨u, by omega, h2⟩
theorem edges_small {g : List (List Int)} (hg : GOk g) : SmallR (edgesL g) 1048576 := by
  have h16 := hg.hi
  have := edgesTo_len hg g.length (Nat.le_refl _)
  refine ⟨by unfold edgesL; omega, fun i hi _ => ?_⟩
  obtain ⟨u, _, v, _, _, e⟩ := mem_edgesTo.1 (show (edgesL g)[i] ∈ edgesTo g g.length from List.getElem_mem hi)
  rw [e]; simp
/-- One row more, laid behind all that was. -/
theorem ownR_snoc {w w' : World} {B C : Nat} {EO EI : TypeId} {u u' : Value} {g : List (List Int)} {r : List Int} {v : Value} {vs : List Value} (hl : vs.length = g.length) (hC : C ≤ w.heap.size) (hap : ApartL vs) (hrow : ∀ i (h : i < g.length) (h2 : i < vs.length), Own w B EI 1 vs[i] g[i].length (g[i].map (.int .i64)) ∧ (∀ b, vs[i].ownBlock = some b → b < C ∧ u.ownBlock ≠ some b)) (hbC : ∀ b, u.ownBlock = some b → b < C)
    (hown : Own w' B EO 1 u' (g.length + 1) (vs ++ [v])) (hv : Own w B EI 1 v r.length (r.map (.int .i64))) (hvC : ∀ b, v.ownBlock = some b → C ≤ b) (hk : KeptBut w w' u.ownBlock) (hm : u'.ownBlock = u.ownBlock ∨ ∃ b, u'.ownBlock = some b ∧ w.heap.size ≤ b) : OwnR w' B w'.heap.size EO EI u' (g ++ [r]) := by
  have hu' : ∀ b, b < w.heap.size → u.ownBlock ≠ some b → u'.ownBlock ≠ some b := fun b hb hne e => by
    rcases hm with h | ⟨c, h, hc⟩
    · rw [h] at e; exact hne e
    · rw [h] at e; simp at e; omega
  refine ⟨vs ++ [v], by simp [hl], by rw [List.length_append, List.length_singleton]; exact hown, fun b hb => (hown.lt b hb).2, hap.snoc (N := C) (fun i hi b hb => ((hrow i (by omega) hi).2 b hb).1) hvC, fun i hi hi2 => ?_⟩
  by_cases e : i < g.length
  · rw [List.getElem_append_left e, List.getElem_append_left (by omega)]
    obtain ⟨h1, h2⟩ := hrow i e (by omega)
    exact ⟨h1.kept hk (fun b hb he => (h2 b hb).2 he), fun b hb => ⟨Nat.lt_of_lt_of_le (h1.lt b hb).2 hk.2.2.2.1, hu' b (h1.lt b hb).2 (h2 b hb).2⟩⟩
  · have e2 : i = g.length := by simp at hi; omega
    subst e2
    rw [List.getElem_append_right (by omega), List.getElem_append_right (by omega)]
    have a1 : g.length - vs.length = 0 := by omega
    simp only [Nat.sub_self, a1, List.getElem_cons_zero]
    have hne : ∀ b, v.ownBlock = some b → u.ownBlock ≠ some b := fun b hb he => by have h1 := hbC b he; have h2 := hvC b hb; omega
    exact ⟨hv.kept hk (fun b hb he => hne b hb he), fun b hb => ⟨Nat.lt_of_lt_of_le (hv.lt b hb).2 hk.2.2.2.1, hu' b (hv.lt b hb).2 (hne b hb)⟩⟩
