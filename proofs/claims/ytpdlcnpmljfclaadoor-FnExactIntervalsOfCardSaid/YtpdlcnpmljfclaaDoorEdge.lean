/- The edges of a graph, as pairs: of both. -/
import Derived.Test.YtpdlcnpmljfclaaDoorMark3
import Derived.Test.YtpdlcnpmljfclaaDoorLink
import Derived.Test.YtpdlcnpmljfclaaDoorWide2
import Derived.Test.YtpdlcnpmljfclaaDoorJoin
import Derived.Test.YtpdlcnpmljfclaaDoorDist3
namespace Go.Proofs.YtpdlcnpmljfclaaDoor
open Go.RowKit
def edgeRow (u : Nat) (row : List Int) : List (List Int) := (row.filter fun v => decide ((u : Int) < v)).map fun v => [(u : Int), v]
def edgesTo (g : List (List Int)) : Nat → List (List Int)
  | 0 => []
  | k + 1 => edgesTo g k ++ edgeRow k (g.getD k [])
def edgesL (g : List (List Int)) : List (List Int) := edgesTo g g.length
theorem edgeRow_len (u : Nat) (row : List Int) : (edgeRow u row).length ≤ row.length := by
  unfold edgeRow
  rw [List.length_map]
  exact List.length_filter_le _ _
theorem edgeRow_yes {u : Nat} {row : List Int} {j : Nat} (hj : j < row.length) (h : (u : Int) < row[j]) : edgeRow u (row.take (j + 1)) = edgeRow u (row.take j) ++ [[(u : Int), row[j]]] := by
  unfold edgeRow
  rw [List.take_succ_eq_append_getElem hj, List.filter_append, List.map_append]
  simp [h]
theorem edgeRow_no {u : Nat} {row : List Int} {j : Nat} (hj : j < row.length) (h : ¬ (u : Int) < row[j]) : edgeRow u (row.take (j + 1)) = edgeRow u (row.take j) := by
  unfold edgeRow
  rw [List.take_succ_eq_append_getElem hj, List.filter_append, List.map_append]
  simp [h]
theorem GOk.rowlen {g : List (List Int)} (hg : GOk g) {x : Nat} (hx : x < g.length) : g[x].length ≤ 32 := by
  have := bitsI_maskL (rise_sorted (hg.rise x hx)) (hg.ge32 hx)
  rw [← this]
  exact bitsI_len _
theorem edgesTo_len {g : List (List Int)} (hg : GOk g) : ∀ k, k ≤ g.length → (edgesTo g k).length ≤ 32 * k
  | 0, _ => by simp [edgesTo]
  | k + 1, hk => by
    have ih := edgesTo_len hg k (by omega)
    have h1 := edgeRow_len k (g.getD k [])
    have h2 := hg.rowlen (x := k) (by omega)
    have h3 : g.getD k [] = g[k] := by simp; rw [List.getElem?_eq_getElem (by omega)]; rfl
    rw [h3] at h1
    rw [edgesTo, List.length_append, h3]
    omega
theorem mem_edgeRow {u : Nat} {row : List Int} {e : List Int} : e ∈ edgeRow u row ↔ ∃ v ∈ row, (u : Int) < v ∧ e = [(u : Int), v] := by
  unfold edgeRow
  simp only [List.mem_map, List.mem_filter, decide_eq_true_eq]
  constructor
  · rintro ⟨v, ⟨h1, h2⟩, rfl⟩; exact ⟨v, h1, h2, rfl⟩
  · rintro ⟨v, h1, h2, rfl⟩; exact ⟨v, ⟨h1, h2⟩, rfl⟩
theorem mem_edgesTo {g : List (List Int)} {e : List Int} : ∀ {k : Nat}, e ∈ edgesTo g k ↔ ∃ u : Nat, u < k ∧ ∃ v ∈ g.getD u [], (u : Int) < v ∧ e = [(u : Int), v]
  | 0 => by simp [edgesTo]
  | k + 1 => by
    rw [edgesTo, List.mem_append, mem_edgesTo, mem_edgeRow]
    constructor
    · rintro (⟨u, h1, h2⟩ | h2)
      · exact ⟨u, by omega, h2⟩
      · exact ⟨k, by omega, h2⟩
    · rintro ⟨u, h1, h2⟩
      by_cases e : u = k
      · subst e; exact .inr h2
      · exact .inl ⟨u, by omega, h2⟩
theorem edges_small {g : List (List Int)} (hg : GOk g) : SmallR (edgesL g) 1048576 := by
  have h16 := hg.hi
  have := edgesTo_len hg g.length (Nat.le_refl _)
  refine ⟨by unfold edgesL; omega, fun i hi _ => ?_⟩
  obtain ⟨u, _, v, _, _, e⟩ := mem_edgesTo.1 (show (edgesL g)[i] ∈ edgesTo g g.length from List.getElem_mem hi)
  rw [e]; simp
