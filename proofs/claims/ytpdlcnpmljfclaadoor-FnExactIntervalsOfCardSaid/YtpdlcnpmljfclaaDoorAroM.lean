/- Rotation systems: what a right one is; plain facts. -/
import Derived.Test.YtpdlcnpmljfclaaDoorSets
namespace Go.Proofs.YtpdlcnpmljfclaaDoor
theorem nodup_lenA {α : Type} [DecidableEq α] : ∀ {l E : List α}, l.Nodup → (∀ x ∈ l, x ∈ E) → l.length ≤ E.length
  | [], _, _, _ => Nat.zero_le _
  | x :: l, E, hn, hs => by
    obtain ⟨h1, h2⟩ := List.nodup_cons.1 hn
    have hx := hs x (by simp)
    have := nodup_lenA (l := l) (E := E.erase x) h2 (fun y hy => by
      rw [List.mem_erase_of_ne (fun e => h1 (by rw [← e]; exact hy))]
      exact hs y (by simp [hy]))
    rw [List.length_erase_of_mem hx] at this
    have := List.length_pos_of_mem hx
    simp; omega
/-- One vertex's turn: the row's vertices, each once, the first one first. -/
structure TurnOk (row t : List Int) : Prop where
  len : t.length = row.length
  first : 0 < t.length → t.getD 0 0 = row.getD 0 0
  all : ∀ k, k < t.length → t.getD k 0 ∈ row ∧ t.getD k 0 ∉ t.take k
structure AroundP (g r : List (List Int)) : Prop where
  gok : GOk g
  len : r.length = g.length
  turn : ∀ v, v < g.length → TurnOk (g.getD v []) (r.getD v [])
open Classical in
noncomputable def aroundB (g r : List (List Int)) : Bool := decide (AroundP g r)
theorem around_true {g r : List (List Int)} (h : AroundP g r) : aroundB g r = true := by simp [aroundB, h]
theorem around_false {g r : List (List Int)} (h : ¬ AroundP g r) : aroundB g r = false := by simp [aroundB, h]
theorem around_iff {g r : List (List Int)} : aroundB g r = true ↔ AroundP g r := by simp [aroundB]
theorem nodup_takeA {xs : List Int} : xs.Nodup ↔ ∀ i, i < xs.length → xs.getD i 0 ∉ xs.take i := by
  rw [List.Nodup, List.pairwise_iff_getElem]
  have e : ∀ i (h : i < xs.length), xs.getD i 0 = xs[i] := fun i h => by simp [h]
  constructor
  · intro h i hi hm
    rw [e i hi] at hm
    obtain ⟨j, hj, e⟩ := List.getElem_of_mem hm
    rw [List.length_take] at hj
    rw [List.getElem_take] at e
    exact h j i (by omega) hi (by omega) e
  · intro h i j hi hj hij e2
    refine h j hj ?_
    rw [e j hj, ← e2]
    exact List.mem_iff_getElem.2 ⟨i, by rw [List.length_take]; omega, by rw [List.getElem_take]⟩
/-- Strictly rising lists with the same members are the same. -/
theorem sorted_same : ∀ {a b : List Int}, a.Pairwise (· < ·) → b.Pairwise (· < ·) → (∀ x, x ∈ a ↔ x ∈ b) → a = b := fun ha hb h => sorted_ext ha hb h
theorem turn_sorted {row t s : List Int} (hrow : row.Pairwise (· < ·)) (hs : s.Pairwise (· ≤ ·)) (hp : s.Perm t) : s = row ↔ (t.length = row.length ∧ t.Nodup ∧ ∀ x ∈ t, x ∈ row) := by
  have hrn : row.Nodup := hrow.imp fun h => by omega
  constructor
  · rintro rfl
    exact ⟨hp.length_eq.symm, hp.nodup_iff.1 hrn, fun x hx => hp.mem_iff.2 hx⟩
  · rintro ⟨h1, h2, h3⟩
    have hback : ∀ x ∈ row, x ∈ t := fun x hx => Classical.byContradiction fun hn => by
      have := nodup_lenA (l := t) (E := row.erase x) h2 (fun y hy => by
        rw [List.mem_erase_of_ne (fun e => hn (by rw [← e]; exact hy))]
        exact h3 y hy)
      rw [List.length_erase_of_mem hx] at this
      have := List.length_pos_of_mem hx
      omega
    have hsn : s.Nodup := hp.nodup_iff.2 h2
    refine sorted_same ?_ hrow (fun x => ⟨fun hx => h3 x (hp.mem_iff.1 hx), fun hx => hp.mem_iff.2 (hback x hx)⟩)
    exact (List.pairwise_and_iff.2 ⟨hs, hsn⟩).imp fun h => by omega
theorem turn_iff {row t s : List Int} (hrow : row.Pairwise (· < ·)) (hs : s.Pairwise (· ≤ ·)) (hp : s.Perm t) : TurnOk row t ↔ (s = row ∧ (0 < t.length → t.getD 0 0 = row.getD 0 0)) := by
  rw [turn_sorted hrow hs hp]
  have e : ∀ i (h : i < t.length), t.getD i 0 = t[i] := fun i h => by simp [h]
  constructor
  · intro h
    refine ⟨⟨h.len, nodup_takeA.2 fun i hi => (h.all i hi).2, fun x hx => ?_⟩, h.first⟩
    obtain ⟨i, hi, rfl⟩ := List.getElem_of_mem hx
    rw [← e i hi]; exact (h.all i hi).1
  · rintro ⟨⟨h1, h2, h3⟩, h4⟩
    exact ⟨h1, h4, fun k hk => ⟨by rw [e k hk]; exact h3 _ (List.getElem_mem hk), nodup_takeA.1 h2 k hk⟩⟩
end Go.Proofs.YtpdlcnpmljfclaaDoor
