/- The first way in which a vertex goes: plain facts. -/
import Derived.Test.YtfccpencgengaaaPruneM
namespace Go.Proofs.Ytfccpencgengaaa
open Go.RowKit
theorem goes_dom {a : List Nat} {s v : Nat} {y k : Int} (h : goesB a s v y k = true) : (k = 1 ∧ y = -1) ∨ (2 ≤ k ∧ k ≤ 4 ∧ 0 ≤ y ∧ y < a.length ∧ s.testBit y.toNat = true) := by
  unfold goesB at h
  split at h
  · rename_i h1
    left
    simp only [Bool.and_eq_true, decide_eq_true_eq] at h
    exact ⟨h1, h.1⟩
  · split at h
    · cases h
    · rename_i h1 h2
      right
      have h3 : 0 ≤ y ∧ y < a.length := Classical.not_not.1 fun e => h2 (.inl e)
      have h4 : s.testBit y.toNat = true := by
        cases e : s.testBit y.toNat
        · exact absurd (.inr (.inr e)) h2
        · rfl
      refine ⟨?_, ?_, h3.1, h3.2, h4⟩ <;>
      · split at h
        · omega
        · split at h
          · omega
          · split at h
            · omega
            · cases h
/-- o is the first way in which v goes, by kind and by neighbour. -/
def IsP (a : List Nat) (s v : Nat) : Option Tri → Prop
  | none => ∀ y k, goesB a s v y k = false
  | some p => p.a = v ∧ goesB a s v p.b p.c = true ∧ ∀ y k, (k < p.c ∨ k = p.c ∧ y < p.b) → goesB a s v y k = false
theorem IsP.unique {a : List Nat} {s v : Nat} {o o' : Option Tri} (h : IsP a s v o) (h' : IsP a s v o') : o = o' := by
  cases o with
  | none =>
    cases o' with
    | none => rfl
    | some p => have := h p.b p.c; rw [h'.2.1] at this; cases this
  | some p =>
    cases o' with
    | none => have := h' p.b p.c; rw [h.2.1] at this; cases this
    | some q =>
      obtain ⟨pa, pb, pc⟩ := p
      obtain ⟨qa, qb, qc⟩ := q
      obtain ⟨h1, h2, h3⟩ := h
      obtain ⟨h4, h5, h6⟩ := h'
      simp only at h1 h2 h3 h4 h5 h6
      have e1 : ¬ (qc < pc ∨ qc = pc ∧ qb < pb) := fun e => by rw [h3 _ _ e] at h5; cases h5
      have e2 : ¬ (pc < qc ∨ pc = qc ∧ pb < qb) := fun e => by rw [h6 _ _ e] at h2; cases h2
      have e3 : pa = qa := by omega
      have e4 : pc = qc := by omega
      have e5 : pb = qb := by omega
      rw [e3, e4, e5]
/-- Nothing before kind k goes; in kind k nothing before y. -/
def NoP (a : List Nat) (s v : Nat) (k y : Int) : Prop := ∀ y' k', (k' < k ∨ k' = k ∧ y' < y) → goesB a s v y' k' = false
theorem NoP.start {a : List Nat} {s v : Nat} : NoP a s v 1 (-1) := fun y' k' h => by
  cases e : goesB a s v y' k'
  · rfl
  · rcases goes_dom e with h1 | h1 <;> omega
theorem NoP.next {a : List Nat} {s v : Nat} {k y : Int} (h : NoP a s v k y) (h1 : goesB a s v y k = false) : NoP a s v k (y + 1) := fun y' k' h2 => by
  by_cases e : k' = k ∧ y' = y
  · rw [e.1, e.2]; exact h1
  · exact h y' k' (by omega)
theorem NoP.kind {a : List Nat} {s v : Nat} {k y : Int} (h : NoP a s v k y) (hy : (a.length : Int) ≤ y) : NoP a s v (k + 1) (-1) := fun y' k' h2 => by
  cases e : goesB a s v y' k'
  · rfl
  · have h3 := goes_dom e
    by_cases e2 : k' = k ∧ y ≤ y'
    · rcases h3 with h3 | h3 <;> omega
    · rw [h y' k' (by rcases h3 with h3 | h3 <;> omega)] at e; cases e
theorem NoP.out {a : List Nat} {s v : Nat} {k y : Int} (h : NoP a s v k y) (hk : 4 < k) : IsP a s v none := fun y' k' => by
  cases e : goesB a s v y' k'
  · rfl
  · rw [h y' k' (by rcases goes_dom e with h1 | h1 <;> omega)] at e; cases e
theorem NoP.found {a : List Nat} {s v : Nat} {k y : Int} (h : NoP a s v k y) (h1 : goesB a s v y k = true) : IsP a s v (some ⟨v, y, k⟩) := ⟨rfl, h1, h⟩
/-- The reference's state: before kind k nothing goes; in kind k none of the first i that are left. -/
def NoL (a : List Nat) (s v : Nat) (k : Int) (i : Nat) : Prop := NoP a s v k 0 ∧ ∀ j (hj : j < (bitsI s).length), j < i → goesB a s v (bitsI s)[j] k = false
theorem NoL.start {a : List Nat} {s v : Nat} (h : goesB a s v (-1) 1 = false) : NoL a s v 2 0 := by
  refine ⟨fun y' k' h2 => ?_, fun j _ h => by omega⟩
  cases e : goesB a s v y' k'
  · rfl
  · have h3 := goes_dom e
    by_cases e2 : k' = 1 ∧ y' = -1
    · rw [e2.1, e2.2, h] at e; cases e
    · rcases h3 with h3 | h3 <;> omega
theorem NoL.next {a : List Nat} {s v : Nat} {k : Int} {i : Nat} (h : NoL a s v k i) (hi : i < (bitsI s).length) (h1 : goesB a s v (bitsI s)[i] k = false) : NoL a s v k (i + 1) :=
  ⟨h.1, fun j hj hji => by
    by_cases e : j = i
    · subst e; exact h1
    · exact h.2 j hj (by omega)⟩
theorem NoL.kind {a : List Nat} {s v : Nat} {k : Int} {i : Nat} (hs : s < 4294967296) (h : NoL a s v k i) (hk : 2 ≤ k) (hi : (bitsI s).length ≤ i) : NoL a s v (k + 1) 0 := by
  refine ⟨fun y' k' h2 => ?_, fun j _ h => by omega⟩
  cases e : goesB a s v y' k'
  · rfl
  · have h3 := goes_dom e
    by_cases e2 : k' = k
    · rcases h3 with h3 | ⟨_, _, h4, h5, h6⟩
      · omega
      · obtain ⟨j, hj, hy⟩ := List.getElem_of_mem ((mem_bitsI hs).2 ⟨h4, h6⟩)
        rw [e2, ← hy, h.2 j hj (by omega)] at e; cases e
    · rw [h.1 y' k' (by rcases h3 with h3 | h3 <;> omega)] at e; cases e
theorem NoL.out {a : List Nat} {s v : Nat} {k : Int} {i : Nat} (h : NoL a s v k i) (hk : 4 < k) : IsP a s v none := h.1.out hk
theorem NoL.found {a : List Nat} {s v : Nat} {k : Int} {i : Nat} (hs : s < 4294967296) (hk : 2 ≤ k) (h : NoL a s v k i) (hi : i < (bitsI s).length) (h1 : goesB a s v (bitsI s)[i] k = true) : IsP a s v (some ⟨v, (bitsI s)[i], k⟩) := by
  refine ⟨rfl, h1, fun y' k' h2 => ?_⟩
  simp only at h2
  cases e : goesB a s v y' k'
  · rfl
  · have h3 := goes_dom e
    by_cases e2 : k' = k
    · rcases h3 with h3 | ⟨_, _, h4, h5, h6⟩
      · omega
      · obtain ⟨j, hj, hy⟩ := List.getElem_of_mem ((mem_bitsI hs).2 ⟨h4, h6⟩)
        have hji : j < i := by
          rcases Nat.lt_trichotomy j i with h | h | h
          · exact h
          · subst h; omega
          · have := (List.pairwise_iff_getElem.1 (bitsI_sorted s)) i j hi hj h; omega
        rw [e2, ← hy, h.2 j hj hji] at e; cases e
    · rw [h.1 y' k' (by rcases h3 with h3 | h3 <;> omega)] at e; cases e
end Go.Proofs.Ytfccpencgengaaa
