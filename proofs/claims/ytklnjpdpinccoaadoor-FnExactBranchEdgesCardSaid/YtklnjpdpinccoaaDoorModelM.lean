/- Sets told by a word over the vertices: plain facts. -/
import Derived.Test.YtklnjpdpinccoaaDoorMod3
namespace Go.Proofs.YtklnjpdpinccoaaDoor
open Go.RowKit
def paintL (o s : List Int) (x : Int) : List Int := s.foldl (fun o v => o.set v.toNat x) o
theorem paintL_snoc (o s : List Int) (v x : Int) : paintL o (s ++ [v]) x = (paintL o s x).set v.toNat x := by simp [paintL]
theorem paintL_take {o s : List Int} {x : Int} {k : Nat} (hk : k < s.length) : paintL o (s.take (k + 1)) x = (paintL o (s.take k) x).set (s[k]).toNat x := by
  rw [List.take_succ_eq_append_getElem hk, paintL_snoc]
theorem paintL_len (s : List Int) (x : Int) : ∀ o : List Int, (paintL o s x).length = o.length := by
  induction s with
  | nil => intro o; rfl
  | cons v s ih => intro o; exact (ih _).trans (by simp)
theorem paintL_get {x : Int} {i : Nat} : ∀ {s o : List Int}, (∀ v ∈ s, 0 ≤ v) → i < o.length → (paintL o s x).getD i 0 = if (i : Int) ∈ s then x else o.getD i 0
  | [], o, _, _ => by simp [paintL]
  | v :: s, o, h, hi => by
    have hv := h v (by simp)
    have ih := paintL_get (x := x) (i := i) (s := s) (o := o.set v.toNat x) (fun u hu => h u (by simp [hu])) (by simpa using hi)
    rw [show paintL o (v :: s) x = paintL (o.set v.toNat x) s x from rfl, ih]
    by_cases h1 : (i : Int) ∈ s
    · simp [h1]
    · by_cases h2 : (i : Int) = v
      · subst h2; simp [hi]
      · have h3 : ¬ v.toNat = i := by omega
        simp [h1, h2, h3, List.getElem?_set_ne h3]
/-- The word behind the first k sets. -/
def wordL (n : Nat) (ms : List (List Int)) : Nat → List Int
  | 0 => List.replicate n 0
  | k + 1 => paintL (wordL n ms k) (ms.getD k []) ((k : Int) + 1)
theorem wordL_len (n : Nat) (ms : List (List Int)) : ∀ k, (wordL n ms k).length = n
  | 0 => by simp [wordL]
  | k + 1 => by rw [wordL, paintL_len, wordL_len]
/-- The first k sets are right: rising, apart from each other. -/
def SetsTo (n : Nat) (ms : List (List Int)) (k : Nat) : Prop := ∀ j, j < k → Rise (ms.getD j []) n ∧ ∀ i, i < j → ∀ v ∈ ms.getD j [], ¬ v ∈ ms.getD i []
def metL (ms : List (List Int)) (k : Nat) (v : Int) : Prop := ∃ j, j < k ∧ v ∈ ms.getD j []
theorem word_pos {n : Nat} {ms : List (List Int)} : ∀ {k : Nat} {v : Nat}, SetsTo n ms k → v < n → (0 < (wordL n ms k).getD v 0 ↔ metL ms k (v : Int)) ∧ 0 ≤ (wordL n ms k).getD v 0
  | 0, v, _, hv => by
    constructor
    · constructor
      · intro h; simp [wordL, hv] at h
      · rintro ⟨j, hj, _⟩; omega
    · simp [wordL, hv]
  | k + 1, v, h, hv => by
    have hk := h k (by omega)
    obtain ⟨ih, ih0⟩ := word_pos (k := k) (v := v) (fun j hj => h j (by omega)) hv
    rw [wordL, paintL_get (fun u hu => (rise_ge hk.1 u hu).1) (by rw [wordL_len]; exact hv)]
    constructor
    · constructor
      · intro h1
        split at h1
        · exact ⟨k, by omega, by assumption⟩
        · obtain ⟨j, hj, hm⟩ := ih.1 h1; exact ⟨j, by omega, hm⟩
      · rintro ⟨j, hj, hm⟩
        by_cases e : j = k
        · subst e; rw [if_pos hm]; omega
        · have := ih.2 ⟨j, by omega, hm⟩
          split
          · omega
          · exact this
    · split
      · omega
      · exact ih0
open Classical in
/-- What ModelWord tells. -/
noncomputable def modelF (g ms : List (List Int)) : Option (List Int) := if gokB g = true ∧ ms.length ≤ 16 ∧ SetsTo g.length ms ms.length then some (wordL g.length ms ms.length) else none
theorem modelF_no {g ms : List (List Int)} (h : ¬ (gokB g = true ∧ ms.length ≤ 16 ∧ SetsTo g.length ms ms.length)) : modelF g ms = none := by simp only [modelF, if_neg h]
theorem modelF_yes {g ms : List (List Int)} (h : gokB g = true ∧ ms.length ≤ 16 ∧ SetsTo g.length ms ms.length) : modelF g ms = some (wordL g.length ms ms.length) := by simp only [modelF, if_pos h]
theorem setsTo_succ {n : Nat} {ms : List (List Int)} {k : Nat} (h : SetsTo n ms k) (hr : Rise (ms.getD k []) n) (hd : ∀ v ∈ ms.getD k [], ¬ metL ms k v) : SetsTo n ms (k + 1) := fun j hj => by
  by_cases e : j = k
  · subst e; exact ⟨hr, fun i hi v hv hm => hd v hv ⟨i, hi, hm⟩⟩
  · exact h j (by omega)
theorem setsTo_bad_rise {n : Nat} {ms : List (List Int)} {k : Nat} (hk : k < ms.length) (hr : ¬ Rise (ms.getD k []) n) : ¬ SetsTo n ms ms.length := fun h => hr (h k hk).1
theorem setsTo_bad_met {n : Nat} {ms : List (List Int)} {k : Nat} {v : Int} (hk : k < ms.length) (hv : v ∈ ms.getD k []) (hm : metL ms k v) : ¬ SetsTo n ms ms.length := fun h => by
  obtain ⟨j, hj, hm⟩ := hm
  exact (h k hk).2 j hj v hv hm
theorem metL_succ {ms : List (List Int)} {k : Nat} {v : Int} : metL ms (k + 1) v ↔ metL ms k v ∨ v ∈ ms.getD k [] := by
  constructor
  · rintro ⟨j, hj, hm⟩
    by_cases e : j = k
    · subst e; exact .inr hm
    · exact .inl ⟨j, by omega, hm⟩
  · rintro (⟨j, hj, hm⟩ | hm)
    · exact ⟨j, by omega, hm⟩
    · exact ⟨k, by omega, hm⟩
/-- The union of the first k sets as a word. -/
def seenL (ms : List (List Int)) : Nat → Nat
  | 0 => 0
  | k + 1 => seenL ms k ||| maskL (ms.getD k [])
theorem seenL_bit {n : Nat} {ms : List (List Int)} : ∀ {k : Nat}, SetsTo n ms k → ∀ i : Nat, (seenL ms k).testBit i = true ↔ metL ms k (i : Int)
  | 0, _, i => by
    rw [seenL, Nat.zero_testBit]
    constructor
    · intro h; cases h
    · rintro ⟨j, hj, _⟩; omega
  | k + 1, h, i => by
    rw [seenL, Nat.testBit_or, Bool.or_eq_true, seenL_bit (fun j hj => h j (by omega)) i, testBit_maskL (fun x hx => (rise_ge (h k (by omega)).1 x hx).1), metL_succ]
    simp
theorem seenL_lt {n : Nat} {ms : List (List Int)} (hn : n ≤ 16) : ∀ {k : Nat}, SetsTo n ms k → seenL ms k < 2 ^ n
  | 0, _ => Nat.two_pow_pos n
  | k + 1, h => Nat.or_lt_two_pow (seenL_lt hn fun j hj => h j (by omega)) (maskL_lt fun x hx => rise_ge (h k (by omega)).1 x hx)
end Go.Proofs.YtklnjpdpinccoaaDoor
