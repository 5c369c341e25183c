/- Vertices folded away one by one: plain facts. -/
import Derived.Test.YtbpjbjeglcphcaaJoin
import Derived.Test.YtbpjbjeglcphcaaReachM
namespace Go.Proofs.Ytbpjbjeglcphcaa
open Go.RowKit
structure Tri where
  a : Int
  b : Int
  c : Int
deriving DecidableEq
/-- The neighbours of v that are left. -/
def nearN (a : List Nat) (left v : Nat) : List Nat := bitsN (a.getD v 0 &&& left)
/-- How v folds away, where at most two neighbours are left. -/
def foldF (a : List Nat) (left v : Nat) : Option Tri :=
  if 2 < (nearN a left v).length then none
  else some ⟨v, if 0 < (nearN a left v).length then ((nearN a left v).getD 0 0 : Nat) else -1, if 1 < (nearN a left v).length then ((nearN a left v).getD 1 0 : Nat) else -1⟩
def foldN (a : List Nat) (f : Tri) : List Nat := if 0 ≤ f.c then joinN a f.b.toNat f.c.toNat else a
/-- The least vertex that folds. -/
def foldV (a : List Nat) (left : Nat) : Option Nat := (bitsN left).find? fun v => (foldF a left v).isSome
/-- All foldings, the least first. -/
def foldsF : Nat → List Nat → Nat → List Nat × Nat
  | 0, a, left => (a, left)
  | n + 1, a, left => match foldV a left with
    | none => (a, left)
    | some v => match foldF a left v with
      | none => (a, left)
      | some f => foldsF n (foldN a f) (andN left (bit v))
/-- The reference's graph when a, left are the program's state. -/
def rowsN (a : List Nat) (left n : Nat) : List (List Int) := (List.range n).map fun u => if left.testBit u = true then bitsI (a.getD u 0 &&& left) else []
theorem rowsN_len (a : List Nat) (left n : Nat) : (rowsN a left n).length = n := by simp [rowsN]
theorem rowsN_get {a : List Nat} {left n u : Nat} (hu : u < (rowsN a left n).length) : (rowsN a left n)[u] = if left.testBit u = true then bitsI (a.getD u 0 &&& left) else [] := by simp [rowsN]
theorem rowsN_getD {a : List Nat} {left n u : Nat} (hu : u < n) : (rowsN a left n).getD u [] = if left.testBit u = true then bitsI (a.getD u 0 &&& left) else [] := by simp [rowsN, hu]
/-- What the state keeps: words of n bits, no vertex its own neighbour. -/
structure FoldI (a : List Nat) (left n : Nat) : Prop where
  len : a.length = n
  le : n ≤ 16
  left : left < 2 ^ n
  lt : ∀ m ∈ a, m < 4294967296
  irr : ∀ u, (a.getD u 0).testBit u = false
theorem FoldI.left32 {a : List Nat} {left n : Nat} (h : FoldI a left n) : left < 4294967296 := Nat.lt_of_lt_of_le h.left (by have := pow_le16 h.le; omega)
theorem FoldI.near32 {a : List Nat} {left n : Nat} (h : FoldI a left n) (v : Nat) : a.getD v 0 &&& left < 4294967296 := Nat.lt_of_le_of_lt Nat.and_le_right h.left32
theorem mem_near {a : List Nat} {left n v u : Nat} (h : FoldI a left n) : u ∈ nearN a left v ↔ (a.getD v 0).testBit u = true ∧ left.testBit u = true := by
  unfold nearN
  rw [mem_bitsN (h.near32 v), Nat.testBit_and, Bool.and_eq_true]
theorem near_I (a : List Nat) (left v : Nat) : bitsI (a.getD v 0 &&& left) = natsI (nearN a left v) := rfl
theorem near_nodup (a : List Nat) (left v : Nat) : (nearN a left v).Nodup := by
  unfold nearN
  exact (bitsN_sorted _).imp (fun h => Nat.ne_of_lt h)
/-- What a folding names: neighbours that are left. -/
theorem fold_names {a : List Nat} {left n v : Nat} {f : Tri} (h : FoldI a left n) (hf : foldF a left v = some f) :
    f.a = v ∧ (f.b = -1 ∨ ∃ x, f.b = (x : Nat) ∧ left.testBit x = true ∧ x ≠ v) ∧ (f.c = -1 ∨ ∃ x y, f.b = (x : Nat) ∧ f.c = (y : Nat) ∧ left.testBit x = true ∧ left.testBit y = true ∧ x ≠ v ∧ y ≠ v ∧ x ≠ y) := by
  unfold foldF at hf
  split at hf
  · cases hf
  · rename_i hl
    simp only [Option.some.injEq] at hf
    subst hf
    have hm : ∀ i (hi : i < (nearN a left v).length), left.testBit ((nearN a left v).getD i 0) = true ∧ (nearN a left v).getD i 0 ≠ v := fun i hi => by
      have e : (nearN a left v).getD i 0 = (nearN a left v)[i] := by simp [hi]
      have := (mem_near h).1 (List.getElem_mem hi)
      rw [e]
      refine ⟨this.2, fun e2 => ?_⟩
      rw [e2, h.irr] at this; cases this.1
    refine ⟨rfl, ?_, ?_⟩
    · by_cases h0 : 0 < (nearN a left v).length
      · right; refine ⟨_, by simp only [if_pos h0], hm 0 h0⟩
      · left; simp only [if_neg h0]
    · by_cases h1 : 1 < (nearN a left v).length
      · right
        refine ⟨_, _, by simp only [if_pos (show 0 < (nearN a left v).length by omega)], by simp only [if_pos h1], (hm 0 (by omega)).1, (hm 1 h1).1, (hm 0 (by omega)).2, (hm 1 h1).2, fun e => ?_⟩
        have e0 : (nearN a left v).getD 0 0 = (nearN a left v)[0]'(by omega) := by simp [show 0 < (nearN a left v).length by omega]
        have e1 : (nearN a left v).getD 1 0 = (nearN a left v)[1] := by simp [h1]
        rw [e0, e1] at e
        have := (List.getElem_inj (near_nodup a left v)).1 e
        omega
      · left; simp only [if_neg h1]
theorem getD_set_n {a : List Nat} {u v x : Nat} (hu : u < a.length) : (a.set u x).getD v 0 = if u = v then x else a.getD v 0 := by
  by_cases e : u = v
  · subst e; simp [hu]
  · simp [List.getElem?_set_ne e, e]
theorem joinN_get {a : List Nat} {u x v : Nat} (hu : u < a.length) (hx : x < a.length) (hux : u ≠ x) :
    (joinN a u x).getD v 0 = if v = u then a.getD u 0 ||| bit x else if v = x then a.getD x 0 ||| bit u else a.getD v 0 := by
  unfold joinN orAt
  rw [getD_set_n (by simpa using hx), getD_set_n hu, getD_set_n hu, if_neg hux]
  by_cases h1 : x = v
  · subst h1
    have : ¬ x = u := fun e => hux e.symm
    simp [this]
  · by_cases h2 : u = v
    · subst h2; simp [h1]
    · have h3 : ¬ v = u := fun e => h2 e.symm
      have h4 : ¬ v = x := fun e => h1 e.symm
      simp [h1, h2, h3, h4]
theorem FoldI.next {a : List Nat} {left n v : Nat} {f : Tri} (h : FoldI a left n) (hv : v < n) (hf : foldF a left v = some f) : FoldI (foldN a f) (andN left (bit v)) n := by
  have hl := h.left32
  have h16 := h.le
  have hlen := h.len
  have hleft : andN left (bit v) < 2 ^ n := Nat.lt_of_le_of_lt (andN_le _ _) h.left
  obtain ⟨hfa, hfb, hfc⟩ := fold_names h hf
  unfold foldN
  rcases hfc with hc | ⟨x, y, hb, hc, hx, hy, hxv, hyv, hxy⟩
  · rw [hc, if_neg (by omega)]
    exact ⟨hlen, h16, hleft, h.lt, h.irr⟩
  · have hxn := bit_lt_of h.left hx
    have hyn := bit_lt_of h.left hy
    rw [hb, hc, if_pos (by omega), Int.toNat_natCast, Int.toNat_natCast]
    refine ⟨by rw [joinN_len]; exact hlen, h16, hleft, joinN_lt h.lt (by omega) (by omega), fun u => ?_⟩
    rw [joinN_get (by omega) (by omega) hxy]
    by_cases e1 : u = x
    · subst e1
      rw [if_pos rfl, Nat.testBit_or, h.irr, testBit_bit]; simpa using fun e => hxy e.symm
    · rw [if_neg e1]
      by_cases e2 : u = y
      · subst e2
        rw [if_pos rfl, Nat.testBit_or, h.irr, testBit_bit]; simpa using hxy
      · rw [if_neg e2]; exact h.irr u
/-- The reference's row of u behind a folding. -/
def lessL (l : List Int) (v : Int) : List Int := l.filter fun x => !decide (x = v)
theorem less_bits {m : Nat} (hm : m < 4294967296) {v : Nat} (hv : v < 32) : lessL (bitsI m) (v : Int) = bitsI (andN m (bit v)) := by
  have hb := bit_lt hv
  have hA : andN m (bit v) < 4294967296 := Nat.lt_of_le_of_lt (andN_le _ _) hm
  refine sorted_ext ((bitsI_sorted m).filter _) (bitsI_sorted _) fun x => ?_
  unfold lessL
  rw [List.mem_filter, mem_bitsI hm, mem_bitsI hA, testBit_andN hm hb, testBit_bit]
  simp only [Bool.not_eq_true', decide_eq_false_iff_not, Bool.and_eq_true]
  constructor
  · rintro ⟨⟨h1, h2⟩, h3⟩
    exact ⟨h1, h2, by omega⟩
  · rintro ⟨h1, h2, h3⟩
    exact ⟨⟨h1, h2⟩, by omega⟩
theorem and_andN {m l b : Nat} (hl : l < 4294967296) (hb : b < 4294967296) : andN (m &&& l) b = m &&& andN l b := by
  apply nat_ext
  intro i
  rw [testBit_andN (Nat.lt_of_le_of_lt Nat.and_le_right hl) hb, Nat.testBit_and, Nat.testBit_and, testBit_andN hl hb, Bool.and_assoc]
/-- The row of u in the next state, as the reference makes it: less v, with what is joined put in. -/
theorem row_next {a : List Nat} {left n v u : Nat} {f : Tri} (h : FoldI a left n) (hv : v < n) (hu : u < n) (hf : foldF a left v = some f) :
    (rowsN (foldN a f) (andN left (bit v)) n).getD u [] = if u = v then [] else bitsI ((if left.testBit u = true then a.getD u 0 &&& andN left (bit v) else 0) ||| (if (u : Int) = f.b ∧ 0 ≤ f.c then bit f.c.toNat else 0) ||| (if (u : Int) = f.c then bit f.b.toNat else 0)) := by
  have hl := h.left32
  have h16 := h.le
  have hlen := h.len
  have hb := bit_lt (show v < 32 by omega)
  rw [rowsN_getD hu, testBit_andN hl hb, testBit_bit]
  obtain ⟨hfa, hfb, hfc⟩ := fold_names h hf
  by_cases e : u = v
  · subst e; simp
  · have e' : ¬ v = u := fun e2 => e e2.symm
    rw [if_neg e]
    simp only [e', decide_false, Bool.not_false, Bool.and_true]
    rcases hfc with hc | ⟨x, y, hb', hc, hx, hy, hxv, hyv, hxy⟩
    · have h1 : ¬ ((u : Int) = f.b ∧ 0 ≤ f.c) := by omega
      have h2 : ¬ (u : Int) = f.c := by omega
      rw [if_neg h1, if_neg h2, Nat.or_zero, Nat.or_zero]
      unfold foldN
      rw [if_neg (show ¬ 0 ≤ f.c by omega)]
      by_cases hu2 : left.testBit u = true
      · rw [if_pos hu2, if_pos hu2]
      · rw [if_neg hu2, if_neg hu2]; rfl
    · have hxn := bit_lt_of h.left hx
      have hyn := bit_lt_of h.left hy
      unfold foldN
      rw [hb', hc, if_pos (show (0 : Int) ≤ (y : Int) by omega), Int.toNat_natCast, Int.toNat_natCast, joinN_get (by omega) (by omega) hxy]
      have hjoin : ∀ (m z : Nat), left.testBit z = true → z ≠ v → (m ||| bit z) &&& andN left (bit v) = (m &&& andN left (bit v)) ||| bit z := fun m z hz hzv => by
        apply nat_ext
        intro i
        rw [Nat.testBit_and, Nat.testBit_or, Nat.testBit_or, Nat.testBit_and, testBit_andN hl hb, testBit_bit, testBit_bit]
        by_cases ez : z = i
        · subst ez
          have : ¬ v = z := fun e2 => hzv e2.symm
          simp [hz, this]
        · simp [ez]
      by_cases e1 : u = x
      · subst e1
        have e2 : ¬ (u : Int) = (y : Int) := by omega
        rw [if_pos hx, if_pos rfl, if_pos hx, if_pos ⟨rfl, by omega⟩, if_neg e2, Nat.or_zero, hjoin _ _ hy hyv]
      · have e1' : ¬ ((u : Int) = (x : Int) ∧ (0 : Int) ≤ (y : Int)) := by omega
        rw [if_neg e1, if_neg e1', Nat.or_zero]
        by_cases e2 : u = y
        · subst e2
          rw [if_pos hy, if_pos rfl, if_pos hy, if_pos rfl, hjoin _ _ hx hxv]
        · have e2' : ¬ (u : Int) = (y : Int) := by omega
          rw [if_neg e2, if_neg e2', Nat.or_zero]
          by_cases hu2 : left.testBit u = true
          · rw [if_pos hu2, if_pos hu2]
          · rw [if_neg hu2, if_neg hu2]; rfl
end Go.Proofs.Ytbpjbjeglcphcaa
