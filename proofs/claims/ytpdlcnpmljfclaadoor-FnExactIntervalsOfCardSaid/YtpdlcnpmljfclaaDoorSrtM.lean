/- Sets by size, then as lists: a total order. -/
import Derived.Test.YtpdlcnpmljfclaaDoorBits
import Derived.Sort.Statements
namespace Go.Proofs.YtpdlcnpmljfclaaDoor
open Go.RowKit
/-- Lists compared by their first unlike numbers. -/
def cmpL : List Int → List Int → Int
  | [], [] => 0
  | [], _ :: _ => -1
  | _ :: _, [] => 1
  | a :: l, b :: m => if a < b then -1 else if b < a then 1 else cmpL l m
def cmp1 (x y : Int) : Int := if x < y then -1 else if y < x then 1 else 0
/-- Sets by size, then as lists. -/
def sizeC (m k : Nat) : Int := if (bitsI m).length = (bitsI k).length then cmpL (bitsI m) (bitsI k) else ((bitsI m).length : Int) - ((bitsI k).length : Int)
/-- Lists by length, then by their first unlike numbers. -/
def lenC (a b : List Int) : Int := if a.length = b.length then cmpL a b else (a.length : Int) - (b.length : Int)
theorem cmpL_swap : ∀ a b, cmpL b a = - cmpL a b
  | [], [] => rfl
  | [], _ :: _ => rfl
  | _ :: _, [] => rfl
  | a :: l, b :: m => by
    unfold cmpL
    by_cases h1 : a < b
    · rw [if_pos h1, if_neg (by omega), if_pos h1]; rfl
    · by_cases h2 : b < a
      · rw [if_pos h2, if_neg h1, if_pos h2]
      · rw [if_neg h2, if_neg h1, if_neg h1, if_neg h2]; exact cmpL_swap l m
theorem cmpL_zero : ∀ a b, cmpL a b = 0 → a = b
  | [], [], _ => rfl
  | [], _ :: _, h => by simp [cmpL] at h
  | _ :: _, [], h => by simp [cmpL] at h
  | a :: l, b :: m, h => by
    unfold cmpL at h
    by_cases h1 : a < b
    · rw [if_pos h1] at h; cases h
    · by_cases h2 : b < a
      · rw [if_neg h1, if_pos h2] at h; cases h
      · rw [if_neg h1, if_neg h2] at h
        rw [cmpL_zero l m h, show a = b by omega]
theorem cmpL_self : ∀ a, cmpL a a = 0
  | [] => rfl
  | a :: l => by unfold cmpL; rw [if_neg (by omega), if_neg (by omega)]; exact cmpL_self l
theorem cmpL_trans : ∀ a b c, cmpL a b < 0 → cmpL b c < 0 → cmpL a c < 0
  | [], [], _, h, _ => by simp [cmpL] at h
  | [], _ :: _, [], _, h => by simp [cmpL] at h
  | [], _ :: _, _ :: _, _, _ => by simp [cmpL]
  | _ :: _, [], _, h, _ => by simp [cmpL] at h
  | _ :: _, _ :: _, [], _, h => by simp [cmpL] at h
  | a :: l, b :: m, c :: n, h1, h2 => by
    unfold cmpL at h1 h2 ⊢
    by_cases a1 : a < b
    · by_cases b1 : b < c
      · rw [if_pos (by omega)]; omega
      · by_cases b2 : c < b
        · rw [if_neg b1, if_pos b2] at h2; omega
        · rw [if_pos (by omega)]; omega
    · by_cases a2 : b < a
      · rw [if_neg a1, if_pos a2] at h1; omega
      · rw [if_neg a1, if_neg a2] at h1
        by_cases b1 : b < c
        · rw [if_pos (by omega)]; omega
        · by_cases b2 : c < b
          · rw [if_neg b1, if_pos b2] at h2; omega
          · rw [if_neg b1, if_neg b2] at h2
            rw [if_neg (by omega), if_neg (by omega)]
            exact cmpL_trans l m n h1 h2
theorem lenC_swap (a b : List Int) : lenC b a = - lenC a b := by
  unfold lenC
  by_cases h : a.length = b.length
  · rw [if_pos h, if_pos h.symm, cmpL_swap]
  · rw [if_neg h, if_neg (fun e => h e.symm)]; omega
theorem lenC_zero {a b : List Int} (h : lenC a b = 0) : a = b := by
  unfold lenC at h
  by_cases e : a.length = b.length
  · rw [if_pos e] at h; exact cmpL_zero _ _ h
  · rw [if_neg e] at h; omega
theorem lenC_self (a : List Int) : lenC a a = 0 := by unfold lenC; rw [if_pos rfl, cmpL_self]
theorem lenC_trans {a b c : List Int} (h1 : lenC a b < 0) (h2 : lenC b c < 0) : lenC a c < 0 := by
  unfold lenC at *
  by_cases e1 : a.length = b.length
  · rw [if_pos e1] at h1
    by_cases e2 : b.length = c.length
    · rw [if_pos e2] at h2; rw [if_pos (by omega)]; exact cmpL_trans _ _ _ h1 h2
    · rw [if_neg e2] at h2; rw [if_neg (by omega)]; omega
  · rw [if_neg e1] at h1
    by_cases e2 : b.length = c.length
    · rw [if_pos e2] at h2; rw [if_neg (by omega)]; omega
    · rw [if_neg e2] at h2; rw [if_neg (by omega)]; omega
theorem sizeC_eq (m k : Nat) : sizeC m k = lenC (bitsI m) (bitsI k) := rfl
/-- A comparison that parts whatever is unlike is an order as the shelf's sorts ask. -/
theorem swo_of {α : Type} (c : α → α → Int) (hs : ∀ a b, c b a = - c a b) (h0 : ∀ a, c a a = 0) (hz : ∀ a b, c a b = 0 → ∀ d, c a d = c b d) (ht : ∀ a b d, c a b < 0 → c b d < 0 → c a d < 0) : Go.Sort.SWO (fun x y => decide (c x y < 0)) where
  irrefl x := by rw [h0]; rfl
  trans x y z h1 h2 := by
    rw [decide_eq_true_eq] at *
    exact ht x y z h1 h2
  ntrans x y z h1 h2 := by
    rw [decide_eq_false_iff_not] at *
    intro h3
    have e1 := hs x y
    have e2 := hs y z
    by_cases z1 : c x y = 0
    · rw [hz x y z1 z] at h3; exact h2 h3
    · have p1 : c y x < 0 := by omega
      exact h2 (ht y x z p1 h3)
abbrev Sub16 := {m : Nat // m < 65536}
def subC (x y : Sub16) : Int := sizeC x.1 y.1
theorem subC_swo : Go.Sort.SWO (fun x y : Sub16 => decide (subC x y < 0)) := by
  refine swo_of subC (fun a b => ?_) (fun a => ?_) (fun a b h d => ?_) (fun a b d h1 h2 => ?_)
  · unfold subC; rw [sizeC_eq, sizeC_eq]; exact lenC_swap _ _
  · unfold subC; rw [sizeC_eq]; exact lenC_self _
  · unfold subC at *; rw [sizeC_eq] at *; rw [sizeC_eq, lenC_zero h]
  · unfold subC at *; rw [sizeC_eq] at *; exact lenC_trans h1 h2
end Go.Proofs.YtpdlcnpmljfclaaDoor
