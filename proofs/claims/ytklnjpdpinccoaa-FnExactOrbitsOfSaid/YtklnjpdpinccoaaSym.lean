/- Symmetries: how many complete paths there are; the reference's count. -/
import Derived.Test.YtklnjpdpinccoaaFit7
namespace Go.Proofs.Ytklnjpdpinccoaa
open Go.RowKit
def sumV (f : Nat → Nat) (l : List Nat) : Nat := (l.map f).sum
theorem sumV_snoc (f : Nat → Nat) (l : List Nat) (a : Nat) : sumV f (l ++ [a]) = sumV f l + f a := by simp [sumV]
def cntN (H Q : List Nat) : Nat → List Nat → Nat
  | 0, _ => 1
  | d + 1, q => sumV (fun v => if okB H Q q v = true then cntN H Q d (q ++ [v]) else 0) (List.range H.length)
theorem sumV_le {f : Nat → Nat} {m : Nat} (l : List Nat) (h : ∀ v ∈ l, f v ≤ m) : sumV f l ≤ l.length * m := by
  induction l with
  | nil => simp [sumV]
  | cons a l ih =>
    have h1 := ih (fun v hv => h v (by simp [hv]))
    have h2 := h a (by simp)
    have : sumV f (a :: l) = f a + sumV f l := by simp [sumV]
    rw [this, List.length_cons, Nat.succ_mul]; omega
theorem cntN_le (H Q : List Nat) : ∀ (d : Nat) (q : List Nat), cntN H Q d q ≤ H.length ^ d
  | 0, _ => by simp [cntN]
  | d + 1, q => by
    rw [cntN, Nat.pow_succ, Nat.mul_comm]
    have := sumV_le (f := fun v => if okB H Q q v = true then cntN H Q d (q ++ [v]) else 0) (m := H.length ^ d) (List.range H.length) (fun v _ => by
      split
      · exact cntN_le H Q d _
      · exact Nat.zero_le _)
    simpa using this
theorem pow_small {n d : Nat} (hn : n ≤ 8) (hd : d ≤ 8) : n ^ d ≤ 16777216 := by
  have h1 : n ^ d ≤ 8 ^ d := Nat.pow_le_pow_left hn d
  have h2 : 8 ^ d ≤ 8 ^ 8 := Nat.pow_le_pow_right (by decide) hd
  have h3 : 8 ^ 8 = 16777216 := by decide
  omega
def symEf (_ : List Nat) (s : Int) : Int × Bool := (IntKind.i64.wrap (s + 1), false)
theorem srch_sym (H Q : List Nat) : ∀ (d : Nat) (q : List Nat) (s : Int), 0 ≤ s → s + (H.length ^ d : Nat) ≤ 4611686018427387904 → srchF H Q symEf d q s = (s + cntN H Q d q, false)
  | 0, q, s, h0, h1 => by
    rw [srchF, symEf, IntWalk.i64_in _ (by simp at h1; omega), cntN]; rfl
  | d + 1, q, s, h0, h1 => by
    rw [srchF, cntN]
    have hpow : H.length ^ (d + 1) = H.length * H.length ^ d := by rw [Nat.pow_succ, Nat.mul_comm]
    have key : ∀ (l : List Nat) (s : Int), 0 ≤ s → s + (l.length * H.length ^ d : Nat) ≤ 4611686018427387904 →
        loopS (fun v s => if okB H Q q v = true then srchF H Q symEf d (q ++ [v]) s else (s, false)) l s = (s + sumV (fun v => if okB H Q q v = true then cntN H Q d (q ++ [v]) else 0) l, false) := by
      intro l
      induction l with
      | nil => intro s _ _; simp [loopS, sumV]
      | cons v l ih =>
        intro s hs hb
        have e1 : sumV (fun v => if okB H Q q v = true then cntN H Q d (q ++ [v]) else 0) (v :: l) = (if okB H Q q v = true then cntN H Q d (q ++ [v]) else 0) + sumV (fun v => if okB H Q q v = true then cntN H Q d (q ++ [v]) else 0) l := by simp [sumV]
        rw [List.length_cons, Nat.succ_mul] at hb
        have hc := cntN_le H Q d (q ++ [v])
        rw [loopS, e1]
        by_cases hok : okB H Q q v = true
        · simp only [hok, if_true]
          rw [srch_sym H Q d (q ++ [v]) s hs (by omega)]
          simp only [Bool.false_eq_true, if_false]
          rw [ih _ (by omega) (by omega)]
          congr 1; omega
        · simp only [hok, if_false, Bool.false_eq_true]
          rw [ih _ hs (by omega)]
          congr 1; omega
    exact key _ s h0 (by rw [List.length_range, ← hpow]; exact h1)
/-- The sum over the first vertices. -/
def sumTo (g : List (List Int)) (d : Nat) (q : List Nat) (k : Nat) : Nat := sumV (fun v => if okB (netsL g) (netsL g) q v = true then cntN (netsL g) (netsL g) d (q ++ [v]) else 0) (List.range k)
theorem sumTo_succ (g : List (List Int)) (d : Nat) (q : List Nat) (k : Nat) : sumTo g d q (k + 1) = sumTo g d q k + if okB (netsL g) (netsL g) q k = true then cntN (netsL g) (netsL g) d (q ++ [k]) else 0 := by
  unfold sumTo; rw [List.range_succ, sumV_snoc]
theorem sumTo_all (g : List (List Int)) (d : Nat) (q : List Nat) : cntN (netsL g) (netsL g) (d + 1) q = sumTo g d q g.length := by rw [cntN, netsL_len]; rfl
theorem sumTo_le (g : List (List Int)) (d : Nat) (q : List Nat) (k : Nat) (hk : k ≤ g.length) : sumTo g d q k ≤ g.length ^ (d + 1) := by
  have := sumV_le (f := fun v => if okB (netsL g) (netsL g) q v = true then cntN (netsL g) (netsL g) d (q ++ [v]) else 0) (m := g.length ^ d) (List.range k) (fun v _ => by
    split
    · have := cntN_le (netsL g) (netsL g) d (q ++ [v]); rwa [netsL_len] at this
    · exact Nat.zero_le _)
  rw [List.length_range] at this
  rw [Nat.pow_succ, Nat.mul_comm]
  exact Nat.le_trans this (Nat.mul_le_mul_right _ hk)
