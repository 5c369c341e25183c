/- What can be reached, and the parts: the reference's. -/
import Derived.Test.YtdbanndcdbikmaaDoorDistM
import Derived.Test.YtdbanndcdbikmaaDoorQueue
import Derived.Test.YtdbanndcdbikmaaDoorLoopL
namespace Go.Proofs.YtdbanndcdbikmaaDoor
open Go.RowKit
theorem parts_less {a : List Nat} {W : Nat} (hw : W < 4294967296) (h0 : W ≠ 0) : andN W (reachN a W (Lib.ctz 32 W)) < W := by
  have hc := ctz_bit h0 hw
  have hr := reachN_lt a W (Lib.ctz 32 W)
  refine Nat.lt_of_le_of_ne (andN_le _ _) fun e => ?_
  have h1 := testBit_andN hw hr (Lib.ctz 32 W)
  rw [e, hc, reach_start hw (bit_lt_of (n := 32) hw hc)] at h1
  cases h1
theorem reach_lt2 {a : List Nat} {wi v n : Nat} (hn : n ≤ 16) (hw : wi < 2 ^ n) (hv : v < n) : reachN a wi v < 2 ^ n := by
  have hw32 : wi < 4294967296 := Nat.lt_of_lt_of_le hw (by have := pow_le16 hn; omega)
  apply lt_bits
  intro i hi
  have := reach_least hw32 (show v < 32 by omega) (M := wi ||| bit v) (fun x _ u hu _ => by rw [Nat.testBit_or, hu]; rfl) (by rw [Nat.testBit_or, testBit_bit]; simp) hi
  rw [Nat.testBit_or, testBit_bit, Bool.or_eq_true] at this
  rcases this with h | h
  · exact bit_lt_of hw h
  · have : v = i := by simpa using h
    omega
noncomputable def cutB (a : List Nat) (wi : Nat) (v : Int) : Bool := decide ((partsN a wi).length < (partsN a (andN wi (bit v.toNat))).length)
theorem popN_I (m : Nat) : popN m = (bitsI m).length := by simp [popN, bitsI]
theorem bitsI_bit {f : Nat} (hf : f < 32) : bitsI (bit f) = [(f : Int)] := by
  refine sorted_ext (bitsI_sorted _) (by simp) fun x => ?_
  rw [mem_bitsI (bit_lt hf), testBit_bit]
  simp only [decide_eq_true_eq, List.mem_singleton]
  omega
theorem popN_add {m x : Nat} (hm : m < 4294967296) (hx : x < 32) (h : m.testBit x = false) : popN (m ||| bit x) = popN m + 1 := by
  have hb := bit_lt hx
  have hor : m ||| bit x < 4294967296 := or_lt32' hm hb
  have h1 := pop_split' hor hm (fun i hi => by rw [Nat.testBit_or, hi]; rfl)
  have h2 : andN (m ||| bit x) m = bit x := by
    apply nat_ext
    intro i
    rw [testBit_andN hor hm, Nat.testBit_or, testBit_bit]
    by_cases e : x = i
    · subst e; simp [h]
    · simp [e]
  rw [h1, h2, popN_I (bit x), bitsI_bit hx]; rfl
where
  or_lt32' {a b : Nat} (ha : a < 4294967296) (hb : b < 4294967296) : a ||| b < 4294967296 := Nat.or_lt_two_pow (n := 32) ha hb
  len_split' {α : Type} (p q : α → Bool) : ∀ l : List α, (l.filter p).length = (l.filter fun x => p x && q x).length + (l.filter fun x => p x && !q x).length
    | [] => rfl
    | x :: l => by
      have ih := len_split' p q l
      rw [List.filter_cons, List.filter_cons, List.filter_cons]
      cases p x <;> cases q x <;> simp [ih] <;> omega
  pop_split' {s r : Nat} (hs : s < 4294967296) (hr : r < 4294967296) (h : ∀ i, r.testBit i = true → s.testBit i = true) : popN s = popN r + popN (andN s r) := by
    unfold popN bitsN
    rw [len_split' s.testBit r.testBit]
    congr 1
    · congr 1
      apply List.filter_congr
      intro i _
      cases hri : r.testBit i
      · simp
      · rw [h i hri]; rfl
    · congr 1
      apply List.filter_congr
      intro i _
      rw [testBit_andN hs hr]
/-- The state of the reference's search: Q waits. -/
structure QI (a : List Nat) (s f n M : Nat) (Q : List Nat) : Prop where
  reach : ReachI a s f M
  lt : M < 2 ^ n
  inM : ∀ x ∈ Q, M.testBit x = true
  done : ∀ x, M.testBit x = true → ¬ x ∈ Q → ∀ u, s.testBit u = true → (a.getD x 0).testBit u = true → M.testBit u = true
  len : Q.length ≤ popN M
/-- The state while x is looked at: its neighbours among the first k of the set are met. -/
structure QJ (a : List Nat) (s f n x k M : Nat) (Q : List Nat) : Prop where
  reach : ReachI a s f M
  lt : M < 2 ^ n
  inM : ∀ y ∈ Q, M.testBit y = true
  atx : M.testBit x = true
  done : ∀ y, M.testBit y = true → ¬ y ∈ Q → y ≠ x → ∀ u, s.testBit u = true → (a.getD y 0).testBit u = true → M.testBit u = true
  some : ∀ j (h : j < (bitsN s).length), j < k → (a.getD x 0).testBit (bitsN s)[j] = true → M.testBit (bitsN s)[j] = true
  len : Q.length ≤ popN M
theorem QI.start {a : List Nat} {s f n : Nat} (hs : s < 4294967296) (hf : f < n) (hn : n ≤ 16) : QI a s f n (bit f) [f] := by
  refine ⟨ReachI.start hs (by omega), by unfold bit; exact Nat.pow_lt_pow_right (by omega) hf, fun x hx => ?_, fun x hx hq => ?_, ?_⟩
  · have : x = f := by simpa using hx
    subst this; rw [testBit_bit]; simp
  · rw [testBit_bit] at hx
    have : f = x := by simpa using hx
    subst this; simp at hq
  · rw [popN_I, bitsI_bit (by omega)]; simp
theorem QI.end_ {a : List Nat} {s f n M : Nat} (hs : s < 4294967296) (hf : f < n) (hn : n ≤ 16) (h : QI a s f n M []) : M = reachN a s f :=
  h.reach.done hs (by omega) fun x hx u hu hb => h.done x hx (by simp) u hu hb
theorem QI.take {a : List Nat} {s f n M x : Nat} {Q : List Nat} (h : QI a s f n M (x :: Q)) : QJ a s f n x 0 M Q :=
  ⟨h.reach, h.lt, fun y hy => h.inM y (by simp [hy]), h.inM x (by simp), fun y hy hq hx => h.done y hy (by simp [hq, hx]), fun j _ hj => by omega, by have := h.len; simp at this; omega⟩
theorem QJ.end_ {a : List Nat} {s f n x k M : Nat} {Q : List Nat} (hs : s < 4294967296) (h : QJ a s f n x k M Q) (hk : (bitsN s).length ≤ k) : QI a s f n M Q := by
  refine ⟨h.reach, h.lt, h.inM, fun y hy hq u hu hb => ?_, h.len⟩
  by_cases e : y = x
  · subst e
    obtain ⟨j, hj, rfl⟩ := List.getElem_of_mem ((mem_bitsN hs).2 hu)
    exact h.some j hj (by omega) hb
  · exact h.done y hy hq e u hu hb
theorem QJ.skip {a : List Nat} {s f n x k M : Nat} {Q : List Nat} (h : QJ a s f n x k M Q) (hk : k < (bitsN s).length) (hb : (a.getD x 0).testBit (bitsN s)[k] = true → M.testBit (bitsN s)[k] = true) : QJ a s f n x (k + 1) M Q := by
  refine ⟨h.reach, h.lt, h.inM, h.atx, h.done, fun j hj hjk => ?_, h.len⟩
  by_cases e : j = k
  · subst e; exact hb
  · exact h.some j hj (by omega)
theorem QJ.add {a : List Nat} {s f n x k M : Nat} {Q : List Nat} (hs : s < 2 ^ n) (hf : f < n) (hn : n ≤ 16) (h : QJ a s f n x k M Q) (hk : k < (bitsN s).length) (hb : (a.getD x 0).testBit (bitsN s)[k] = true) (hM : M.testBit (bitsN s)[k] = false) :
    QJ a s f n x (k + 1) (M ||| bit (bitsN s)[k]) (Q ++ [(bitsN s)[k]]) := by
  have hs32 : s < 4294967296 := Nat.lt_of_lt_of_le hs (by have := pow_le16 hn; omega)
  have hM32 : M < 4294967296 := Nat.lt_of_lt_of_le h.lt (by have := pow_le16 hn; omega)
  have hu : s.testBit (bitsN s)[k] = true := (mem_bitsN hs32).1 (List.getElem_mem _)
  have hun := bit_lt_of hs hu
  generalize hy : (bitsN s)[k] = y at *
  refine ⟨h.reach.step hs32 (by omega) h.atx hu hb, Nat.or_lt_two_pow h.lt (by unfold bit; exact Nat.pow_lt_pow_right (by omega) hun), fun z hz => ?_, by rw [Nat.testBit_or, h.atx]; rfl, fun z hz hq hzx u hu' hbz => ?_, fun j hj hjk hbj => ?_, ?_⟩
  · rw [Nat.testBit_or, testBit_bit]
    rcases List.mem_append.1 hz with h1 | h1
    · rw [h.inM z h1]; rfl
    · have : z = y := by simpa using h1
      subst this; simp
  · rw [Nat.testBit_or, testBit_bit, Bool.or_eq_true] at hz
    rcases hz with hz | hz
    · rw [Nat.testBit_or, h.done z hz (fun hm => hq (by simp [hm])) hzx u hu' hbz]; rfl
    · have : y = z := by simpa using hz
      subst this
      exact absurd (by simp) hq
  · rw [Nat.testBit_or, testBit_bit]
    by_cases e : j = k
    · subst e; rw [hy]; simp
    · rw [h.some j hj (by omega) hbj]; rfl
  · rw [popN_add hM32 (by omega) hM]
    have := h.len
    simp; omega
theorem bitsI_get {m k : Nat} (hk : k < (bitsI m).length) : (bitsI m)[k] = (((bitsN m)[k]'(by simpa [bitsI] using hk) : Nat) : Int) := by simp [bitsI]
theorem apart_lit {a b n c m d : Nat} (h : a ≠ b) : Apart (.slice (some ⟨a, 0, none⟩) n c) (.slice (some ⟨b, 0, none⟩) m d) := fun k h1 h2 => h (by simp [Value.ownBlock] at h1 h2; omega)
theorem lenV_own {w : World} {B : Nat} {E : TypeId} {o : Value} {M : Nat} (h : OwnB w B E o M) : lenV o = popN M := by
  rw [popN_I]
  rcases h.2 with ⟨rfl, h2⟩ | ⟨_, _, _, rfl, _⟩
  · exact h2.symm
  · rfl
theorem bitsI_lenN (m : Nat) : (bitsI m).length = (bitsN m).length := by simp [bitsI]
