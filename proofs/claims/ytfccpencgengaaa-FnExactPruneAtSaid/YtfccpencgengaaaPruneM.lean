/- Which vertex may be pruned, and how: plain facts. -/
import Derived.Test.YtfccpencgengaaaFoldM
namespace Go.Proofs.Ytfccpencgengaaa
open Go.RowKit
def nrN (a : List Nat) (s v : Nat) : Nat := a.getD v 0 &&& s
/-- May v go by y with kind k, where s are left? -/
def goesB (a : List Nat) (s v : Nat) (y k : Int) : Bool :=
  if k = 1 then decide (y = -1) && decide (nrN a s v = 0)
  else if ¬ (0 ≤ y ∧ y < a.length) ∨ y = v ∨ s.testBit y.toNat = false then false
  else if k = 2 then decide (nrN a s v = bit y.toNat)
  else if k = 3 then decide (nrN a s v = nrN a s y.toNat)
  else if k = 4 then (nrN a s v).testBit y.toNat && decide (andN (nrN a s v) (bit y.toNat) = andN (nrN a s y.toNat) (bit v))
  else false
def pruneB (a : List Nat) : Nat → List Tri → Bool
  | _, [] => true
  | s, p :: t => (inB p.a 0 ((a.length : Int) - 1) && s.testBit p.a.toNat && goesB a s p.a.toNat p.b p.c) && pruneB a (andN s (bit p.a.toNat)) t
theorem pruneB_miss {a : List Nat} {s : Nat} {t : List Tri} {k : Nat} (hk : k < t.length) (h : (inB (t[k]).a 0 ((a.length : Int) - 1) && s.testBit (t[k]).a.toNat && goesB a s (t[k]).a.toNat (t[k]).b (t[k]).c) = false) : pruneB a s (t.drop k) = false := by
  rw [List.drop_eq_getElem_cons hk, pruneB, h, Bool.false_and]
theorem pruneB_step {a : List Nat} {s : Nat} {t : List Tri} {k : Nat} (hk : k < t.length) (h : (inB (t[k]).a 0 ((a.length : Int) - 1) && s.testBit (t[k]).a.toNat && goesB a s (t[k]).a.toNat (t[k]).b (t[k]).c) = true) : pruneB a s (t.drop k) = pruneB a (andN s (bit (t[k]).a.toNat)) (t.drop (k + 1)) := by
  rw [List.drop_eq_getElem_cons hk, pruneB, h, Bool.true_and]
theorem pruneB_end {a : List Nat} {s : Nat} {t : List Tri} : pruneB a s (t.drop t.length) = true := by simp [pruneB]
/-- The word of a number, where it is a vertex. -/
def bq (y : Int) : Nat := if 0 ≤ y ∧ y < 32 then bit y.toNat else 0
theorem bq_lt (y : Int) : bq y < 4294967296 := by
  unfold bq; split
  · exact bit_lt (by omega)
  · omega
theorem bq_nat {y : Nat} (h : y < 32) : bq (y : Int) = bit y := by simp [bq, h]; omega
theorem andN_zero {x : Nat} (hx : x < 4294967296) : andN x 0 = x := by
  apply nat_ext
  intro i
  rw [testBit_andN hx (by omega)]
  simp
theorem testBit_bq (y : Int) (i : Nat) (hi : i < 32) : (bq y).testBit i = decide (y = (i : Int)) := by
  unfold bq
  split
  · rw [testBit_bit, decide_eq_decide]; omega
  · have : ¬ y = (i : Int) := by omega
    simp [this]
structure PrI (a : List Nat) (s n : Nat) : Prop where
  len : a.length = n
  le : n ≤ 16
  left : s < 2 ^ n
  lt : ∀ m ∈ a, m < 4294967296
  irr : ∀ u, (a.getD u 0).testBit u = false
  sym : ∀ u v, u < n → v < n → (a.getD u 0).testBit v = (a.getD v 0).testBit u
theorem PrI.s32 {a : List Nat} {s n : Nat} (h : PrI a s n) : s < 4294967296 := Nat.lt_of_lt_of_le h.left (by have := pow_le16 h.le; omega)
theorem PrI.nr32 {a : List Nat} {s n : Nat} (h : PrI a s n) (v : Nat) : nrN a s v < 4294967296 := Nat.lt_of_le_of_lt Nat.and_le_right h.s32
theorem PrI.less {a : List Nat} {s n : Nat} (h : PrI a s n) (x : Nat) : PrI a (andN s x) n := ⟨h.len, h.le, Nat.lt_of_le_of_lt (andN_le _ _) h.left, h.lt, h.irr, h.sym⟩
theorem PrI.start {g : List (List Int)} (hg : GOk g) : PrI (netsL g) (firstN g.length) g.length := by
  have hi := hg.hi
  refine ⟨netsL_len g, hi, by unfold firstN; have := Nat.two_pow_pos g.length; omega, netsL_lt hg, fun u => ?_, fun u v hu hv => ?_⟩
  · by_cases hu : u < g.length
    · rw [nets_bit2 hg hu]
      have := hg.irrefl u hu
      simpa [hu] using this
    · have : (netsL g).getD u 0 = 0 := by rw [List.getD_eq_getElem?_getD, List.getElem?_eq_none (by rw [netsL_len]; omega)]; rfl
      rw [this]; simp
  · rw [nets_bit2 hg hu, nets_bit2 hg hv, decide_eq_decide]
    have e1 : g.getD u [] = g[u] := by simp [hu]
    have e2 : g.getD v [] = g[v] := by simp [hv]
    constructor
    · intro h3
      rw [e1] at h3
      have := hg.symm u hu _ h3; simpa using this
    · intro h3
      rw [e2] at h3
      have := hg.symm v hv _ h3; simpa using this
/-- The reference's list of near vertices, less one. -/
def nearL (row left : List Int) (but : Int) : List Int := row.filter fun u => decide (u ≠ but) && decide (u ∈ left)
theorem nearL_bits {g : List (List Int)} {s v : Nat} (hg : GOk g) (hs : s < 2 ^ g.length) (hv : v < g.length) (but : Int) : nearL g[v] (bitsI s) but = bitsI (andN (nrN (netsL g) s v) (bq but)) := by
  have h16 := hg.hi
  have hs32 : s < 4294967296 := Nat.lt_of_lt_of_le hs (by have := pow_le16 h16; omega)
  have hn : nrN (netsL g) s v < 4294967296 := Nat.lt_of_le_of_lt Nat.and_le_right hs32
  have hA : andN (nrN (netsL g) s v) (bq but) < 4294967296 := Nat.lt_of_le_of_lt (andN_le _ _) hn
  refine sorted_ext ((rise_sorted (hg.rise v hv)).filter _) (bitsI_sorted _) fun x => ?_
  unfold nearL
  have e1 : g.getD v [] = g[v] := by simp [hv]
  rw [List.mem_filter, mem_bitsI hA, testBit_andN hn (bq_lt _)]
  simp only [Bool.and_eq_true, decide_eq_true_eq, ne_eq, Bool.not_eq_true', mem_bitsI hs32]
  unfold nrN
  rw [Nat.testBit_and, nets_bit2 hg hv, e1, Bool.and_eq_true, decide_eq_true_eq]
  constructor
  · rintro ⟨h1, h2, h3, h4⟩
    have hb := bit_lt_of hs h4
    refine ⟨h3, ⟨by rw [Int.toNat_of_nonneg h3]; exact h1, h4⟩, ?_⟩
    rw [testBit_bq _ _ (by omega)]
    simp only [decide_eq_false_iff_not]; omega
  · rintro ⟨h3, ⟨h1, h4⟩, h2⟩
    have hb := bit_lt_of hs h4
    rw [Int.toNat_of_nonneg h3] at h1
    refine ⟨h1, ?_, h3, h4⟩
    rw [testBit_bq _ _ (by omega)] at h2
    simp only [decide_eq_false_iff_not] at h2; omega
theorem bitsI_inj {x y : Nat} (hx : x < 4294967296) (hy : y < 4294967296) (h : bitsI x = bitsI y) : x = y := by
  apply nat_ext
  intro i
  have h1 := mem_bitsI (v := (i : Int)) hx
  have h2 := mem_bitsI (v := (i : Int)) hy
  rw [h] at h1
  have h3 := h1.symm.trans h2
  simp only [Int.natCast_nonneg, Int.toNat_natCast, true_and] at h3
  cases h4 : x.testBit i <;> cases h5 : y.testBit i <;> simp_all
theorem nr_test {a : List Nat} {s v y : Nat} (hy : s.testBit y = true) : (nrN a s v).testBit y = (a.getD v 0).testBit y := by
  unfold nrN; rw [Nat.testBit_and, hy, Bool.and_true]
theorem goes_one {a : List Nat} {s v : Nat} {y : Int} : goesB a s v y 1 = (decide (y = -1) && decide (nrN a s v = 0)) := by simp [goesB]
theorem goes_off {a : List Nat} {s v : Nat} {y k : Int} (hk : ¬ k = 1) (h : ¬ (0 ≤ y ∧ y < a.length) ∨ y = v ∨ s.testBit y.toNat = false) : goesB a s v y k = false := by
  unfold goesB; rw [if_neg hk, if_pos h]
theorem goes_two {a : List Nat} {s v n y : Nat} (hI : PrI a s n) (hy : s.testBit y = true) (hv : v ≠ y) :
    goesB a s v (y : Int) 2 = ((a.getD v 0).testBit y && decide (andN (nrN a s v) (bit y) = 0)) := by
  have hyn := bit_lt_of hI.left hy
  have hl := hI.len
  have h16 := hI.le
  unfold goesB
  rw [if_neg (by omega), if_neg (by rintro (h | h | h); omega; omega; rw [Int.toNat_natCast, hy] at h; cases h), if_pos rfl, Int.toNat_natCast, ← nr_test (a := a) (v := v) hy, Bool.eq_iff_iff, decide_eq_true_eq, Bool.and_eq_true, decide_eq_true_eq]
  have hn := hI.nr32 v
  have hb := bit_lt (n := y) (by omega)
  constructor
  · intro h
    rw [h]
    refine ⟨by rw [testBit_bit]; simp, nat_ext fun i => ?_⟩
    rw [testBit_andN hb hb]; simp
  · rintro ⟨h1, h2⟩
    apply nat_ext
    intro i
    have h3 : (andN (nrN a s v) (bit y)).testBit i = false := by rw [h2]; simp
    rw [testBit_andN hn hb, testBit_bit] at h3
    rw [testBit_bit]
    by_cases e : y = i
    · subst e; simpa using h1
    · simpa [e] using h3
theorem goes_three {a : List Nat} {s v n y : Nat} (hI : PrI a s n) (hvn : v < n) (hsv : s.testBit v = true) (hy : s.testBit y = true) (hv : v ≠ y) :
    goesB a s v (y : Int) 3 = (!(a.getD v 0).testBit y && decide (andN (nrN a s v) (bit y) = andN (nrN a s y) (bit v))) := by
  have hyn := bit_lt_of hI.left hy
  have hl := hI.len
  have h16 := hI.le
  unfold goesB
  rw [if_neg (by omega), if_neg (by rintro (h | h | h); omega; omega; rw [Int.toNat_natCast, hy] at h; cases h), if_neg (by omega), if_pos rfl, Int.toNat_natCast, ← nr_test (a := a) (v := v) hy, Bool.eq_iff_iff, decide_eq_true_eq, Bool.and_eq_true, decide_eq_true_eq, Bool.not_eq_true']
  have hn := hI.nr32 v
  have hn2 := hI.nr32 y
  have hb := bit_lt (n := y) (by omega)
  have hb2 := bit_lt (n := v) (by omega)
  have hsy : (nrN a s v).testBit y = (nrN a s y).testBit v := by rw [nr_test hy, nr_test hsv]; exact hI.sym v y hvn hyn
  constructor
  · intro h
    have h0 : (nrN a s v).testBit y = false := by rw [h, nr_test hy]; exact hI.irr y
    refine ⟨h0, nat_ext fun i => ?_⟩
    rw [testBit_andN hn hb, testBit_andN hn2 hb2, testBit_bit, testBit_bit]
    by_cases e : y = i
    · subst e; simp [← h, h0]
    · by_cases e2 : v = i
      · subst e2
        have h5 : (nrN a s y).testBit v = false := by rw [← hsy]; exact h0
        simp [h, h5]
      · simp [h, e, e2]
  · rintro ⟨h1, h2⟩
    apply nat_ext
    intro i
    have h3 : (andN (nrN a s v) (bit y)).testBit i = (andN (nrN a s y) (bit v)).testBit i := by rw [h2]
    rw [testBit_andN hn hb, testBit_andN hn2 hb2, testBit_bit, testBit_bit] at h3
    by_cases e : y = i
    · subst e; rw [h1, nr_test hy]; exact (hI.irr y).symm
    · by_cases e2 : v = i
      · subst e2; rw [← hsy, h1, nr_test hsv]; exact hI.irr v
      · simpa [e, e2] using h3
theorem goes_four {a : List Nat} {s v n y : Nat} (hI : PrI a s n) (hy : s.testBit y = true) (hv : v ≠ y) :
    goesB a s v (y : Int) 4 = ((a.getD v 0).testBit y && decide (andN (nrN a s v) (bit y) = andN (nrN a s y) (bit v))) := by
  have hyn := bit_lt_of hI.left hy
  have hl := hI.len
  unfold goesB
  rw [if_neg (by omega), if_neg (by rintro (h | h | h); omega; omega; rw [Int.toNat_natCast, hy] at h; cases h), if_neg (by omega), if_neg (by omega), if_pos rfl, Int.toNat_natCast, ← nr_test (a := a) (v := v) hy]
theorem goes_else {a : List Nat} {s v : Nat} {y k : Int} (h1 : ¬ k = 1) (h2 : ¬ k = 2) (h3 : ¬ k = 3) (h4 : ¬ k = 4) : goesB a s v y k = false := by
  simp [goesB, h1, h2, h3, h4]
theorem goes_off4 {a : List Nat} {s v : Nat} {y k : Int} (h : 4 < k ∨ k < 1) : goesB a s v y k = false := goes_else (by omega) (by omega) (by omega) (by omega)
end Go.Proofs.Ytfccpencgengaaa
