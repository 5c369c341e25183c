/- Plain facts: sorted lists and words. -/
import Derived.Test.YtpdlcnpmljfclaaDoorMod3
namespace Go.Proofs.YtpdlcnpmljfclaaDoor
open Go.RowKit

theorem sorted_ext : ∀ {l1 l2 : List Int}, l1.Pairwise (· < ·) → l2.Pairwise (· < ·) → (∀ x, x ∈ l1 ↔ x ∈ l2) → l1 = l2
  | [], [], _, _, _ => rfl
  | [], b :: l2, _, _, h => by have := (h b).2 (by simp); simp at this
  | a :: l1, [], _, _, h => by have := (h a).1 (by simp); simp at this
  | a :: l1, b :: l2, h1, h2, h => by
    rw [List.pairwise_cons] at h1 h2
    have e : a = b := by
      have ha := (h a).1 (by simp)
      have hb := (h b).2 (by simp)
      simp only [List.mem_cons] at ha hb
      rcases ha with ha | ha
      · exact ha
      · rcases hb with hb | hb
        · exact hb.symm
        · have x1 := h1.1 b hb; have x2 := h2.1 a ha; omega
    subst e
    congr 1
    refine sorted_ext h1.2 h2.2 fun x => ?_
    have hx := h x
    simp only [List.mem_cons] at hx
    constructor
    · intro hm
      rcases hx.1 (.inr hm) with e | hm'
      · have := h1.1 x hm; omega
      · exact hm'
    · intro hm
      rcases hx.2 (.inr hm) with e | hm'
      · have := h2.1 x hm; omega
      · exact hm'
theorem bitsI_sorted (m : Nat) : (bitsI m).Pairwise (· < ·) := by
  unfold bitsI
  rw [List.pairwise_map]
  exact (bitsN_sorted m).imp fun h => by omega
theorem rangeI_sorted (n : Nat) : (rangeI n).Pairwise (· < ·) := by
  unfold rangeI
  rw [List.pairwise_map]
  exact List.pairwise_lt_range.imp fun h => by omega
theorem rise_sorted {s : List Int} {n : Int} (h : Rise s n) : s.Pairwise (· < ·) := by
  rw [List.pairwise_iff_getElem]
  intro i j hi hj hij
  exact (h j hj hj).2.2 i hij
theorem sorted_rise {s : List Int} {n : Int} (h : s.Pairwise (· < ·)) (hs : ∀ x ∈ s, 0 ≤ x ∧ x < n) : Rise s n := by
  intro i hi _
  have := hs s[i] (List.getElem_mem _)
  exact ⟨this.1, by omega, fun j hj => List.pairwise_iff_getElem.1 h j i (by omega) hi hj⟩
theorem maskL_lt32 {l : List Int} (h : ∀ x ∈ l, 0 ≤ x ∧ x < 32) : maskL l < 4294967296 := by
  have := maskL_lt (xs := l) (n := 32) h; simpa using this
theorem bitsI_maskL {l : List Int} (h1 : l.Pairwise (· < ·)) (h2 : ∀ x ∈ l, 0 ≤ x ∧ x < 32) : bitsI (maskL l) = l := by
  refine sorted_ext (bitsI_sorted _) h1 fun x => ?_
  rw [mem_bitsI (maskL_lt32 h2)]
  constructor
  · rintro ⟨h0, hb⟩
    rw [testBit_maskL (fun v hv => (h2 v hv).1)] at hb
    have : ((x.toNat : Nat) : Int) = x := by omega
    rw [this] at hb; simpa using hb
  · intro hx
    have := h2 x hx
    refine ⟨this.1, ?_⟩
    rw [testBit_maskL (fun v hv => (h2 v hv).1)]
    have : ((x.toNat : Nat) : Int) = x := by omega
    rw [this]; simpa using hx
theorem bitsI_nil {m : Nat} (hm : m < 4294967296) : bitsI m = [] ↔ m = 0 := by
  constructor
  · intro h
    by_cases h0 : m = 0
    · exact h0
    · rw [bitsI_step h0 hm] at h; cases h
  · rintro rfl; simp [bitsI, bitsN_zero]
theorem ctz_head {m : Nat} (h0 : m ≠ 0) (hm : m < 4294967296) : (bitsI m).head? = some (Lib.ctz 32 m : Int) := by
  rw [bitsI_step h0 hm]; rfl
theorem nat_ext {a b : Nat} (h : ∀ i, a.testBit i = b.testBit i) : a = b := Nat.eq_of_testBit_eq h
theorem mem_bits_andN {a b : Nat} (ha : a < 4294967296) (hb : b < 4294967296) {x : Int} : x ∈ bitsI (andN a b) ↔ x ∈ bitsI a ∧ ¬ x ∈ bitsI b := by
  rw [mem_bitsI (Nat.lt_of_le_of_lt (andN_le _ _) ha), mem_bitsI ha, mem_bitsI hb, testBit_andN ha hb]
  constructor
  · rintro ⟨h0, h1⟩
    simp only [Bool.and_eq_true, Bool.not_eq_true'] at h1
    exact ⟨⟨h0, h1.1⟩, fun h => by rw [h1.2] at h; cases h.2⟩
  · rintro ⟨⟨h0, h1⟩, h2⟩
    refine ⟨h0, ?_⟩
    have : b.testBit x.toNat = false := by
      by_cases hb : b.testBit x.toNat = true
      · exact absurd ⟨h0, hb⟩ h2
      · simpa using hb
    simp [h1, this]
theorem mem_bits_firstN {n : Nat} (hn : n ≤ 16) {x : Int} : x ∈ bitsI (firstN n) ↔ 0 ≤ x ∧ x < n := by
  rw [mem_bitsI (Nat.lt_trans (firstN_lt hn) (by decide)), testBit_firstN]
  constructor
  · rintro ⟨h0, h1⟩; have : x.toNat < n := by simpa using h1
    omega
  · rintro ⟨h0, h1⟩; exact ⟨h0, by simp; omega⟩

/-! What splits a set: by lists and by words. -/
theorem cntIn_pos {s row : List Int} : 0 < cntIn s row ↔ ∃ x ∈ s, x ∈ row := by
  unfold cntIn
  rw [List.length_pos_iff_exists_mem]
  simp only [List.mem_filter, decide_eq_true_eq]
theorem cntIn_lt {s row : List Int} : cntIn s row < s.length ↔ ∃ x ∈ s, ¬ x ∈ row := by
  unfold cntIn
  constructor
  · intro h
    apply Classical.byContradiction
    intro hno
    have : s.filter (fun x => decide (x ∈ row)) = s := List.filter_eq_self.2 fun x hx => by
      have : x ∈ row := Classical.byContradiction fun hn => hno ⟨x, hx, hn⟩
      simpa using this
    rw [this] at h; omega
  · rintro ⟨x, hx, hn⟩
    exact List.length_filter_lt_length_iff_exists.2 ⟨x, hx, by simpa using hn⟩
theorem and_mask_zero {r s : List Int} (hr : ∀ x ∈ r, 0 ≤ x) (hs : ∀ x ∈ s, 0 ≤ x) : maskL r &&& maskL s ≠ 0 ↔ ∃ x ∈ s, x ∈ r := by
  constructor
  · intro h
    obtain ⟨i, hi⟩ := Nat.exists_testBit_of_ne_zero h
    rw [Nat.testBit_and, testBit_maskL hr, testBit_maskL hs] at hi
    simp only [Bool.and_eq_true, decide_eq_true_eq] at hi
    exact ⟨_, hi.2, hi.1⟩
  · rintro ⟨x, h1, h2⟩ h0
    have : (maskL r &&& maskL s).testBit x.toNat = true := by
      rw [Nat.testBit_and, testBit_maskL hr, testBit_maskL hs]
      have e : ((x.toNat : Nat) : Int) = x := by have := hs x h1; omega
      simp [e, h1, h2]
    rw [h0] at this; simp at this
theorem and_mask_all {r s : List Int} (hr : ∀ x ∈ r, 0 ≤ x) (hs : ∀ x ∈ s, 0 ≤ x) : maskL r &&& maskL s ≠ maskL s ↔ ∃ x ∈ s, ¬ x ∈ r := by
  constructor
  · intro h
    apply Classical.byContradiction
    intro hno
    apply h
    apply nat_ext
    intro i
    rw [Nat.testBit_and, testBit_maskL hr, testBit_maskL hs]
    by_cases hi : (i : Int) ∈ s
    · have : (i : Int) ∈ r := Classical.byContradiction fun hn => hno ⟨_, hi, hn⟩
      simp [hi, this]
    · simp [hi]
  · rintro ⟨x, h1, h2⟩ h0
    have e : ((x.toNat : Nat) : Int) = x := by have := hs x h1; omega
    have h3 : (maskL r &&& maskL s).testBit x.toNat = (maskL s).testBit x.toNat := by rw [h0]
    rw [Nat.testBit_and, testBit_maskL hr, testBit_maskL hs, e] at h3
    simp [h1, h2] at h3
theorem netsL_get {g : List (List Int)} {v : Nat} (hv : v < g.length) : (netsL g).getD v 0 = maskL g[v] := by simp [netsL, hv]
theorem splits_eq {g : List (List Int)} {s : List Int} (hg : GOk g) (hs : Rise s g.length) :
    (bitsI (andN (firstN g.length) (maskL s))).filter (splW (netsL g) (maskL s)) = (rangeI g.length).filter (splitAtB g s) := by
  have hhi := hg.hi
  have hs2 := rise_ge hs
  have hm := maskL_lt32 (l := s) (fun x hx => by have := hs2 x hx; omega)
  refine sorted_ext ((bitsI_sorted _).filter _) ((rangeI_sorted _).filter _) fun x => ?_
  simp only [List.mem_filter]
  rw [mem_bits_andN (Nat.lt_trans (firstN_lt hhi) (by decide)) hm, mem_bits_firstN hhi, mem_rangeI, bitsI_maskL (rise_sorted hs) (fun x hx => by have := hs2 x hx; omega)]
  by_cases hx : 0 ≤ x ∧ x < g.length
  · have hxn : x.toNat < g.length := by omega
    have hr : ∀ y ∈ g[x.toNat], 0 ≤ y := fun y hy => (hg.ge hxn y hy).1
    have hs0 : ∀ y ∈ s, 0 ≤ y := fun y hy => (hs2 y hy).1
    have e1 : splW (netsL g) (maskL s) x = splitsB g s x := by
      unfold splW splitsB
      rw [netsL_get hxn]
      have e : g.getD x.toNat [] = g[x.toNat] := by simp [hxn]
      rw [e]
      have d1 : decide (maskL g[x.toNat] &&& maskL s ≠ 0) = decide (0 < cntIn s g[x.toNat]) := by
        rw [decide_eq_decide, and_mask_zero hr hs0, cntIn_pos]
      have d2 : decide (maskL g[x.toNat] &&& maskL s ≠ maskL s) = decide (cntIn s g[x.toNat] < s.length) := by
        rw [decide_eq_decide, and_mask_all hr hs0, cntIn_lt]
      rw [d1, d2]
    rw [e1]
    unfold splitAtB
    by_cases hxs : x ∈ s <;> simp [hx, hxs]
  · constructor
    · rintro ⟨⟨h, _⟩, _⟩; exact absurd h hx
    · rintro ⟨h, _⟩; exact absurd h hx
theorem splN_eq {g : List (List Int)} {s : List Int} (hg : GOk g) (hs : Rise s g.length) : splN (netsL g) (firstN g.length) (maskL s) = maskL ((rangeI g.length).filter (splitAtB g s)) := by
  unfold splN; rw [splits_eq hg hs]
theorem splN_zero {g : List (List Int)} {s : List Int} (hg : GOk g) (hs : Rise s g.length) : splN (netsL g) (firstN g.length) (maskL s) = 0 ↔ splitterI g (rangeI g.length) s < 0 := by
  have hhi := hg.hi
  have hin : ∀ x ∈ (rangeI g.length).filter (splitAtB g s), 0 ≤ x ∧ x < 32 := fun x hx => by
    have := mem_rangeI.1 (List.mem_filter.1 hx).1; omega
  have hb := bitsI_maskL ((rangeI_sorted g.length).filter (splitAtB g s)) hin
  rw [splN_eq hg hs, ← bitsI_nil (maskL_lt32 hin), hb]
  unfold splitterI
  rw [← List.head?_filter]
  cases h : (rangeI g.length).filter (splitAtB g s) with
  | nil => simp
  | cons a l =>
    have := hin a (by rw [h]; simp)
    simp; omega
theorem splN_least {g : List (List Int)} {s : List Int} (hg : GOk g) (hs : Rise s g.length) (h0 : splN (netsL g) (firstN g.length) (maskL s) ≠ 0) : (Lib.ctz 32 (splN (netsL g) (firstN g.length) (maskL s)) : Int) = splitterI g (rangeI g.length) s := by
  have hhi := hg.hi
  have hin : ∀ x ∈ (rangeI g.length).filter (splitAtB g s), 0 ≤ x ∧ x < 32 := fun x hx => by
    have := mem_rangeI.1 (List.mem_filter.1 hx).1; omega
  have hb := bitsI_maskL ((rangeI_sorted g.length).filter (splitAtB g s)) hin
  rw [splN_eq hg hs] at h0 ⊢
  have hc := ctz_head h0 (maskL_lt32 hin)
  rw [hb, List.head?_filter] at hc
  unfold splitterI
  rw [hc]
theorem splN_lt {g : List (List Int)} {s : List Int} (hg : GOk g) (hs : Rise s g.length) : splN (netsL g) (firstN g.length) (maskL s) < 4294967296 := by
  have hhi := hg.hi
  rw [splN_eq hg hs]
  exact maskL_lt32 fun x hx => by have := mem_rangeI.1 (List.mem_filter.1 hx).1; omega
theorem netsL_lt {g : List (List Int)} (hg : GOk g) : ∀ x ∈ netsL g, x < 4294967296 := by
  intro x hx
  simp only [netsL, List.mem_map] at hx
  obtain ⟨r, hr, rfl⟩ := hx
  obtain ⟨i, hi, rfl⟩ := List.getElem_of_mem hr
  exact maskL_lt32 (hg.ge32 hi)

theorem netsL_len (g : List (List Int)) : (netsL g).length = g.length := by simp [netsL]
