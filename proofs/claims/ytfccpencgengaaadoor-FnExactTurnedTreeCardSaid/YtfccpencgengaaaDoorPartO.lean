/- Trees of parts: right by the reference is right by the program; plain facts. -/
import Derived.Test.YtfccpencgengaaaDoorPartN
namespace Go.Proofs.YtfccpencgengaaaDoor
open Go.RowKit

def lst (m : Nat) : Nat := Lib.ctz 32 m
theorem lst_bit {m : Nat} (h0 : m ≠ 0) (hm : m < 65536) : m.testBit (lst m) = true := by
  have h := bitsN_step h0 (by omega : m < 4294967296)
  have : lst m ∈ bitsN m := by rw [h]; simp [lst]
  exact (mem_bitsN (by omega)).1 this
theorem pop_pos {m : Nat} (h0 : m ≠ 0) (hm : m < 65536) : 0 < pop m := by
  rw [pop, bitsN_step h0 (by omega)]; simp
def AdjLe (l : List Nat) : Prop := ∀ i (h : i + 1 < l.length), lst (l[i]'(by omega)) ≤ lst l[i + 1]
def AdjLt (l : List Nat) : Prop := ∀ i (h : i + 1 < l.length), lst (l[i]'(by omega)) < lst l[i + 1]
theorem disj_all : ∀ {l : List Nat} {s : Nat}, Disj l s → ∀ a ∈ l, s &&& a = 0
  | [], _, _, a, h => by simp at h
  | m :: l, s, hd, a, h => by
    rcases List.mem_cons.1 h with rfl | h
    · exact hd.1
    · have := disj_all hd.2 a h
      apply nat_ext
      intro i
      have h1 : ((s ||| m) &&& a).testBit i = false := by rw [this]; simp
      simp only [Nat.testBit_and, Nat.testBit_or, Bool.and_eq_false_iff, Bool.or_eq_false_iff, Nat.zero_testBit] at h1 ⊢
      rcases h1 with ⟨h1, _⟩ | h1
      · exact .inl h1
      · exact .inr h1
theorem disj_pair : ∀ {l : List Nat} {s : Nat}, Disj l s → l.Pairwise (fun a b => a &&& b = 0)
  | [], _, _ => .nil
  | m :: l, s, hd => by
    refine List.pairwise_cons.2 ⟨fun a ha => ?_, disj_pair hd.2⟩
    have := disj_all hd.2 a ha
    apply nat_ext
    intro i
    have h1 : ((s ||| m) &&& a).testBit i = false := by rw [this]; simp
    simp only [Nat.testBit_and, Nat.testBit_or, Bool.and_eq_false_iff, Bool.or_eq_false_iff, Nat.zero_testBit] at h1 ⊢
    rcases h1 with ⟨_, h1⟩ | h1
    · exact .inl h1
    · exact .inr h1
theorem adj_lt {l : List Nat} (hl : ∀ m ∈ l, m < 65536 ∧ m ≠ 0) (hd : Disj l 0) : AdjLt l ↔ AdjLe l := by
  constructor
  · exact fun h i hi => Nat.le_of_lt (h i hi)
  · intro h i hi
    have h1 := h i hi
    have h2 := List.pairwise_iff_getElem.1 (disj_pair hd) i (i + 1) (by omega) hi (by omega)
    apply Nat.lt_of_le_of_ne h1
    intro e
    have ha := hl l[i] (List.getElem_mem _)
    have hb := hl l[i + 1] (List.getElem_mem _)
    have h3 := lst_bit ha.2 ha.1
    have h4 := lst_bit hb.2 hb.1
    rw [← e] at h4
    have : (l[i] &&& l[i + 1]).testBit (lst l[i]) = true := by rw [Nat.testBit_and, h3, h4]; rfl
    rw [h2] at this; simp at this
def kmsk (t : List PNode) (i : Nat) : List Nat := (nd t i).kids.map fun k => msk t k.toNat
def MOk (t : List PNode) (i : Nat) : Prop := (nd t i).kind ≠ 1 → AdjLe (kmsk t i) ∧ Disj (kmsk t i) 0
structure PGood (t : List PNode) : Prop where
  ok : ∀ i, i < t.length → SOk t i ∧ MOk t i
  one : (openF t t.length).length = 1
  all : msk t (t.length - 1) = firstN (pop (msk t (t.length - 1)))
structure SGood (t : List PNode) : Prop where
  lo : 1 ≤ t.length
  hi : t.length ≤ 31
  walk : walkF t.length t (t.length - 1) = t.length
  up : ∀ i, i < t.length → AdjLt (kmsk t i)
  cnt : pop (msk t (t.length - 1)) = cntK t 0 t.length
  last : (bitsI (msk t (t.length - 1)))[cntK t 0 t.length - 1]? = some ((cntK t 0 t.length : Int) - 1)
theorem PGood.pos {t : List PNode} (h : PGood t) : 0 < t.length := by
  have := h.one
  apply Nat.pos_of_ne_zero
  intro h0; rw [h0] at this; simp [openF] at this
theorem kmsk_small {t : List PNode} {i : Nat} (hi : i < t.length) (hok : ∀ j, j ≤ i → SOk t j) : ∀ m ∈ kmsk t i, m < 65536 ∧ m ≠ 0 := by
  intro m hm
  simp only [kmsk, List.mem_map] at hm
  obtain ⟨k, hk, rfl⟩ := hm
  have hd := sok_down (hok i (Nat.le_refl _))
  have h1 : (nd t i).kind ≠ 1 := by
    intro h1
    rcases hok i (Nat.le_refl _) with ⟨_, h2, _⟩ | ⟨h2, _⟩
    · rw [h2] at hk; simp at hk
    · exact h2 h1
  have := (hd.2 h1).2 k hk
  exact msk_facts k.toNat (by omega) (fun j hj => sok_down (hok j (by omega)))
theorem bits_full {m L : Nat} (hm : m < 65536) (hL : pop m = L) (h0 : 0 < L) : (bitsI m)[L - 1]? = some ((L : Int) - 1) ↔ m = firstN L := by
  have hle := pop_le16 hm
  have hlen : (bitsI m).length = L := by rw [pop_I, hL]
  constructor
  · intro h
    have hlt : L - 1 < (bitsI m).length := by omega
    have hg : (bitsI m)[L - 1] = (L : Int) - 1 := by rw [List.getElem?_eq_getElem hlt] at h; simpa using h
    have hsub : ∀ x ∈ bitsI m, x ∈ rangeI L := by
      intro x hx
      obtain ⟨i, hi, rfl⟩ := List.getElem_of_mem hx
      have h1 := (mem_bitsI (by omega : m < 4294967296)).1 hx
      have h2 : (bitsI m)[i] ≤ (bitsI m)[L - 1] := by
        by_cases e : i = L - 1
        · subst e; exact Int.le_refl _
        · have := List.pairwise_iff_getElem.1 (bitsI_sorted m) i (L - 1) hi hlt (by omega); omega
      exact mem_rangeI.2 ⟨h1.1, by omega⟩
    have e : (rangeI L).filter (fun x => decide (x ∈ bitsI m)) = bitsI m := sorted_ext ((rangeI_sorted _).filter _) (bitsI_sorted m) fun x => by
      simp only [List.mem_filter, decide_eq_true_eq]
      exact ⟨fun h => h.2, fun h => ⟨hsub x h, h⟩⟩
    have hs2 := List.filter_sublist (l := rangeI L) (p := fun x => decide (x ∈ bitsI m))
    rw [e] at hs2
    have e2 := hs2.eq_of_length (by rw [hlen, rangeI_len])
    apply nat_ext
    intro i
    rw [testBit_firstN]
    by_cases hi : i < L
    · have : (i : Int) ∈ bitsI m := by rw [e2]; exact mem_rangeI.2 ⟨by omega, by omega⟩
      have := (mem_bitsI (by omega : m < 4294967296)).1 this
      simpa [hi] using this.2
    · have : ¬ (i : Int) ∈ bitsI m := fun h => by have := mem_rangeI.1 (hsub _ h); omega
      rw [mem_bitsI (by omega : m < 4294967296)] at this
      simp at this; simp [hi, this]
  · intro h
    have e : bitsI m = rangeI L := sorted_ext (bitsI_sorted m) (rangeI_sorted L) fun x => by
      rw [mem_bitsI (by omega : m < 4294967296), mem_rangeI, h, testBit_firstN]
      constructor
      · rintro ⟨h1, h2⟩; have : x.toNat < L := by simpa using h2
        omega
      · rintro ⟨h1, h2⟩; exact ⟨h1, by simp; omega⟩
    rw [e, List.getElem?_eq_getElem (by rw [rangeI_len]; omega), rangeI_get]
    simp; omega
theorem good_iff (t : List PNode) : PGood t ↔ SGood t := by
  by_cases h0 : 0 < t.length
  case neg => exact ⟨fun h => absurd h.pos h0, fun h => absurd h.lo (by omega)⟩
  have hw := walk_all t t.length (Nat.le_refl _) h0
  have key : (∀ i, i < t.length → SOk t i) → (openF t t.length).length = 1 → Cnt t 0 t.length (msk t (t.length - 1)) 1 True ∧ msk t (t.length - 1) < 65536 ∧ msk t (t.length - 1) ≠ 0 := by
    intro hs h1
    obtain ⟨n, hn⟩ : ∃ n, t.length = n + 1 := ⟨t.length - 1, by omega⟩
    have hl : openF t (n + 1) = [] ++ [n] := by
      rw [hn] at h1
      obtain ⟨l, hl⟩ := openF_last t n
      rw [hl] at h1 ⊢
      rw [List.eq_nil_of_length_eq_zero (l := l) (by simpa using h1)]
    have := cnt_node n (by omega) (fun j hj => hs j (by omega)) [] hl
    have hf := msk_facts (t := t) n (by omega) (fun j hj => sok_down (hs j (by omega)))
    rw [hn, Nat.add_sub_cancel]
    exact ⟨this, hf⟩
  constructor
  · intro h
    have hs := fun i hi => (h.ok i hi).1
    obtain ⟨⟨c1, c2, c3⟩, hm, hm0⟩ := key hs h.one
    have hD : ∀ j, 0 ≤ j → j < t.length → DOk t j := fun j _ hj hk => ((h.ok j hj).2 hk).2
    have hp := c2.2 ⟨trivial, hD⟩
    have h16 := pop_le16 hm
    have hpp := pop_pos hm0 hm
    refine ⟨h0, by omega, hw.2 ⟨hs, h.one⟩, fun i hi => ?_, hp, ?_⟩
    · by_cases hk : (nd t i).kind = 1
      · rcases hs i hi with ⟨_, h2, _⟩ | ⟨h2, _⟩
        · intro j hj; simp [kmsk, h2] at hj
        · exact absurd hk h2
      · have := (h.ok i hi).2 hk
        exact (adj_lt (kmsk_small hi (fun j hj => hs j (by omega))) this.2).2 this.1
    · have hall := h.all
      rw [hp] at hall
      rw [hp] at hpp
      exact (bits_full hm hp hpp).2 hall
  · intro h
    obtain ⟨hs, h1⟩ := hw.1 h.walk
    obtain ⟨⟨c1, c2, c3⟩, hm, hm0⟩ := key hs h1
    have hD := (c2.1 h.cnt).2
    have hpp := pop_pos hm0 hm
    refine ⟨fun i hi => ⟨hs i hi, fun hk => ?_⟩, h1, ?_⟩
    · have hd := hD i (Nat.zero_le _) hi hk
      exact ⟨(adj_lt (kmsk_small hi (fun j hj => hs j (by omega))) hd).1 (h.up i hi), hd⟩
    · rw [h.cnt]; rw [h.cnt] at hpp
      exact (bits_full hm h.cnt hpp).1 h.last
open Classical in
noncomputable def partsB (t : List PNode) : Bool := decide (PGood t)
theorem partsB_true {t : List PNode} (h : PGood t) : partsB t = true := by simp [partsB, h]
theorem partsB_false {t : List PNode} (h : ¬ PGood t) : partsB t = false := by simp [partsB, h]
theorem partsB_iff {t : List PNode} : partsB t = true ↔ PGood t := by simp [partsB]
theorem partsS_true {t : List PNode} (h : SGood t) : partsB t = true := partsB_true ((good_iff t).2 h)
theorem partsS_false {t : List PNode} (h : ¬ SGood t) : partsB t = false := partsB_false fun h2 => h ((good_iff t).1 h2)
end Go.Proofs.YtfccpencgengaaaDoor
