/- Complete graphs as minors: plain facts on words. -/
import Derived.Test.YtgkkgagnoeedaaaDoorForest
import Derived.Test.YtgkkgagnoeedaaaDoorAroM
import Derived.Test.YtgkkgagnoeedaaaDoorFit
import Derived.Test.YtgkkgagnoeedaaaDoorWide2
import Derived.Test.YtgkkgagnoeedaaaDoorReach
import Derived.Test.YtgkkgagnoeedaaaDoorReach2
import Derived.Test.YtgkkgagnoeedaaaDoorSmall
import Derived.Test.YtgkkgagnoeedaaaDoorPop
import Derived.Test.YtgkkgagnoeedaaaDoorComp
import Derived.Test.YtgkkgagnoeedaaaDoorLaws
import Derived.Lib.LazyBuf
namespace Go.Proofs.YtgkkgagnoeedaaaDoor
open Go.RowKit
/-- The vertices of a word's set. -/
def setW (word : List Nat) (i : Nat) : Nat := maskN ((List.range word.length).filter fun v => decide (word.getD v 0 = i + 1))
theorem testBit_setW {word : List Nat} {i v : Nat} : (setW word i).testBit v = true ↔ v < word.length ∧ word.getD v 0 = i + 1 := by
  unfold setW
  rw [testBit_maskN, decide_eq_true_eq, List.mem_filter, List.mem_range, decide_eq_true_eq]
theorem setW_snoc (word : List Nat) (x i : Nat) : setW (word ++ [x]) i = if x = i + 1 then setW word i ||| bit word.length else setW word i := by
  apply nat_ext
  intro v
  rw [Bool.eq_iff_iff, testBit_setW]
  have hl : (word ++ [x]).length = word.length + 1 := by simp
  rw [hl]
  by_cases hx : x = i + 1
  · rw [if_pos hx, Nat.testBit_or, Bool.or_eq_true, testBit_setW, testBit_bit, decide_eq_true_eq]
    constructor
    · rintro ⟨h1, h2⟩
      by_cases e : v = word.length
      · exact .inr e.symm
      · rw [getD_left (by omega)] at h2
        exact .inl ⟨by omega, h2⟩
    · rintro (⟨h1, h2⟩ | h)
      · exact ⟨by omega, by rw [getD_left h1]; exact h2⟩
      · subst h
        exact ⟨by omega, by rw [getD_right (Nat.le_refl _)]; simpa using hx⟩
  · rw [if_neg hx, testBit_setW]
    constructor
    · rintro ⟨h1, h2⟩
      by_cases e : v = word.length
      · subst e
        rw [getD_right (Nat.le_refl _)] at h2
        exact absurd (by simpa using h2) hx
      · rw [getD_left (by omega)] at h2
        exact ⟨by omega, h2⟩
    · rintro ⟨h1, h2⟩
      exact ⟨by omega, by rw [getD_left h1]; exact h2⟩
theorem setW_lt {word : List Nat} {i n : Nat} (h : word.length ≤ n) : setW word i < 2 ^ n := lt_bits fun v hv => by have := (testBit_setW.1 hv).1; omega
theorem setW_zero {word : List Nat} {i : Nat} : setW word i = 0 ↔ i + 1 ∉ word := by
  constructor
  · intro h hm
    obtain ⟨v, hv, e⟩ := List.getElem_of_mem hm
    have := testBit_setW.2 (⟨hv, by simp [hv, e]⟩ : v < word.length ∧ word.getD v 0 = i + 1)
    rw [h, Nat.zero_testBit] at this; cases this
  · intro h
    apply nat_ext
    intro v
    rw [Nat.zero_testBit]
    cases hb : (setW word i).testBit v
    · rfl
    · obtain ⟨h1, h2⟩ := testBit_setW.1 hb
      exact absurd (by rw [← h2]; exact getD_mem h1) h
def setsW (word : List Nat) (m : Nat) : List Nat := (List.range m).map (setW word)
theorem setsW_len (word : List Nat) (m : Nat) : (setsW word m).length = m := by simp [setsW]
theorem setsW_get {word : List Nat} {m i : Nat} (h : i < m) : (setsW word m)[i]'(by rw [setsW_len]; exact h) = setW word i := by simp [setsW]
theorem setsW_skip (word : List Nat) (m : Nat) : setsW (word ++ [0]) m = setsW word m := by
  unfold setsW
  apply List.map_congr_left
  intro i _
  rw [setW_snoc, if_neg (by omega)]
theorem setsW_put {word : List Nat} {m i : Nat} (hi : i < m) : setsW (word ++ [i + 1]) m = (setsW word m).set i (setW word i ||| bit word.length) := by
  apply List.ext_getElem
  · simp [setsW]
  · intro j h1 h2
    rw [setsW_len] at h1
    rw [setsW_get h1, List.getElem_set, setW_snoc]
    by_cases e : i = j
    · subst e; rw [if_pos rfl, if_pos rfl]
    · rw [if_neg e, if_neg (by omega), setsW_get h1]
/-- A model of the complete graph. -/
def FitW (H : List Nat) (m : Nat) (word : List Nat) : Prop := (∀ i, i < m → setW word i ≠ 0 ∧ (partsN H (setW word i)).length = 1) ∧ ∀ i k, i < m → k < i → orN H (bitsN (setW word i)) &&& setW word k ≠ 0
def ExtW (H : List Nat) (n m : Nat) (word : List Nat) : Prop := ∃ t : List Nat, word.length + t.length = n ∧ (∀ x ∈ t, x ≤ m) ∧ FitW H m (word ++ t)
theorem ext_end {H : List Nat} {n m : Nat} {word : List Nat} (h : word.length = n) : ExtW H n m word ↔ FitW H m word := by
  constructor
  · rintro ⟨t, h1, -, h3⟩
    have : t = [] := List.eq_nil_of_length_eq_zero (by omega)
    subst this
    simpa using h3
  · intro hf
    exact ⟨[], by simpa using h, by simp, by simpa using hf⟩
theorem ext_step {H : List Nat} {n m : Nat} {word : List Nat} (h : word.length < n) : ExtW H n m word ↔ ∃ k, k ≤ m ∧ ExtW H n m (word ++ [k]) := by
  constructor
  · rintro ⟨t, h1, h2, h3⟩
    cases t with
    | nil => simp at h1; omega
    | cons k t =>
      exact ⟨k, h2 k (by simp), t, by simp at h1 ⊢; omega, fun x hx => h2 x (by simp [hx]), by simpa using h3⟩
  · rintro ⟨k, hk, t, h1, h2, h3⟩
    refine ⟨k :: t, by simp at h1 ⊢; omega, fun x hx => ?_, by simpa using h3⟩
    rcases List.mem_cons.1 hx with rfl | hx
    · exact hk
    · exact h2 x hx
def emptyN (m : Nat) (word : List Nat) : Nat := ((List.range m).filter fun i => decide (i + 1 ∉ word)).length
theorem emptyN_nil (m : Nat) : emptyN m [] = m := by
  unfold emptyN
  rw [List.filter_eq_self.2 (by simp), List.length_range]
theorem emptyN_le (m : Nat) (word : List Nat) : emptyN m word ≤ m := by
  unfold emptyN
  have := List.length_filter_le (fun i => decide (i + 1 ∉ word)) (List.range m)
  simpa using this
theorem emptyN_skip (m : Nat) (word : List Nat) : emptyN m (word ++ [0]) = emptyN m word := by
  unfold emptyN
  congr 1
  apply List.filter_congr
  intro i _
  simp
theorem emptyN_put {m i : Nat} {word : List Nat} (hi : i < m) : emptyN m word = emptyN m (word ++ [i + 1]) + if i + 1 ∈ word then 0 else 1 := by
  by_cases h : i + 1 ∈ word
  · rw [if_pos h]
    unfold emptyN
    rw [Nat.add_zero]
    congr 1
    apply List.filter_congr
    intro j _
    by_cases e : j = i
    · subst e; simp [h]
    · simp [e]
  · rw [if_neg h]
    unfold emptyN
    have h1 := nodup_lenA (l := (List.range m).filter fun j => decide (j + 1 ∉ word)) (E := i :: (List.range m).filter fun j => decide (j + 1 ∉ word ++ [i + 1])) (List.Pairwise.filter _ List.nodup_range) (fun x hx => by
      simp only [List.mem_filter, List.mem_range, decide_eq_true_eq] at hx
      by_cases e : x = i
      · simp [e]
      · refine List.mem_cons_of_mem _ (List.mem_filter.2 ⟨List.mem_range.2 hx.1, ?_⟩)
        simp [hx.2, e])
    have h2 := nodup_lenA (l := i :: (List.range m).filter fun j => decide (j + 1 ∉ word ++ [i + 1])) (E := (List.range m).filter fun j => decide (j + 1 ∉ word)) (List.nodup_cons.2 ⟨by simp, List.Pairwise.filter _ List.nodup_range⟩) (fun x hx => by
      rcases List.mem_cons.1 hx with rfl | hx
      · exact List.mem_filter.2 ⟨List.mem_range.2 hi, by simpa using h⟩
      · simp only [List.mem_filter, List.mem_range, decide_eq_true_eq] at hx
        exact List.mem_filter.2 ⟨List.mem_range.2 hx.1, by
          rw [decide_eq_true_eq]
          exact fun hm => hx.2 (List.mem_append_left _ hm)⟩)
    simp only [List.length_cons] at h1 h2
    omega
theorem ext_empty {H : List Nat} {n m : Nat} : ∀ {t word : List Nat}, word.length + t.length = n → (∀ x ∈ t, x ≤ m) → FitW H m (word ++ t) → word.length + emptyN m word ≤ n
  | [], word, h, _, hf => by
    have : emptyN m word = 0 := by
      unfold emptyN
      rw [List.length_eq_zero_iff, List.filter_eq_nil_iff]
      intro i hi
      rw [decide_eq_true_eq, Classical.not_not]
      have := (hf.1 i (List.mem_range.1 hi)).1
      rw [List.append_nil] at this
      exact Classical.byContradiction fun hn => this (setW_zero.2 hn)
    simp at h
    omega
  | k :: t, word, h, hk, hf => by
    have ih := ext_empty (H := H) (n := n) (m := m) (t := t) (word := word ++ [k]) (by simp at h ⊢; omega) (fun x hx => hk x (by simp [hx])) (by simpa using hf)
    rw [List.length_append, List.length_singleton] at ih
    by_cases h0 : k = 0
    · subst h0
      rw [emptyN_skip] at ih
      omega
    · have hkm := hk k (by simp)
      obtain ⟨i, rfl⟩ : ∃ i, k = i + 1 := ⟨k - 1, by omega⟩
      have := emptyN_put (m := m) (word := word) (i := i) (by omega)
      split at this <;> omega
theorem no_ext {H : List Nat} {n m : Nat} {word : List Nat} (h : n < word.length + emptyN m word) : ¬ ExtW H n m word := by
  rintro ⟨t, h1, h2, h3⟩
  have := ext_empty (H := H) (m := m) h1 h2 h3
  omega
/-- There is a model of the complete graph of so many vertices. -/
def HasK (H : List Nat) (m : Nat) : Prop := ExtW H H.length m []
theorem hasK_mono {H : List Nat} {m : Nat} (h : HasK H (m + 1)) : HasK H m := by
  obtain ⟨t, h1, h2, h3⟩ := h
  rw [List.nil_append] at h3
  have hs : ∀ i, i < m → setW (t.map fun x => if x = m + 1 then 0 else x) i = setW t i := fun i hi => by
    apply nat_ext
    intro v
    rw [Bool.eq_iff_iff, testBit_setW, testBit_setW, List.length_map]
    constructor
    · rintro ⟨hv, e⟩
      refine ⟨hv, ?_⟩
      have e2 : (t.map fun x => if x = m + 1 then 0 else x).getD v 0 = if t[v] = m + 1 then 0 else t[v] := by simp [hv]
      rw [e2] at e
      have e3 : t.getD v 0 = t[v] := by simp [hv]
      rw [e3]
      split at e
      · omega
      · exact e
    · rintro ⟨hv, e⟩
      refine ⟨hv, ?_⟩
      have e2 : (t.map fun x => if x = m + 1 then 0 else x).getD v 0 = if t[v] = m + 1 then 0 else t[v] := by simp [hv]
      have e3 : t.getD v 0 = t[v] := by simp [hv]
      rw [e3] at e
      rw [e2, if_neg (by omega), e]
  refine ⟨t.map fun x => if x = m + 1 then 0 else x, by simpa using h1, fun x hx => ?_, ?_⟩
  · obtain ⟨y, hy, rfl⟩ := List.mem_map.1 hx
    have := h2 y hy
    split <;> omega
  · rw [List.nil_append]
    exact ⟨fun i hi => by rw [hs i hi]; exact h3.1 i (by omega), fun i k hi hk => by rw [hs i hi, hs k (by omega)]; exact h3.2 i k (by omega) hk⟩
theorem hasK_one {H : List Nat} (h : 0 < H.length) : HasK H 1 := by
  have hs : setW (1 :: List.replicate (H.length - 1) 0) 0 = bit 0 := by
    apply nat_ext
    intro v
    rw [Bool.eq_iff_iff, testBit_setW, testBit_bit, decide_eq_true_eq]
    constructor
    · rintro ⟨h1, h2⟩
      cases v with
      | zero => rfl
      | succ v => simp [List.getElem?_replicate] at h2; split at h2 <;> simp at h2
    · intro e
      subst e
      simp
  refine ⟨1 :: List.replicate (H.length - 1) 0, by simp; omega, fun x hx => ?_, ?_⟩
  · rcases List.mem_cons.1 hx with rfl | hx
    · exact Nat.le_refl _
    · rw [(List.mem_replicate.1 hx).2]; omega
  · rw [List.nil_append]
    refine ⟨fun i hi => ?_, fun i k hi hk => by omega⟩
    obtain rfl : i = 0 := by omega
    rw [hs]
    have hb : bit 0 < 4294967296 := by unfold bit; omega
    have hne : bit 0 ≠ 0 := by unfold bit; omega
    refine ⟨hne, (parts_one hb hne).2 ?_⟩
    have hc := ctz_bit hne hb
    apply nat_ext
    intro v
    rw [Bool.eq_iff_iff]
    refine ⟨fun hv => reach_sub hb hc hv, fun hv => ?_⟩
    rw [testBit_bit, decide_eq_true_eq] at hv hc
    subst hv
    rw [← hc]
    exact reach_start hb (by omega)
/-- The ordered pairs of different numbers below m. -/
def pairsK (m : Nat) : List (Nat × Nat) := (List.range m).flatMap fun i => ((List.range m).filter fun k => decide (k ≠ i)).map fun k => (i, k)
theorem mem_pairsK {m : Nat} {p : Nat × Nat} : p ∈ pairsK m ↔ p.1 < m ∧ p.2 < m ∧ p.2 ≠ p.1 := by
  unfold pairsK
  simp only [List.mem_flatMap, List.mem_range, List.mem_map, List.mem_filter, decide_eq_true_eq]
  constructor
  · rintro ⟨i, hi, k, ⟨hk, hne⟩, rfl⟩
    exact ⟨hi, hk, hne⟩
  · rintro ⟨h1, h2, h3⟩
    exact ⟨p.1, h1, p.2, ⟨h2, h3⟩, rfl⟩
theorem pairsK_nodup (m : Nat) : (pairsK m).Nodup := by
  unfold pairsK
  rw [List.nodup_iff_pairwise_ne, List.pairwise_flatMap]
  refine ⟨fun i _ => ?_, ?_⟩
  · rw [List.pairwise_map]
    exact (List.Pairwise.filter _ List.nodup_range).imp fun hne e => hne (by simpa using e)
  · refine List.Pairwise.imp ?_ (List.nodup_iff_pairwise_ne.1 (List.nodup_range (n := m)))
    intro a b hab p hp q hq e
    subst e
    obtain ⟨k, -, rfl⟩ := List.mem_map.1 hp
    obtain ⟨k', -, e⟩ := List.mem_map.1 hq
    exact hab (by simpa using (congrArg Prod.fst e).symm)
theorem near_symm {H : List Nat} {word : List Nat} (hn : word.length ≤ 16) (hs : ∀ x y, x < word.length → y < word.length → (H.getD x 0).testBit y = true → (H.getD y 0).testBit x = true) {i k : Nat} :
    orN H (bitsN (setW word i)) &&& setW word k ≠ 0 ↔ ∃ u v, (setW word i).testBit u = true ∧ (setW word k).testBit v = true ∧ (H.getD u 0).testBit v = true := by
  have h32 : ∀ i, setW word i < 4294967296 := fun i => Nat.lt_trans (setW_lt hn) (by omega)
  constructor
  · intro h
    obtain ⟨v, hv⟩ := Nat.exists_testBit_of_ne_zero h
    rw [Nat.testBit_and, Bool.and_eq_true, testBit_orN] at hv
    obtain ⟨⟨u, hu, hb⟩, hk⟩ := hv
    exact ⟨u, v, (mem_bitsN (h32 i)).1 hu, hk, hb⟩
  · rintro ⟨u, v, hu, hv, hb⟩ h0
    have : (orN H (bitsN (setW word i)) &&& setW word k).testBit v = true := by
      rw [Nat.testBit_and, Bool.and_eq_true, testBit_orN]
      exact ⟨⟨u, (mem_bitsN (h32 i)).2 hu, hb⟩, hv⟩
    rw [h0, Nat.zero_testBit] at this; cases this
/-- What the reference asks of all other sets. -/
theorem fit_all {H : List Nat} {m : Nat} {word : List Nat} (hn : word.length ≤ 16) (hs : ∀ x y, x < word.length → y < word.length → (H.getD x 0).testBit y = true → (H.getD y 0).testBit x = true) :
    FitW H m word ↔ ∀ i, i < m → (setW word i ≠ 0 ∧ (partsN H (setW word i)).length = 1) ∧ ∀ k, k < m → k ≠ i → orN H (bitsN (setW word i)) &&& setW word k ≠ 0 := by
  constructor
  · rintro ⟨h1, h2⟩ i hi
    refine ⟨h1 i hi, fun k hk hne => ?_⟩
    by_cases hlt : k < i
    · exact h2 i k hi hlt
    · obtain ⟨u, v, hu, hv, hb⟩ := (near_symm hn hs).1 (h2 k i hk (by omega))
      exact (near_symm hn hs).2 ⟨v, u, hv, hu, hs u v (testBit_setW.1 hu).1 (testBit_setW.1 hv).1 hb⟩
  · intro h
    exact ⟨fun i hi => (h i hi).1, fun i k hi hk => (h i hi).2 k (by omega) (by omega)⟩
theorem hasK_ends {H : List Nat} {m : Nat} (hn : H.length ≤ 16) (hH : ∀ u, H.getD u 0 < 4294967296) (hs : ∀ x y, x < H.length → y < H.length → (H.getD x 0).testBit y = true → (H.getD y 0).testBit x = true) (h : HasK H m) : (pairsK m).length ≤ (H.map popN).sum := by
  obtain ⟨t, h1, -, h3⟩ := h
  rw [List.nil_append] at h3
  simp at h1
  have hs' : ∀ x y, x < t.length → y < t.length → (H.getD x 0).testBit y = true → (H.getD y 0).testBit x = true := by rw [h1]; exact hs
  have ha := (fit_all (by omega) hs').1 h3
  have hc : ∀ p : Nat × Nat, ∃ q : Nat × Nat, p ∈ pairsK m → (q ∈ sidesN H H.length ∧ t.getD q.1 0 = p.1 + 1 ∧ t.getD q.2 0 = p.2 + 1) := fun p => by
    by_cases hp : p ∈ pairsK m
    · obtain ⟨e1, e2, e3⟩ := mem_pairsK.1 hp
      obtain ⟨u, v, hu, hv, hb⟩ := (near_symm (by omega) hs').1 ((ha p.1 e1).2 p.2 e2 e3)
      have hu := testBit_setW.1 hu
      have hv := testBit_setW.1 hv
      exact ⟨(u, v), fun _ => ⟨(mem_sidesN (hH u)).2 ⟨by omega, hb⟩, hu.2, hv.2⟩⟩
    · exact ⟨p, fun h => absurd h hp⟩
  have hf := fun p => Classical.choose_spec (hc p)
  rw [← sides_len]
  have hnd : ((pairsK m).map fun p => Classical.choose (hc p)).Nodup := by
    rw [List.nodup_iff_pairwise_ne, List.pairwise_map]
    refine List.Pairwise.imp_of_mem ?_ (List.nodup_iff_pairwise_ne.1 (pairsK_nodup m))
    intro a b hma hmb hne e
    obtain ⟨-, a1, a2⟩ := hf a hma
    obtain ⟨-, b1, b2⟩ := hf b hmb
    rw [← e] at b1 b2
    exact hne (Prod.ext (by omega) (by omega))
  have := nodup_lenA hnd (fun x hx => by
    obtain ⟨p, hp, rfl⟩ := List.mem_map.1 hx
    exact (hf p hp).1)
  simpa using this
def setG (H word : List Nat) (i : Nat) : Prop := (setW word i ≠ 0 ∧ (partsN H (setW word i)).length = 1) ∧ ∀ k, k < i → orN H (bitsN (setW word i)) &&& setW word k ≠ 0
theorem fit_iff {H word : List Nat} {m : Nat} : FitW H m word ↔ ∀ i, i < m → setG H word i :=
  ⟨fun h i hi => ⟨h.1 i hi, fun k hk => h.2 i k hi hk⟩, fun h => ⟨fun i hi => (h i hi).1, fun i k hi hk => (h i hi).2 k hk⟩⟩
noncomputable def fitB (H : List Nat) (m : Nat) (word : List Nat) : Bool := @decide (FitW H m word) (Classical.propDecidable _)
noncomputable def extB (H : List Nat) (n m : Nat) (word : List Nat) : Bool := @decide (ExtW H n m word) (Classical.propDecidable _)
theorem fitB_yes {H word : List Nat} {m : Nat} (h : FitW H m word) : fitB H m word = true := by unfold fitB; exact @decide_eq_true _ (Classical.propDecidable _) h
theorem fitB_no {H word : List Nat} {m : Nat} (h : ¬ FitW H m word) : fitB H m word = false := by unfold fitB; exact @decide_eq_false _ (Classical.propDecidable _) h
theorem extB_yes {H word : List Nat} {n m : Nat} (h : ExtW H n m word) : extB H n m word = true := by unfold extB; exact @decide_eq_true _ (Classical.propDecidable _) h
theorem extB_no {H word : List Nat} {n m : Nat} (h : ¬ ExtW H n m word) : extB H n m word = false := by unfold extB; exact @decide_eq_false _ (Classical.propDecidable _) h
theorem extB_true {H word : List Nat} {n m : Nat} (h : extB H n m word = true) : ExtW H n m word := Classical.byContradiction fun hn => by rw [extB_no hn] at h; cases h
theorem extB_false {H word : List Nat} {n m : Nat} (h : extB H n m word = false) : ¬ ExtW H n m word := fun hn => by rw [extB_yes hn] at h; cases h
theorem Keeps.rf (F : Nat → Prop) (w : World) : Keeps F w w := ⟨rfl, rfl, rfl, Nat.le_refl _, fun _ _ _ => rfl⟩
theorem Keeps.tr {F : Nat → Prop} {a b c : World} (h : Keeps F a b) (k : Keeps F b c) : Keeps F a c :=
  ⟨k.os.trans h.os, k.tape.trans h.tape, k.output.trans h.output, Nat.le_trans h.size k.size, fun x hx hF => (k.block x (Nat.lt_of_lt_of_le hx h.size) hF).trans (h.block x hx hF)⟩
theorem Keeps.dr {w w' : World} (F : Nat → Prop) (h : Drawn w w') : Keeps F w w' := by
  have h := h.below w.heap.size
  exact ⟨h.os, h.tape, h.output, h.size, fun b hb _ => h.block b hb⟩
theorem Keeps.st {w : World} {F : Nat → Prop} {a : Addr} (hF : F a.block) (v : Value) : Keeps F w (w.setCell a v) :=
  ⟨rfl, rfl, rfl, by simp, fun b hb hn => Below.heap_setCell _ _ _ _ (fun e => hn (by rw [e]; exact hF))⟩
theorem Keeps.at_ {w w' : World} {tb : Nat} (h : Keeps (fun b => b = tb) w w') {p : Addr} {v : Value} (hc : w.cell? p = some v) (hne : p.block ≠ tb) : w'.cell? p = some v := by
  exact (World.cell?_of_block (a := p) (h.block p.block (cell_lt hc) hne)).trans hc
/-- What the search reads. -/
structure MinS (H : List Nat) (m : Nat) (w : World) (sb tb tc pb po pc wb wo wc nb no nc : Nat) (ha : Option Addr) (hc : Nat) : Prop where
  c0 : w.cell? ⟨sb, 0, none⟩ = some (.slice ha H.length hc)
  c1 : w.cell? ⟨sb, 1, none⟩ = some (.slice (some ⟨pb, po, none⟩) m pc)
  c2 : w.cell? ⟨sb, 2, none⟩ = some (.slice (some ⟨wb, wo, none⟩) (2 ^ H.length) wc)
  c3 : w.cell? ⟨sb, 3, none⟩ = some (.slice (some ⟨nb, no, none⟩) (2 ^ H.length) nc)
  c4 : w.cell? ⟨sb, 4, none⟩ = some (.slice (some ⟨tb, 0, none⟩) m tc)
  pat : ∀ i, i < m → ∃ x : Nat, w.cell? ⟨pb, po + i, none⟩ = some (.int .u32 (x : Int)) ∧ x < 4294967296 ∧ ∀ k, k < m → k ≠ i → x.testBit k = true
  who : ∀ s, s < 2 ^ H.length → w.cell? ⟨wb, wo + s, none⟩ = some (.bool (decide (s ≠ 0 ∧ (partsN H s).length = 1)))
  nea : ∀ s, s < 2 ^ H.length → w.cell? ⟨nb, no + s, none⟩ = some (.int .u32 (orN H (bitsN s) : Int))
  ns : sb ≠ tb
  np : pb ≠ tb
  nw : wb ≠ tb
  nn : nb ≠ tb
theorem MinS.keeps {H : List Nat} {m : Nat} {w w' : World} {sb tb tc pb po pc wb wo wc nb no nc : Nat} {ha : Option Addr} {hc : Nat} (h : MinS H m w sb tb tc pb po pc wb wo wc nb no nc ha hc) (k : Keeps (fun b => b = tb) w w') : MinS H m w' sb tb tc pb po pc wb wo wc nb no nc ha hc :=
  ⟨k.at_ h.c0 h.ns, k.at_ h.c1 h.ns, k.at_ h.c2 h.ns, k.at_ h.c3 h.ns, k.at_ h.c4 h.ns, fun i hi => by
    obtain ⟨x, h1, h2, h3⟩ := h.pat i hi
    exact ⟨x, k.at_ h1 h.np, h2, h3⟩, fun s hs => k.at_ (h.who s hs) h.nw, fun s hs => k.at_ (h.nea s hs) h.nn, h.ns, h.np, h.nw, h.nn⟩
set_option maxRecDepth 100000 in
set_option maxHeartbeats 8000000 in
theorem mfits_any {H word : List Nat} {m : Nat} {w : World} {sb tb tc pb po pc wb wo wc nb no nc : Nat} {ha : Option Addr} {hc : Nat} (hn : H.length ≤ 8) (hm : m ≤ 5) (hH : ∀ x ∈ H, x < 2 ^ H.length) (hw : word.length ≤ H.length)
    (hM : MinS H m w sb tb tc pb po pc wb wo wc nb no nc ha hc) (hr : Row w tb m fun i => .int .u32 (setW word i : Int)) :
    Calls Tryd.prog 184 #[.pointer (some ⟨sb, 0, none⟩)] w fun e w' => e = .returned (.bool (fitB H m word)) ∧ Drawn w w' := by
  have hp8 : (2 : Nat) ^ H.length ≤ 256 := Nat.pow_le_pow_right (n := 2) (by omega) hn
  obtain ⟨c0, c1, c2, c3, c4, pat, who, nea, -, -, -, -⟩ := hM
  have HS := Lib.hid (fun i => setW_lt (i := i) hw)
  have HR := Lib.hid hr
  have HP := Lib.hid pat
  have HW := Lib.hid who
  have HN := Lib.hid nea
  have HOL := Lib.hid (fun l => orN_lt (l := l) hH)
  have HF : RowKit.Hid ((∀ j, j < m → setG H word j) → fitB H m word = true) := Lib.hid (fun h => fitB_yes (fit_iff.2 h))
  have HFN : RowKit.Hid (∀ j, j < m → ¬ setG H word j → fitB H m word = false) := Lib.hid (fun j hj h => fitB_no (fun hf => h (fit_iff.1 hf j hj)))
  have HGI : RowKit.Hid (∀ j, setG H word j ↔ (setW word j ≠ 0 ∧ (partsN H (setW word j)).length = 1) ∧ ∀ k, k < j → orN H (bitsN (setW word j)) &&& setW word k ≠ 0) := Lib.hid (fun j => Iff.rfl)
  have HG0 : RowKit.Hid (∀ j, j < 0 → setG H word j) := Lib.hid (fun _ h => by omega)
  generalize fitB H m word = res at *
  generalize setG H word = G at *
  generalize setW word = st at *
  clear hr pat who nea hH hw c0
  generalize 2 ^ H.length = N at *
  go_enter Tryd.func184, Tryd.ntmps184
  go_wp2
  go_loopw [11] (fun iv wr => ∃ i : Nat, i ≤ m ∧ iv = .int .i64 i ∧ RowKit.Hid (∀ j, j < i → G j) ∧ Drawn w wr) (fun iv _ => m - (intOf iv).toNat)
  case atStart => exact ⟨0, Nat.zero_le _, rfl, HG0, Drawn.refl _⟩
  case round =>
    clear HG0
    obtain ⟨i, hi, rfl, HGi, hd⟩ := hrel
    by_cases hlt : i < m
    case neg =>
      obtain rfl : i = m := by omega
      have HT := Lib.hid (HF.out HGi.out)
      go_wp2
      go_ret
      exact ⟨congrArg (fun b => Ending.returned (Value.bool b)) HT.out.symm, hd⟩
    have hsi := HS.out i
    have a1 : wr.cell? ⟨tb, i, none⟩ = some (.int .u32 (st i : Int)) := (hd.cell _).trans (HR.out i hlt).1
    have a2 := (hd.cell _).trans (HW.out (st i) hsi)
    have a3 := (hd.cell _).trans (HN.out (st i) hsi)
    have d1 := (hd.cell _).trans c1
    have d2 := (hd.cell _).trans c2
    have d3 := (hd.cell _).trans c3
    have d4 := (hd.cell _).trans c4
    have HGI2 := Lib.hid (HGI.out i)
    have HNO := Lib.hid (HFN.out i hlt)
    have hol := HOL.out (bitsN (st i))
    have HSI : RowKit.Hid (st i = st i) := Lib.hid rfl
    obtain ⟨x, a4, hx, hxb⟩ := HP.out i hlt
    replace a4 := (hd.cell _).trans a4
    have HXB := Lib.hid hxb
    clear hxb
    generalize orN H (bitsN (st i)) = o at *
    generalize hbw : decide (st i ≠ 0 ∧ (partsN H (st i)).length = 1) = bw at *
    have HBW := Lib.hid hbw
    clear hbw
    generalize st i = si at *
    by_cases hbt : bw = true
    case neg =>
      obtain rfl : bw = false := by cases bw; rfl; exact absurd rfl hbt
      have HT := Lib.hid (HNO.out (fun h => by
        have := ((HGI2.out).1 h).1
        exact absurd HBW.out (by rw [decide_eq_true this]; simp)))
      go_wp2
      go_ret
      exact ⟨congrArg (fun b => Ending.returned (Value.bool b)) HT.out.symm, hd⟩
    subst hbt
    have HB2 := Lib.hid (of_decide_eq_true HBW.out)
    have HK0 : RowKit.Hid (∀ k, k < 0 → o &&& st k ≠ 0) := Lib.hid (fun _ h => by omega)
    have a1w : w.cell? ⟨tb, i, none⟩ = some (.int .u32 (si : Int)) := (hd.cell _).symm.trans a1
    have a3w := (hd.cell _).symm.trans a3
    have a4w := (hd.cell _).symm.trans a4
    go_wp2
    go_loopw [25] (fun kv wr => ∃ k : Nat, k ≤ i ∧ kv = .int .i64 k ∧ RowKit.Hid (∀ j, j < k → o &&& st j ≠ 0) ∧ Drawn w wr) (fun kv _ => i - (intOf kv).toNat)
    case atStart => exact ⟨0, Nat.zero_le _, rfl, HK0, hd⟩
    case round =>
      clear HK0 a1 a2 a3 a4 d1 d2 d3 d4 hd
      obtain ⟨k, hk, rfl, HKk, hd⟩ := hrel
      by_cases hkl : k < i
      case neg =>
        obtain rfl : k = i := by omega
        have HGn : RowKit.Hid (∀ j, j < k + 1 → G j) := Lib.hid (fun j hj => by
          by_cases e : j = k
          · subst e; exact HGI2.out.2 ⟨HB2.out, HKk.out⟩
          · exact HGi.out j (by omega))
        go_wp2
        go_roundw
        case rel => exact ⟨k + 1, by omega, by go_num, HGn, hd⟩
        case measure => simp [intOf]; omega
      have b1 : wr.cell? ⟨tb, k, none⟩ = some (.int .u32 (st k : Int)) := (hd.cell _).trans (HR.out k (by omega)).1
      have b0 : wr.cell? ⟨tb, i, none⟩ = some (.int .u32 (si : Int)) := (hd.cell _).trans a1w
      have e3 := (hd.cell _).trans a3w
      have e4 := (hd.cell _).trans a4w
      have d1 := (hd.cell _).trans c1
      have d3 := (hd.cell _).trans c3
      have d4 := (hd.cell _).trans c4
      have hkm : k < m := by omega
      have hxk := HXB.out k (by omega) (by omega)
      have hsk := HS.out k
      have hu := u32_and_nat o (st k) (by omega) (by omega)
      have HK1 : RowKit.Hid (o &&& st k ≠ 0 → ∀ j, j < k + 1 → o &&& st j ≠ 0) := Lib.hid (fun h j hj => by
        by_cases e : j = k
        · subst e; exact h
        · exact HKk.out j (by omega))
      have HK2 := Lib.hid (fun (h : o &&& st k = 0) => HNO.out (fun hg => (HGI2.out.1 hg).2 k hkl h))
      generalize st k = sk at *
      generalize o &&& sk = z at *
      go_wp2
      refine wp_region_held_drew (S := (fun w' => w'.cell? ⟨sb, 1, none⟩ = some (.slice (some ⟨pb, po, none⟩) m pc) ∧ w'.cell? ⟨sb, 3, none⟩ = some (.slice (some ⟨nb, no, none⟩) N nc) ∧ w'.cell? ⟨sb, 4, none⟩ = some (.slice (some ⟨tb, 0, none⟩) m tc) ∧ w'.cell? ⟨pb, po + i, none⟩ = some (.int .u32 (x : Int)) ∧ w'.cell? ⟨nb, no + si, none⟩ = some (.int .u32 (o : Int)) ∧ w'.cell? ⟨tb, k, none⟩ = some (.int .u32 (sk : Int)))) (by kernel_rfl) ?_ (fun hHeld => ?_)
      · first | exact ⟨‹_›, ‹_›, ‹_›, ‹_›, ‹_›, ‹_›⟩ | assumption | (simp [*, go_sem])
      have hdw := hd.drew
      generalize wr.drew = wd at hdw hHeld ⊢
      refine wpAnyH_take (i := 0) (v := ?v1) (by simp only [List.getElem?_toArray, List.getElem?_cons_zero]; exact rfl) (by kernel_rfl) (by kernel_rfl) (by kernel_rfl) (by intro _ _ _ h; exact h) (Or.inl ⟨by rfl, ?y1⟩) hHeld ?_
      case y1 => (intro w hSw; (try dsimp only at hSw); go_simp; try (with_reducible rfl))
      try simp only [Act.put, List.setIfInBounds_toArray, List.set_cons_zero, List.set_cons_succ]
      refine wpAnyH_take (i := 1) (v := ?v2) (by simp only [List.getElem?_toArray, List.getElem?_cons_succ, List.getElem?_cons_zero]; exact rfl) (by kernel_rfl) (by kernel_rfl) (by kernel_rfl) (by intro _ _ _ h; exact h) (Or.inl ⟨by rfl, ?y2⟩) hHeld ?_
      case y2 => (intro w hSw; (try dsimp only at hSw); go_simp; try (with_reducible rfl))
      try simp only [Act.put, List.setIfInBounds_toArray, List.set_cons_zero, List.set_cons_succ]
      refine wpAnyH_take (i := 2) (v := ?v3) (by simp only [List.getElem?_toArray, List.getElem?_cons_succ, List.getElem?_cons_zero]; exact rfl) (by kernel_rfl) (by kernel_rfl) (by kernel_rfl) (by intro _ _ _ h; exact h) (Or.inl ⟨by rfl, ?y3⟩) hHeld ?_
      case y3 => (intro w hSw; (try dsimp only at hSw); go_simp; try (with_reducible rfl))
      try simp only [Act.put, List.setIfInBounds_toArray, List.set_cons_zero, List.set_cons_succ]
      refine wpAnyH_take (i := 3) (v := ?v4) (by simp only [List.getElem?_toArray, List.getElem?_cons_succ, List.getElem?_cons_zero]; exact rfl) (by kernel_rfl) (by kernel_rfl) (by kernel_rfl) (by intro _ _ _ h; exact h) (Or.inl ⟨by rfl, ?y4⟩) hHeld ?_
      case y4 => (intro w hSw; (try dsimp only at hSw); go_simp; try (with_reducible rfl))
      try simp only [Act.put, List.setIfInBounds_toArray, List.set_cons_zero, List.set_cons_succ]
      refine wpAnyH_take (i := 4) (v := ?v5) (by simp only [List.getElem?_toArray, List.getElem?_cons_succ, List.getElem?_cons_zero]; exact rfl) (by kernel_rfl) (by kernel_rfl) (by kernel_rfl) (by intro _ _ _ h; exact h) (Or.inl ⟨by rfl, ?y5⟩) hHeld ?_
      case y5 => (intro w hSw; (try dsimp only at hSw); go_simp; try (with_reducible rfl))
      try simp only [Act.put, List.setIfInBounds_toArray, List.set_cons_zero, List.set_cons_succ]
      refine wpAnyH_take (i := 5) (v := ?v6) (by simp only [List.getElem?_toArray, List.getElem?_cons_succ, List.getElem?_cons_zero]; exact rfl) (by kernel_rfl) (by kernel_rfl) (by kernel_rfl) (by intro _ _ _ h; exact h) (Or.inl ⟨by rfl, ?y6⟩) hHeld ?_
      case y6 => (intro w hSw; (try dsimp only at hSw); go_simp; try (with_reducible rfl))
      try simp only [Act.put, List.setIfInBounds_toArray, List.set_cons_zero, List.set_cons_succ]
      refine wpAnyH_take (i := 6) (v := ?v7) (by simp only [List.getElem?_toArray, List.getElem?_cons_succ, List.getElem?_cons_zero]; exact rfl) (by kernel_rfl) (by kernel_rfl) (by kernel_rfl) (by intro _ _ _ h; exact h) (Or.inl ⟨by rfl, ?y7⟩) hHeld ?_
      case y7 => (intro w hSw; (try dsimp only at hSw); go_simp; try (with_reducible rfl))
      try simp only [Act.put, List.setIfInBounds_toArray, List.set_cons_zero, List.set_cons_succ]
      refine wpAnyH_take (i := 7) (v := ?v8) (by simp only [List.getElem?_toArray, List.getElem?_cons_succ, List.getElem?_cons_zero]; exact rfl) (by kernel_rfl) (by kernel_rfl) (by kernel_rfl) (by intro _ _ _ h; exact h) (Or.inl ⟨by rfl, ?y8⟩) hHeld ?_
      case y8 => (intro w hSw; (try dsimp only at hSw); go_simp; try (with_reducible rfl))
      try simp only [Act.put, List.setIfInBounds_toArray, List.set_cons_zero, List.set_cons_succ]
      refine wpAnyH_ready (rs := [8]) (by kernel_rfl) (by simp) ?_
      refine AllReadyH.cons (by simp only [List.getElem?_toArray, List.getElem?_cons_succ, List.getElem?_cons_zero]; exact rfl) (fun K hK => ?_) AllReadyH.nil
      go_simp
      (with_reducible refine (has_any x k _ hx (by omega)).mono ?_)
      rintro e w' ⟨rfl, rfl⟩
      try dsimp only
      refine hK.out _ _ ?h10 (fun hHeld => ?_)
      case h10 => first | exact ⟨‹_›, ‹_›, ‹_›, ‹_›, ‹_›, ‹_›⟩ | assumption | (simp [*, go_sem])
      clear hK K
      try simp only [Act.put, List.setIfInBounds_toArray, List.set_cons_zero, List.set_cons_succ]
      refine wpAnyH_take (i := 9) (v := ?v11) (by simp only [List.getElem?_toArray, List.getElem?_cons_succ, List.getElem?_cons_zero]; exact rfl) (by kernel_rfl) (by kernel_rfl) (by kernel_rfl) (by intro _ _ _ h; exact h) (Or.inl ⟨by rfl, ?y11⟩) hHeld ?_
      case y11 => (intro w hSw; (try dsimp only at hSw); go_simp; try (with_reducible rfl))
      try simp only [Act.put, List.setIfInBounds_toArray, List.set_cons_zero, List.set_cons_succ]
      refine wpAnyH_take (i := 10) (v := ?v12) (by simp only [List.getElem?_toArray, List.getElem?_cons_succ, List.getElem?_cons_zero]; exact rfl) (by kernel_rfl) (by kernel_rfl) (by kernel_rfl) (by intro _ _ _ h; exact h) (Or.inl ⟨by rfl, ?y12⟩) hHeld ?_
      case y12 => (intro w hSw; (try dsimp only at hSw); go_simp; try (with_reducible rfl))
      try simp only [Act.put, List.setIfInBounds_toArray, List.set_cons_zero, List.set_cons_succ]
      refine wpAnyH_take (i := 11) (v := ?v13) (by simp only [List.getElem?_toArray, List.getElem?_cons_succ, List.getElem?_cons_zero]; exact rfl) (by kernel_rfl) (by kernel_rfl) (by kernel_rfl) (by intro _ _ _ h; exact h) (Or.inl ⟨by rfl, ?y13⟩) hHeld ?_
      case y13 => (intro w hSw; (try dsimp only at hSw); go_simp; try (with_reducible rfl))
      try simp only [Act.put, List.setIfInBounds_toArray, List.set_cons_zero, List.set_cons_succ]
      refine wpAnyH_take (i := 12) (v := ?v14) (by simp only [List.getElem?_toArray, List.getElem?_cons_succ, List.getElem?_cons_zero]; exact rfl) (by kernel_rfl) (by kernel_rfl) (by kernel_rfl) (by intro _ _ _ h; exact h) (Or.inl ⟨by rfl, ?y14⟩) hHeld ?_
      case y14 => (intro w hSw; (try dsimp only at hSw); go_simp; try (with_reducible rfl))
      try simp only [Act.put, List.setIfInBounds_toArray, List.set_cons_zero, List.set_cons_succ]
      refine wpAnyH_take (i := 13) (v := ?v15) (by simp only [List.getElem?_toArray, List.getElem?_cons_succ, List.getElem?_cons_zero]; exact rfl) (by kernel_rfl) (by kernel_rfl) (by kernel_rfl) (by intro _ _ _ h; exact h) (Or.inl ⟨by rfl, ?y15⟩) hHeld ?_
      case y15 => (intro w hSw; (try dsimp only at hSw); go_simp; try (with_reducible rfl))
      try simp only [Act.put, List.setIfInBounds_toArray, List.set_cons_zero, List.set_cons_succ]
      refine wpAnyH_take (i := 14) (v := ?v16) (by simp only [List.getElem?_toArray, List.getElem?_cons_succ, List.getElem?_cons_zero]; exact rfl) (by kernel_rfl) (by kernel_rfl) (by kernel_rfl) (by intro _ _ _ h; exact h) (Or.inl ⟨by rfl, ?y16⟩) hHeld ?_
      case y16 => (intro w hSw; (try dsimp only at hSw); go_simp; try (with_reducible rfl))
      try simp only [Act.put, List.setIfInBounds_toArray, List.set_cons_zero, List.set_cons_succ]
      refine wpAnyH_take (i := 15) (v := ?v17) (by simp only [List.getElem?_toArray, List.getElem?_cons_succ, List.getElem?_cons_zero]; exact rfl) (by kernel_rfl) (by kernel_rfl) (by kernel_rfl) (by intro _ _ _ h; exact h) (Or.inl ⟨by rfl, ?y17⟩) hHeld ?_
      case y17 => (intro w hSw; (try dsimp only at hSw); go_simp; try (with_reducible rfl))
      try simp only [Act.put, List.setIfInBounds_toArray, List.set_cons_zero, List.set_cons_succ]
      refine wpAnyH_take (i := 16) (v := ?v18) (by simp only [List.getElem?_toArray, List.getElem?_cons_succ, List.getElem?_cons_zero]; exact rfl) (by kernel_rfl) (by kernel_rfl) (by kernel_rfl) (by intro _ _ _ h; exact h) (Or.inl ⟨by rfl, ?y18⟩) hHeld ?_
      case y18 => (intro w hSw; (try dsimp only at hSw); go_simp; try (with_reducible rfl))
      try simp only [Act.put, List.setIfInBounds_toArray, List.set_cons_zero, List.set_cons_succ]
      refine wpAnyH_take (i := 17) (v := ?v19) (by simp only [List.getElem?_toArray, List.getElem?_cons_succ, List.getElem?_cons_zero]; exact rfl) (by kernel_rfl) (by kernel_rfl) (by kernel_rfl) (by intro _ _ _ h; exact h) (Or.inl ⟨by rfl, ?y19⟩) hHeld ?_
      case y19 => (intro w hSw; (try dsimp only at hSw); go_simp; try (with_reducible rfl))
      try simp only [Act.put, List.setIfInBounds_toArray, List.set_cons_zero, List.set_cons_succ]
      refine wpAnyH_take (i := 18) (v := ?v20) (by simp only [List.getElem?_toArray, List.getElem?_cons_succ, List.getElem?_cons_zero]; exact rfl) (by kernel_rfl) (by kernel_rfl) (by kernel_rfl) (by intro _ _ _ h; exact h) (Or.inl ⟨by rfl, ?y20⟩) hHeld ?_
      case y20 => (intro w hSw; (try dsimp only at hSw); go_simp; try (with_reducible rfl))
      try simp only [Act.put, List.setIfInBounds_toArray, List.set_cons_zero, List.set_cons_succ]
      refine wpAnyH_take (i := 19) (v := ?v21) (by simp only [List.getElem?_toArray, List.getElem?_cons_succ, List.getElem?_cons_zero]; exact rfl) (by kernel_rfl) (by kernel_rfl) (by kernel_rfl) (by intro _ _ _ h; exact h) (Or.inl ⟨by rfl, ?y21⟩) hHeld ?_
      case y21 => (intro w hSw; (try dsimp only at hSw); go_simp; try (with_reducible rfl))
      try simp only [Act.put, List.setIfInBounds_toArray, List.set_cons_zero, List.set_cons_succ]
      refine wpAnyH_take (i := 20) (v := ?v22) (by simp only [List.getElem?_toArray, List.getElem?_cons_succ, List.getElem?_cons_zero]; exact rfl) (by kernel_rfl) (by kernel_rfl) (by kernel_rfl) (by intro _ _ _ h; exact h) (Or.inl ⟨by rfl, ?y22⟩) hHeld ?_
      case y22 => (intro w hSw; (try dsimp only at hSw); go_simp; try (with_reducible rfl))
      try simp only [Act.put, List.setIfInBounds_toArray, List.set_cons_zero, List.set_cons_succ]
      refine wpAnyH_take (i := 21) (v := ?v23) (by simp only [List.getElem?_toArray, List.getElem?_cons_succ, List.getElem?_cons_zero]; exact rfl) (by kernel_rfl) (by kernel_rfl) (by kernel_rfl) (by intro _ _ _ h; exact h) (Or.inl ⟨by rfl, ?y23⟩) hHeld ?_
      case y23 => (intro w hSw; (try dsimp only at hSw); go_simp; try (with_reducible rfl))
      try simp only [Act.put, List.setIfInBounds_toArray, List.set_cons_zero, List.set_cons_succ]
      refine wpAnyH_take (i := 22) (v := ?v24) (by simp only [List.getElem?_toArray, List.getElem?_cons_succ, List.getElem?_cons_zero]; exact rfl) (by kernel_rfl) (by kernel_rfl) (by kernel_rfl) (by intro _ _ _ h; exact h) (Or.inl ⟨by rfl, ?y24⟩) hHeld ?_
      case y24 => (intro w hSw; (try dsimp only at hSw); go_simp; try (with_reducible rfl))
      try simp only [Act.put, List.setIfInBounds_toArray, List.set_cons_zero, List.set_cons_succ]
      refine wpAnyH_take (i := 23) (v := ?v25) (by simp only [List.getElem?_toArray, List.getElem?_cons_succ, List.getElem?_cons_zero]; exact rfl) (by kernel_rfl) (by kernel_rfl) (by kernel_rfl) (by intro _ _ _ h; exact h) (Or.inl ⟨by rfl, ?y25⟩) hHeld ?_
      case y25 => (intro w hSw; (try dsimp only at hSw); go_simp; try (with_reducible rfl))
      try simp only [Act.put, List.setIfInBounds_toArray, List.set_cons_zero, List.set_cons_succ]
      refine wpAnyH_take (i := 24) (v := ?v26) (by simp only [List.getElem?_toArray, List.getElem?_cons_succ, List.getElem?_cons_zero]; exact rfl) (by kernel_rfl) (by kernel_rfl) (by kernel_rfl) (by intro _ _ _ h; exact h) (Or.inl ⟨by rfl, ?y26⟩) hHeld ?_
      case y26 => (intro w hSw; (try dsimp only at hSw); go_simp; try (with_reducible rfl))
      try simp only [Act.put, List.setIfInBounds_toArray, List.set_cons_zero, List.set_cons_succ]
      refine wpAnyH_take (i := 25) (v := ?v27) (by simp only [List.getElem?_toArray, List.getElem?_cons_succ, List.getElem?_cons_zero]; exact rfl) (by kernel_rfl) (by kernel_rfl) (by kernel_rfl) (by intro _ _ _ h; exact h) (Or.inl ⟨by rfl, ?y27⟩) hHeld ?_
      case y27 => (intro w hSw; (try dsimp only at hSw); go_simp; try (with_reducible rfl))
      try simp only [Act.put, List.setIfInBounds_toArray, List.set_cons_zero, List.set_cons_succ]
      refine wpAnyH_take (i := 26) (v := ?v28) (by simp only [List.getElem?_toArray, List.getElem?_cons_succ, List.getElem?_cons_zero]; exact rfl) (by kernel_rfl) (by kernel_rfl) (by kernel_rfl) (by intro _ _ _ h; exact h) (Or.inl ⟨by rfl, ?y28⟩) hHeld ?_
      case y28 => (intro w hSw; (try dsimp only at hSw); go_simp; try (with_reducible rfl))
      try simp only [Act.put, List.setIfInBounds_toArray, List.set_cons_zero, List.set_cons_succ]
      refine wpAnyH_done (by kernel_rfl) ?_ _
      by_cases hz : z = 0
      · subst hz
        have HT := Lib.hid (HK2.out rfl)
        go_wp2
        go_ret
        exact ⟨congrArg (fun b => Ending.returned (Value.bool b)) HT.out.symm, hdw⟩
      · have HKn := Lib.hid (HK1.out hz)
        have hzb : ((z : Int) == 0) = false := by rw [beq_eq_false_iff_ne]; omega
        have hzb2 : (z == 0) = false := by rw [beq_eq_false_iff_ne]; omega
        go_wp2
        go_roundw
        case rel => exact ⟨k + 1, by omega, by go_num, HKn, hdw⟩
        case measure => simp [intOf]; omega
theorem Row.same {w : World} {b n : Nat} {f f' : Nat → Value} (h : Row w b n f) (he : ∀ i, i < n → f' i = f i) : Row w b n f' := fun i hi => by rw [he i hi]; exact h i hi
set_option maxRecDepth 100000 in
set_option maxHeartbeats 8000000 in
theorem mgrow_any {H : List Nat} {m : Nat} {sb tb tc pb po pc wb wo wc nb no nc : Nat} {ha : Option Addr} {hc : Nat} (hn : H.length ≤ 8) (hm : m ≤ 5) (hH : ∀ x ∈ H, x < 2 ^ H.length) :
    ∀ (d : Nat) (word : List Nat) (w : World), word.length + d = H.length → MinS H m w sb tb tc pb po pc wb wo wc nb no nc ha hc → Row w tb m (fun i => .int .u32 (setW word i : Int)) →
    Calls Tryd.prog 133 #[.pointer (some ⟨sb, 0, none⟩), .int .i64 (word.length : Int), .int .i64 (emptyN m word : Int)] w fun e w' => e = .returned (.bool (extB H H.length m word)) ∧ Keeps (fun b => b = tb) w w' ∧ (extB H H.length m word = false → Row w' tb m (fun i => .int .u32 (setW word i : Int))) := by
  intro d
  induction d with
  | zero =>
    intro word w hl hM hr
    have hel := emptyN_le m word
    have hfi := mfits_any hn hm hH (by omega) hM hr
    have HE : RowKit.Hid (extB H H.length m word = fitB H m word) := Lib.hid (by
      have h := ext_end (H := H) (m := m) (show word.length = H.length by omega)
      by_cases hf : FitW H m word
      · rw [extB_yes (h.2 hf), fitB_yes hf]
      · rw [extB_no (fun he => hf (h.1 he)), fitB_no hf])
    have HNE : RowKit.Hid (0 < emptyN m word → extB H H.length m word = false) := Lib.hid (fun h => extB_no (no_ext (by omega)))
    have hc0 := hM.c0
    have HR := Lib.hid hr
    have HM := Lib.hid hM
    have hww : IntKind.i64.wrap ((H.length : Int) - (H.length : Int)) = 0 := by rw [Int.sub_self]; rfl
    have hlw : word.length = H.length := by omega
    rw [hlw]
    generalize fitB H m word = fb at *
    generalize extB H H.length m word = xb at *
    generalize emptyN m word = em at *
    by_cases he : 0 < em
    · have hz := HNE.out he
      subst hz
      clear hfi hr hM
      go_enter Tryd.func133, Tryd.ntmps133
      go_wp2
      go_ret
      exact ⟨rfl, Keeps.dr _ (by repeat (first | exact Drawn.refl _ | refine Drawn.drewN ?_ _ | refine Drawn.drew ?_)), by first | exact HR.out | exact fun _ => HR.out⟩
    · obtain rfl : em = 0 := by omega
      clear hr hM
      go_enter Tryd.func133, Tryd.ntmps133
      go_wp2_with fail
      refine hfi.mono ?_
      rintro e w1 ⟨rfl, hd⟩
      go_wp2
      go_ret
      exact ⟨ret_bool HE.out.symm, Keeps.dr _ hd, fun _ => HR.out.keep (by rw [hd.heap])⟩
  | succ d ih =>
    intro word w hl hM hr
    have hel := emptyN_le m word
    have HNE : RowKit.Hid (H.length < word.length + emptyN m word → extB H H.length m word = false) := Lib.hid (fun h => extB_no (no_ext h))
    have HST := Lib.hid (ext_step (H := H) (m := m) (show word.length < H.length by omega))
    have hc0 := hM.c0
    have hr1 : Row w tb m (fun i => .int .u32 (setW (word ++ [0]) i : Int)) := hr.same (fun i _ => by rw [setW_snoc, if_neg (by omega)])
    have hi0 := ih (word ++ [0]) w (by rw [List.length_append, List.length_singleton]; omega) hM hr1
    rw [emptyN_skip, List.length_append, List.length_singleton] at hi0
    have HR := Lib.hid hr
    have HM := Lib.hid hM
    have hlv : word.length < H.length := by omega
    have hw1 : IntKind.i64.wrap ((H.length : Int) - (word.length : Int)) = (H.length : Int) - (word.length : Int) := IntWalk.i64_in _ (by omega)
    have hq : ((word.length : Int) == (H.length : Int)) = false := by rw [beq_eq_false_iff_ne]; omega
    have hq2 : (word.length == H.length) = false := by rw [beq_eq_false_iff_ne]; omega
    have HEY : RowKit.Hid ((∃ k, k ≤ m ∧ extB H H.length m (word ++ [k]) = true) → extB H H.length m word = true) := Lib.hid (fun ⟨k, hk, h⟩ => extB_yes (HST.out.2 ⟨k, hk, extB_true h⟩))
    have HEN : RowKit.Hid ((∀ k, k ≤ m → extB H H.length m (word ++ [k]) = false) → extB H H.length m word = false) := Lib.hid (fun h => extB_no (fun he => by
      obtain ⟨k, hk, hx⟩ := HST.out.1 he
      exact extB_false (h k hk) hx))
    by_cases hpr : H.length < word.length + emptyN m word
    · have hz := HNE.out hpr
      have hg : decide ((H.length : Int) - (word.length : Int) < (emptyN m word : Int)) = true := decide_eq_true (by omega)
      clear hi0 hr hM hr1 HST HEY HEN
      go_enter Tryd.func133, Tryd.ntmps133
      go_wp2
      go_ret
      exact ⟨ret_bool hz.symm, Keeps.dr _ (by repeat (first | exact Drawn.refl _ | refine Drawn.drewN ?_ _ | refine Drawn.drew ?_)), fun _ => HR.out⟩
    have hg : decide ((H.length : Int) - (word.length : Int) < (emptyN m word : Int)) = false := decide_eq_false (by omega)
    clear hr hM hr1 HST
    go_enter Tryd.func133, Tryd.ntmps133
    go_wp2_with fail
    refine hi0.mono ?_
    rintro e w1 ⟨rfl, hk1, hr1⟩
    have HEY0 : RowKit.Hid (extB H H.length m (word ++ [0]) = true → extB H H.length m word = true) := Lib.hid (fun h => HEY.out ⟨0, by omega, h⟩)
    have HE0 : RowKit.Hid (extB H H.length m (word ++ [0]) = false → ∀ k, k < 0 + 1 → extB H H.length m (word ++ [k]) = false) := Lib.hid (fun h k hk => by
      obtain rfl : k = 0 := by omega
      exact h)
    have HR1 : RowKit.Hid (extB H H.length m (word ++ [0]) = false → Row w1 tb m (fun i => .int .u32 (setW word i : Int))) := Lib.hid (fun h => (hr1 h).same (fun i _ => by rw [setW_snoc, if_neg (by omega)]))
    clear hi0 hr1 hg HNE
    generalize extB H H.length m (word ++ [0]) = x0 at *
    cases x0 with
    | true =>
      have hz := HEY0.out rfl
      go_wp2
      go_ret
      exact ⟨ret_bool hz.symm, hk1, fun h => by rw [hz] at h; cases h⟩
    | false =>
    have HR2 := Lib.hid (HR1.out rfl)
    have HE2 := Lib.hid (HE0.out rfl)
    clear HEY0 HR1 HE0
    have hM1 := HM.out.keeps hk1
    have hc4 := hM1.c4
    go_wp2
    go_loopw [38] (fun iv wr => ∃ i : Nat, i ≤ m ∧ iv = .int .i64 i ∧ RowKit.Hid (∀ k, k < i + 1 → extB H H.length m (word ++ [k]) = false) ∧ RowKit.Hid (Row wr tb m (fun i => .int .u32 (setW word i : Int))) ∧ Keeps (fun b => b = tb) w wr) (fun iv _ => m - (intOf iv).toNat)
    case atStart => exact ⟨0, Nat.zero_le _, rfl, HE2, HR2, hk1⟩
    case round =>
      clear HE2 HR2 hk1 hM1 hc4 hc0
      obtain ⟨i, hi, rfl, HEi, HRi, hki⟩ := hrel
      have hMi := HM.out.keeps hki
      have hc4 := hMi.c4
      by_cases hlt : i < m
      case neg =>
        obtain rfl : i = m := by omega
        have hz := HEN.out (fun k hk => HEi.out k (by omega))
        go_wp2
        go_ret
        exact ⟨ret_bool hz.symm, hki, fun _ => HRi.out⟩
      obtain ⟨wi, rfl⟩ : ∃ wi : World, wi = wr := ⟨_, rfl⟩
      have b1 : wi.cell? ⟨tb, i, none⟩ = some (.int .u32 (setW word i : Int)) := (HRi.out i hlt).1
      have hsl := setW_lt (word := word) (i := i) (n := H.length) (by omega)
      have hp8 : (2 : Nat) ^ H.length ≤ 256 := Nat.pow_le_pow_right (n := 2) (by omega) hn
      have hbl : bit word.length < 4294967296 := bit_lt (by omega)
      have hor := u32_or_nat (setW word i) (bit word.length) (by omega) hbl
      have hem := emptyN_put (m := m) (i := i) (word := word) hlt
      have hsz := setW_zero (word := word) (i := i)
      have HPUT : RowKit.Hid (∀ wd : World, Row wd tb m (fun i => .int .u32 (setW word i : Int)) → Row (wd.setCell ⟨tb, i, none⟩ (.int .u32 ((setW word i ||| bit word.length : Nat) : Int))) tb m (fun j => .int .u32 (setW (word ++ [i + 1]) j : Int))) := Lib.hid (fun wd h => h.set hlt (fun j hj => by
        rw [setW_snoc]
        by_cases e : i = j
        · subst e; rw [if_pos rfl, if_pos rfl]
        · rw [if_neg e, if_neg (by omega)]))
      have HBACK : RowKit.Hid (∀ wd : World, Row wd tb m (fun j => .int .u32 (setW (word ++ [i + 1]) j : Int)) → Row (wd.setCell ⟨tb, i, none⟩ (.int .u32 (setW word i : Int))) tb m (fun i => .int .u32 (setW word i : Int))) := Lib.hid (fun wd h => h.set hlt (fun j hj => by
        by_cases e : i = j
        · subst e; rw [if_pos rfl]
        · rw [if_neg e, setW_snoc, if_neg (by omega)]))
      have hih0 := fun (W : World) h1 h2 => ih (word ++ [i + 1]) W (by rw [List.length_append, List.length_singleton]; omega) h1 h2
      rw [List.length_append, List.length_singleton] at hih0
      by_cases hz : setW word i = 0
      · have hmem := hsz.1 hz
        rw [if_neg hmem] at hem
        have hw5 : IntKind.i64.wrap ((emptyN m word : Int) - 1) = (emptyN m (word ++ [i + 1]) : Int) := by rw [IntWalk.i64_in _ (by omega)]; omega
        have hzb : ((setW word i : Int) == 0) = true := by rw [beq_iff_eq]; omega
        have hzb2 : (setW word i == 0) = true := by rw [beq_iff_eq]; exact hz
        have HIH := Lib.hid hih0
        clear hih0 hmem hem hsz hel hsl
        generalize emptyN m (word ++ [i + 1]) = e1 at *
        generalize emptyN m word = e0 at *
        generalize hst : setW word i = st at *
        clear hst hz
        go_wp2
        refine wp_region_late (S := (fun w' => w'.cell? ⟨sb, 4, none⟩ = some (.slice (some ⟨tb, 0, none⟩) m tc) ∧ w'.cell? ⟨tb, i, none⟩ = some (.int .u32 (st : Int)))) (late := [11]) (by kernel_rfl) ?_ (fun hHeld => ?_)
        · first | exact ⟨‹_›, ‹_›⟩ | (simp [*, go_sem])
        have hdw : Drawn wi wi.drew := (Drawn.refl _).drew
        generalize wi.drew = wd at hdw hHeld ⊢
        have hfz := (HRi.out.keep (w' := wd) (by rw [hdw.heap]) i hlt).2
        refine wpLate_take (i := 0) (v := ?v29) (by simp only [List.getElem?_toArray, List.getElem?_cons_zero]; exact rfl) (by kernel_rfl) (by kernel_rfl) (by kernel_rfl) (by intro _ _ _ h; exact h) (Or.inl ⟨by rfl, ?y29⟩) ?_
        case y29 => (intro w _; go_simp; try (with_reducible rfl))
        try simp only [Act.put, List.setIfInBounds_toArray, List.set_cons_zero, List.set_cons_succ]
        refine wpLate_take (i := 1) (v := ?v30) (by simp only [List.getElem?_toArray, List.getElem?_cons_succ, List.getElem?_cons_zero]; exact rfl) (by kernel_rfl) (by kernel_rfl) (by kernel_rfl) (by intro _ _ _ h; exact h) (Or.inl ⟨by rfl, ?y30⟩) ?_
        case y30 => (intro w _; go_simp; try (with_reducible rfl))
        try simp only [Act.put, List.setIfInBounds_toArray, List.set_cons_zero, List.set_cons_succ]
        refine wpLate_take (i := 2) (v := ?v31) (by simp only [List.getElem?_toArray, List.getElem?_cons_succ, List.getElem?_cons_zero]; exact rfl) (by kernel_rfl) (by kernel_rfl) (by kernel_rfl) (by intro _ _ _ h; exact h) (Or.inl ⟨by rfl, ?y31⟩) ?_
        case y31 => (intro w _; go_simp; try (with_reducible rfl))
        try simp only [Act.put, List.setIfInBounds_toArray, List.set_cons_zero, List.set_cons_succ]
        refine wpLate_load (i := 3) (v := ?v32) (by simp only [List.getElem?_toArray, List.getElem?_cons_succ, List.getElem?_cons_zero]; exact rfl) (by kernel_rfl) (by kernel_rfl) (by kernel_rfl) (by kernel_rfl) (by intro _ _ _ h; exact h) (Or.inl ⟨by rfl, ?y32⟩) hHeld ?_
        case y32 => (intro w hSw; (try dsimp only at hSw); go_simp; try (with_reducible rfl))
        try simp only [Act.put, List.setIfInBounds_toArray, List.set_cons_zero, List.set_cons_succ]
        refine wpLate_take (i := 4) (v := ?v33) (by simp only [List.getElem?_toArray, List.getElem?_cons_succ, List.getElem?_cons_zero]; exact rfl) (by kernel_rfl) (by kernel_rfl) (by kernel_rfl) (by intro _ _ _ h; exact h) (Or.inl ⟨by rfl, ?y33⟩) ?_
        case y33 => (intro w _; go_simp; try (with_reducible rfl))
        try simp only [Act.put, List.setIfInBounds_toArray, List.set_cons_zero, List.set_cons_succ]
        refine wpLate_take (i := 5) (v := ?v34) (by simp only [List.getElem?_toArray, List.getElem?_cons_succ, List.getElem?_cons_zero]; exact rfl) (by kernel_rfl) (by kernel_rfl) (by kernel_rfl) (by intro _ _ _ h; exact h) (Or.inl ⟨by rfl, ?y34⟩) ?_
        case y34 => (intro w _; go_simp; try (with_reducible rfl))
        try simp only [Act.put, List.setIfInBounds_toArray, List.set_cons_zero, List.set_cons_succ]
        refine wpLate_load (i := 6) (v := ?v35) (by simp only [List.getElem?_toArray, List.getElem?_cons_succ, List.getElem?_cons_zero]; exact rfl) (by kernel_rfl) (by kernel_rfl) (by kernel_rfl) (by kernel_rfl) (by intro _ _ _ h; exact h) (Or.inl ⟨by rfl, ?y35⟩) hHeld ?_
        case y35 => (intro w hSw; (try dsimp only at hSw); go_simp; try (with_reducible rfl))
        try simp only [Act.put, List.setIfInBounds_toArray, List.set_cons_zero, List.set_cons_succ]
        refine wpLate_take (i := 7) (v := ?v36) (by simp only [List.getElem?_toArray, List.getElem?_cons_succ, List.getElem?_cons_zero]; exact rfl) (by kernel_rfl) (by kernel_rfl) (by kernel_rfl) (by intro _ _ _ h; exact h) (Or.inl ⟨by rfl, ?y36⟩) ?_
        case y36 => (intro w _; go_simp; try (with_reducible rfl))
        try simp only [Act.put, List.setIfInBounds_toArray, List.set_cons_zero, List.set_cons_succ]
        refine wpLate_one (i := 8) (by kernel_rfl) (by simp only [List.getElem?_toArray, List.getElem?_cons_succ, List.getElem?_cons_zero]; exact rfl) (by kernel_rfl) (fun K hK => ?_)
        go_simp
        refine (one_any _ _ (by omega) (by omega)).mono ?_
        rintro e w' ⟨rfl, rfl⟩
        try dsimp only
        refine hK.out _ _ ?h37 (fun hHeld => ?_)
        case h37 => first | exact ⟨‹_›, ‹_›⟩ | (simp [*, go_sem])
        clear hK K
        try simp only [Act.put, List.setIfInBounds_toArray, List.set_cons_zero, List.set_cons_succ]
        refine wpLate_take (i := 9) (v := ?v38) (by simp only [List.getElem?_toArray, List.getElem?_cons_succ, List.getElem?_cons_zero]; exact rfl) (by kernel_rfl) (by kernel_rfl) (by kernel_rfl) (by intro _ _ _ h; exact h) (Or.inl ⟨by rfl, ?y38⟩) ?_
        case y38 => (intro w _; go_simp; try (with_reducible rfl))
        try simp only [Act.put, List.setIfInBounds_toArray, List.set_cons_zero, List.set_cons_succ]
        refine wpLate_take (i := 10) (v := ?v39) (by simp only [List.getElem?_toArray, List.getElem?_cons_succ, List.getElem?_cons_zero]; exact rfl) (by kernel_rfl) (by kernel_rfl) (by kernel_rfl) (by intro _ _ _ h; exact h) (Or.inl ⟨by rfl, ?y39⟩) ?_
        case y39 => (intro w _; go_simp; try (with_reducible rfl))
        try simp only [Act.put, List.setIfInBounds_toArray, List.set_cons_zero, List.set_cons_succ]
        refine wpLate_late (i := 11) (by kernel_rfl) (by simp only [List.getElem?_toArray, List.getElem?_cons_succ, List.getElem?_cons_zero]; exact rfl) (by kernel_rfl) (fun K hK => ?_)
        go_simp
        skip
        try dsimp only
        refine hK.out _ _ ?_
        clear hK K
        try simp only [Act.put, List.setIfInBounds_toArray, List.set_cons_zero, List.set_cons_succ]
        refine wpLate_done (by kernel_rfl) ?_ _
        have hkw := hki.tr ((Keeps.dr (fun b => b = tb) hdw).tr (Keeps.st (F := fun b => b = tb) (w := wd) (a := ⟨tb, i, none⟩) rfl (.int .u32 ((st ||| bit word.length : Nat) : Int))))
        have hrw := HPUT.out wd (HRi.out.keep (by rw [hdw.heap]))
        generalize wd.setCell ⟨tb, i, none⟩ (.int .u32 ((st ||| bit word.length : Nat) : Int)) = w2 at *
        have hih := HIH.out w2 (HM.out.keeps hkw) hrw
        clear hHeld b1 hfz
        go_wp2_with fail
        refine hih.mono ?_
        rintro e w3 ⟨rfl, hk3, hr3⟩
        have HEYi : RowKit.Hid (extB H H.length m (word ++ [i + 1]) = true → extB H H.length m word = true) := Lib.hid (fun h => HEY.out ⟨i + 1, by omega, h⟩)
        have HEi2 : RowKit.Hid (extB H H.length m (word ++ [i + 1]) = false → ∀ k, k < i + 1 + 1 → extB H H.length m (word ++ [k]) = false) := Lib.hid (fun h k hk => by
          by_cases e : k = i + 1
          · subst e; exact h
          · exact HEi.out k (by omega))
        have HR3 := Lib.hid hr3
        have hkx := hkw.tr hk3
        clear hih hr3 hrw
        generalize extB H H.length m (word ++ [i + 1]) = x1 at *
        cases x1 with
        | true =>
          have hz := HEYi.out rfl
          go_wp2
          go_ret
          exact ⟨ret_bool hz.symm, hkx, fun h => by rw [hz] at h; cases h⟩
        | false =>
          have HR4 := Lib.hid (HR3.out rfl)
          have HE4 := Lib.hid (HEi2.out rfl)
          clear HEYi HR3 HEi2
          have hM3 := HM.out.keeps hkx
          have hc5 := hM3.c4
          obtain ⟨f1, f2⟩ := HR4.out i hlt
          have hr5 := HBACK.out w3 HR4.out
          have HR5 := Lib.hid hr5
          have hk5 := hkx.tr (Keeps.st (F := fun b => b = tb) (w := w3) (a := ⟨tb, i, none⟩) rfl (.int .u32 (st : Int)))
          clear hr5
          go_wp2
          go_roundw
          case rel => exact ⟨i + 1, by omega, by go_num, HE4, HR5, hk5⟩
          case measure => simp [intOf]; omega
      · have hmem : i + 1 ∈ word := Classical.byContradiction fun h => hz (hsz.2 h)
        rw [if_pos hmem, Nat.add_zero] at hem
        have hzb : ((setW word i : Int) == 0) = false := by rw [beq_eq_false_iff_ne]; omega
        have hzb2 : (setW word i == 0) = false := by rw [beq_eq_false_iff_ne]; exact hz
        rw [← hem] at hih0
        have HIH := Lib.hid hih0
        clear hih0 hmem hem hsz hel hsl
        generalize emptyN m word = e0 at *
        generalize hst : setW word i = st at *
        clear hst hz
        go_wp2
        refine wp_region_late (S := (fun w' => w'.cell? ⟨sb, 4, none⟩ = some (.slice (some ⟨tb, 0, none⟩) m tc) ∧ w'.cell? ⟨tb, i, none⟩ = some (.int .u32 (st : Int)))) (late := [11]) (by kernel_rfl) ?_ (fun hHeld => ?_)
        · first | exact ⟨‹_›, ‹_›⟩ | (simp [*, go_sem])
        have hdw : Drawn wi wi.drew := (Drawn.refl _).drew
        generalize wi.drew = wd at hdw hHeld ⊢
        have hfz := (HRi.out.keep (w' := wd) (by rw [hdw.heap]) i hlt).2
        refine wpLate_take (i := 0) (v := ?v41) (by simp only [List.getElem?_toArray, List.getElem?_cons_zero]; exact rfl) (by kernel_rfl) (by kernel_rfl) (by kernel_rfl) (by intro _ _ _ h; exact h) (Or.inl ⟨by rfl, ?y41⟩) ?_
        case y41 => (intro w _; go_simp; try (with_reducible rfl))
        try simp only [Act.put, List.setIfInBounds_toArray, List.set_cons_zero, List.set_cons_succ]
        refine wpLate_take (i := 1) (v := ?v42) (by simp only [List.getElem?_toArray, List.getElem?_cons_succ, List.getElem?_cons_zero]; exact rfl) (by kernel_rfl) (by kernel_rfl) (by kernel_rfl) (by intro _ _ _ h; exact h) (Or.inl ⟨by rfl, ?y42⟩) ?_
        case y42 => (intro w _; go_simp; try (with_reducible rfl))
        try simp only [Act.put, List.setIfInBounds_toArray, List.set_cons_zero, List.set_cons_succ]
        refine wpLate_take (i := 2) (v := ?v43) (by simp only [List.getElem?_toArray, List.getElem?_cons_succ, List.getElem?_cons_zero]; exact rfl) (by kernel_rfl) (by kernel_rfl) (by kernel_rfl) (by intro _ _ _ h; exact h) (Or.inl ⟨by rfl, ?y43⟩) ?_
        case y43 => (intro w _; go_simp; try (with_reducible rfl))
        try simp only [Act.put, List.setIfInBounds_toArray, List.set_cons_zero, List.set_cons_succ]
        refine wpLate_load (i := 3) (v := ?v44) (by simp only [List.getElem?_toArray, List.getElem?_cons_succ, List.getElem?_cons_zero]; exact rfl) (by kernel_rfl) (by kernel_rfl) (by kernel_rfl) (by kernel_rfl) (by intro _ _ _ h; exact h) (Or.inl ⟨by rfl, ?y44⟩) hHeld ?_
        case y44 => (intro w hSw; (try dsimp only at hSw); go_simp; try (with_reducible rfl))
        try simp only [Act.put, List.setIfInBounds_toArray, List.set_cons_zero, List.set_cons_succ]
        refine wpLate_take (i := 4) (v := ?v45) (by simp only [List.getElem?_toArray, List.getElem?_cons_succ, List.getElem?_cons_zero]; exact rfl) (by kernel_rfl) (by kernel_rfl) (by kernel_rfl) (by intro _ _ _ h; exact h) (Or.inl ⟨by rfl, ?y45⟩) ?_
        case y45 => (intro w _; go_simp; try (with_reducible rfl))
        try simp only [Act.put, List.setIfInBounds_toArray, List.set_cons_zero, List.set_cons_succ]
        refine wpLate_take (i := 5) (v := ?v46) (by simp only [List.getElem?_toArray, List.getElem?_cons_succ, List.getElem?_cons_zero]; exact rfl) (by kernel_rfl) (by kernel_rfl) (by kernel_rfl) (by intro _ _ _ h; exact h) (Or.inl ⟨by rfl, ?y46⟩) ?_
        case y46 => (intro w _; go_simp; try (with_reducible rfl))
        try simp only [Act.put, List.setIfInBounds_toArray, List.set_cons_zero, List.set_cons_succ]
        refine wpLate_load (i := 6) (v := ?v47) (by simp only [List.getElem?_toArray, List.getElem?_cons_succ, List.getElem?_cons_zero]; exact rfl) (by kernel_rfl) (by kernel_rfl) (by kernel_rfl) (by kernel_rfl) (by intro _ _ _ h; exact h) (Or.inl ⟨by rfl, ?y47⟩) hHeld ?_
        case y47 => (intro w hSw; (try dsimp only at hSw); go_simp; try (with_reducible rfl))
        try simp only [Act.put, List.setIfInBounds_toArray, List.set_cons_zero, List.set_cons_succ]
        refine wpLate_take (i := 7) (v := ?v48) (by simp only [List.getElem?_toArray, List.getElem?_cons_succ, List.getElem?_cons_zero]; exact rfl) (by kernel_rfl) (by kernel_rfl) (by kernel_rfl) (by intro _ _ _ h; exact h) (Or.inl ⟨by rfl, ?y48⟩) ?_
        case y48 => (intro w _; go_simp; try (with_reducible rfl))
        try simp only [Act.put, List.setIfInBounds_toArray, List.set_cons_zero, List.set_cons_succ]
        refine wpLate_one (i := 8) (by kernel_rfl) (by simp only [List.getElem?_toArray, List.getElem?_cons_succ, List.getElem?_cons_zero]; exact rfl) (by kernel_rfl) (fun K hK => ?_)
        go_simp
        refine (one_any _ _ (by omega) (by omega)).mono ?_
        rintro e w' ⟨rfl, rfl⟩
        try dsimp only
        refine hK.out _ _ ?h49 (fun hHeld => ?_)
        case h49 => first | exact ⟨‹_›, ‹_›⟩ | (simp [*, go_sem])
        clear hK K
        try simp only [Act.put, List.setIfInBounds_toArray, List.set_cons_zero, List.set_cons_succ]
        refine wpLate_take (i := 9) (v := ?v50) (by simp only [List.getElem?_toArray, List.getElem?_cons_succ, List.getElem?_cons_zero]; exact rfl) (by kernel_rfl) (by kernel_rfl) (by kernel_rfl) (by intro _ _ _ h; exact h) (Or.inl ⟨by rfl, ?y50⟩) ?_
        case y50 => (intro w _; go_simp; try (with_reducible rfl))
        try simp only [Act.put, List.setIfInBounds_toArray, List.set_cons_zero, List.set_cons_succ]
        refine wpLate_take (i := 10) (v := ?v51) (by simp only [List.getElem?_toArray, List.getElem?_cons_succ, List.getElem?_cons_zero]; exact rfl) (by kernel_rfl) (by kernel_rfl) (by kernel_rfl) (by intro _ _ _ h; exact h) (Or.inl ⟨by rfl, ?y51⟩) ?_
        case y51 => (intro w _; go_simp; try (with_reducible rfl))
        try simp only [Act.put, List.setIfInBounds_toArray, List.set_cons_zero, List.set_cons_succ]
        refine wpLate_late (i := 11) (by kernel_rfl) (by simp only [List.getElem?_toArray, List.getElem?_cons_succ, List.getElem?_cons_zero]; exact rfl) (by kernel_rfl) (fun K hK => ?_)
        go_simp
        skip
        try dsimp only
        refine hK.out _ _ ?_
        clear hK K
        try simp only [Act.put, List.setIfInBounds_toArray, List.set_cons_zero, List.set_cons_succ]
        refine wpLate_done (by kernel_rfl) ?_ _
        have hkw := hki.tr ((Keeps.dr (fun b => b = tb) hdw).tr (Keeps.st (F := fun b => b = tb) (w := wd) (a := ⟨tb, i, none⟩) rfl (.int .u32 ((st ||| bit word.length : Nat) : Int))))
        have hrw := HPUT.out wd (HRi.out.keep (by rw [hdw.heap]))
        generalize wd.setCell ⟨tb, i, none⟩ (.int .u32 ((st ||| bit word.length : Nat) : Int)) = w2 at *
        have hih := HIH.out w2 (HM.out.keeps hkw) hrw
        clear hHeld b1 hfz
        go_wp2_with fail
        refine hih.mono ?_
        rintro e w3 ⟨rfl, hk3, hr3⟩
        have HEYi : RowKit.Hid (extB H H.length m (word ++ [i + 1]) = true → extB H H.length m word = true) := Lib.hid (fun h => HEY.out ⟨i + 1, by omega, h⟩)
        have HEi2 : RowKit.Hid (extB H H.length m (word ++ [i + 1]) = false → ∀ k, k < i + 1 + 1 → extB H H.length m (word ++ [k]) = false) := Lib.hid (fun h k hk => by
          by_cases e : k = i + 1
          · subst e; exact h
          · exact HEi.out k (by omega))
        have HR3 := Lib.hid hr3
        have hkx := hkw.tr hk3
        clear hih hr3 hrw
        generalize extB H H.length m (word ++ [i + 1]) = x1 at *
        cases x1 with
        | true =>
          have hz := HEYi.out rfl
          go_wp2
          go_ret
          exact ⟨ret_bool hz.symm, hkx, fun h => by rw [hz] at h; cases h⟩
        | false =>
          have HR4 := Lib.hid (HR3.out rfl)
          have HE4 := Lib.hid (HEi2.out rfl)
          clear HEYi HR3 HEi2
          have hM3 := HM.out.keeps hkx
          have hc5 := hM3.c4
          obtain ⟨f1, f2⟩ := HR4.out i hlt
          have hr5 := HBACK.out w3 HR4.out
          have HR5 := Lib.hid hr5
          have hk5 := hkx.tr (Keeps.st (F := fun b => b = tb) (w := w3) (a := ⟨tb, i, none⟩) rfl (.int .u32 (st : Int)))
          clear hr5
          go_wp2
          go_roundw
          case rel => exact ⟨i + 1, by omega, by go_num, HE4, HR5, hk5⟩
          case measure => simp [intOf]; omega
theorem elMB : Elem Tryd.prog 125 4 1 1 (.bool false) := ⟨Tryd.underlying125, by kernel_rfl, rfl, by omega, by omega⟩
theorem Own.othB {w w' : World} {B B' : Nat} {E E' : TypeId} {s s' : Nat} {v u : Value} {n n' : Nat} {xs xs' : List Value} (h : Own w B E s v n xs) (h' : Own w B' E' s' u n' xs') (hE : E ≠ E') (hk : KeptBut w w' u.ownBlock) : Own w' B E s v n xs :=
  h.kept hk fun b hb => own_typeS h h' hE b hb
theorem Own.othS {w : World} {B B' : Nat} {E E' : TypeId} {s s' : Nat} {v x : Value} {n n' : Nat} {xs xs' : List Value} {k j : Nat} (h : Own w B E s v n xs) (h' : Own w B' E' s' (.slice (some ⟨k, 0, none⟩) 1 1) n' xs') (hE : E ≠ E') : Own (w.setCell ⟨k, j, none⟩ x) B E s v n xs :=
  h.keep fun b hb => Below.heap_setCell _ _ _ _ (fun e => own_typeS h h' hE b hb (by simp [Value.ownBlock]; exact e.symm))
theorem allS_any (a : Option Addr) (n c : Nat) (w : World) (hn : n ≤ 16) : Calls Tryd.prog 69 #[.slice a n c] w fun e w' => e = .returned (.int .u32 ((2 ^ n - 1 : Nat) : Int)) ∧ w = w' := allOf_any a n c w hn
noncomputable def conB (H : List Nat) (s : Nat) : Bool := decide (s ≠ 0 ∧ (partsN H s).length = 1)
theorem conW_any {S : Nat → Prop} {nv : Value} {a : List Nat} {s : Nat} {w : World} (ht : Tab w) (hn : SlI S w .u32 nv (natsI a)) (ha16 : a.length ≤ 16) (hal : ∀ m ∈ a, m < 4294967296) (hs : s < 2 ^ a.length) :
    Calls Tryd.prog 82 #[nv, .int .u32 (s : Int)] w fun e w' => e = .returned (.bool (conB a s)) ∧ Below w.heap.size w w' := by
  by_cases h0 : s = 0
  · subst h0
    go_enter Tryd.func82, Tryd.ntmps82
    go_wp2
    go_ret
    exact ⟨by simp [conB], Below.refl _ _⟩
  · refine (connected_any ht hn ha16 hal hs h0).mono ?_
    rintro e w' ⟨rfl, hb⟩
    refine ⟨?_, hb⟩
    unfold conB
    congr 2
    by_cases h1 : (partsN a s).length = 1
    · rw [decide_eq_true h1, decide_eq_true ⟨h0, h1⟩]
    · rw [decide_eq_false h1, decide_eq_false (fun h => h1 h.2)]
noncomputable def whoL (H : List Nat) (s : Nat) : List Value := (List.range s).map fun s => .bool (conB H s)
noncomputable def neaL (H : List Nat) (s : Nat) : List Value := (List.range s).map fun s => .int .u32 (orN H (bitsN s) : Int)
theorem whoL_snoc (H : List Nat) (s : Nat) : whoL H s ++ [.bool (conB H s)] = whoL H (s + 1) := by simp [whoL, List.range_succ]
theorem neaL_snoc (H : List Nat) (s : Nat) : neaL H s ++ [.int .u32 (orN H (bitsN s) : Int)] = neaL H (s + 1) := by simp [neaL, List.range_succ]
theorem whoL_len (H : List Nat) (s : Nat) : (whoL H s).length = s := by simp [whoL]
theorem neaL_len (H : List Nat) (s : Nat) : (neaL H s).length = s := by simp [neaL]
set_option maxRecDepth 100000 in
set_option maxHeartbeats 8000000 in
theorem minorIn_any {S S2 : Nat → Prop} {hv pv : Value} {H P : List Nat} {w : World} (ht : Tab w) (hh : SlI S w .u32 hv (natsI H)) (hp : SlI S2 w .u32 pv (natsI P)) (hn1 : 1 ≤ H.length) (hn : H.length ≤ 8) (hm1 : 1 ≤ P.length) (hm : P.length ≤ 5) (hH : ∀ x ∈ H, x < 2 ^ H.length)
    (hP : ∀ i (h : i < P.length), P[i] < 4294967296 ∧ ∀ k, k < P.length → k ≠ i → P[i].testBit k = true) :
    Calls Tryd.prog 62 #[hv, pv] w fun e w' => ∃ u, e = .returned u ∧ (extB H H.length P.length [] = true → ∃ tb tc, u = .slice (some ⟨tb, 0, none⟩) P.length tc) ∧ (extB H H.length P.length [] = false → u = .slice none 0 0) ∧ Below w.heap.size w w' := by
  have hp8 : (2 : Nat) ^ H.length ≤ 256 := Nat.pow_le_pow_right (n := 2) (by omega) hn
  have hp1 := Nat.two_pow_pos H.length
  obtain ⟨pb, po, pc, hpe, hpcc⟩ := hp.at_
  have hpe := hpe (by rw [natsI_len]; omega)
  rw [natsI_len] at hpe
  obtain ⟨hb, ho, hc, hhe, hhc⟩ := hh.at_
  have hhe := hhe (by rw [natsI_len]; omega)
  rw [natsI_len] at hhe
  have hh0 := hh
  subst hpe
  subst hhe
  have hpw : ∀ i, i < P.length → ∃ x : Nat, w.cell? ⟨pb, po + i, none⟩ = some (.int .u32 (x : Int)) ∧ x < 4294967296 ∧ ∀ k, k < P.length → k ≠ i → x.testBit k = true := fun i hi => by
    have h1 := hpcc i (by rw [natsI_len]; exact hi)
    rw [natsI_get] at h1
    exact ⟨P[i], h1, (hP i hi).1, (hP i hi).2⟩
  have HPW := Lib.hid hpw
  have HHC := Lib.hid hhc
  have HH := Lib.hid hH
  have HOL := Lib.hid (fun l => orN_lt (l := l) hH)
  have HNE : RowKit.Hid (H.length < P.length → extB H H.length P.length [] = false) := Lib.hid (fun h => extB_no (no_ext (by rw [emptyN_nil]; simpa using h)))
  clear hpw hpcc hhc hP hp hh hH
  generalize P.length = m at *
  by_cases hgt : H.length < m
  · have hz := HNE.out hgt
    clear hn
    go_enter Tryd.func62, Tryd.ntmps62
    go_wp2
    go_ret
    exact ⟨_, rfl, fun h => (by rw [hz] at h; cases h), fun _ => rfl, Below.refl _ _⟩
  have hmk := run_make_row' (P := Tryd.prog) 72 82 (.int .u32 0) 4 elVs.ht elVs.hi rfl .i64 .i64 m (by omega) (by omega)
  have hq1 : Below w.heap.size w (w.alloc (.cells (madeCells #[Value.int .u32 0] m) 82)) := (Below.refl _ _).alloc (Nat.le_refl _) _
  have hs1 := Own.made w w.heap.size 82 (.int .u32 0) m (Nat.le_refl _) (by omega)
  have hq2 := hq1.alloc (by simp) (.cells #[.slice (some ⟨hb, ho, none⟩) H.length hc, .slice (some ⟨pb, po, none⟩) m pc, .slice none 0 0, .slice none 0 0, .slice (some ⟨w.heap.size, 0, none⟩) m m] 141)
  have hs2 := hs1.alloc (.cells #[.slice (some ⟨hb, ho, none⟩) H.length hc, .slice (some ⟨pb, po, none⟩) m pc, .slice none 0 0, .slice none 0 0, .slice (some ⟨w.heap.size, 0, none⟩) m m] 141)
  have hx2 := World.ownsRow_lit (base := w.heap.size) (e := 141) (size := 5) (w.alloc (.cells (madeCells #[Value.int .u32 0] m) 82)) #[.slice (some ⟨hb, ho, none⟩) H.length hc, .slice (some ⟨pb, po, none⟩) m pc, .slice none 0 0, .slice none 0 0, .slice (some ⟨w.heap.size, 0, none⟩) m m] 1 (by simp) (by unfold maxLen; omega) rfl
  have hx2 : Own ((w.alloc (.cells (madeCells #[Value.int .u32 0] m) 82)).alloc (.cells #[.slice (some ⟨hb, ho, none⟩) H.length hc, .slice (some ⟨pb, po, none⟩) m pc, .slice none 0 0, .slice none 0 0, .slice (some ⟨w.heap.size, 0, none⟩) m m] 141)) w.heap.size 141 5 (.slice (some ⟨w.heap.size + 1, 0, none⟩) 1 1) 1 [.slice (some ⟨hb, ho, none⟩) H.length hc, .slice (some ⟨pb, po, none⟩) m pc, .slice none 0 0, .slice none 0 0, .slice (some ⟨w.heap.size, 0, none⟩) m m] := by simpa [Own] using hx2
  have ht0 := ht
  go_enter Tryd.func62, Tryd.ntmps62
  go_wp2
  generalize (w.alloc (.cells (madeCells #[Value.int .u32 0] m) 82)).alloc (.cells #[.slice (some ⟨hb, ho, none⟩) H.length hc, .slice (some ⟨pb, po, none⟩) m pc, .slice none 0 0, .slice none 0 0, .slice (some ⟨w.heap.size, 0, none⟩) m m] 141) = w2 at *
  have hall := fun W : World => allOf_any (some ⟨hb, ho, none⟩) H.length hc W (by omega)
  have hA : firstN H.length + 1 = 2 ^ H.length := by unfold firstN; omega
  generalize firstN H.length = A at *
  obtain ⟨N, hN⟩ : ∃ N, 2 ^ H.length = N := ⟨_, rfl⟩
  have HNN := Lib.hid hN
  rw [hN] at hp8 hp1 HOL hA
  clear hN
  clear hmk hq1 hs1
  go_loopw [6] (fun sv wr => ∃ (s : Nat) (wv nv : Value), s ≤ N ∧ sv = .int .u32 (s : Int) ∧ Own wr w.heap.size 141 5 (.slice (some ⟨w.heap.size + 1, 0, none⟩) 1 1) 1 [.slice (some ⟨hb, ho, none⟩) H.length hc, .slice (some ⟨pb, po, none⟩) m pc, wv, nv, .slice (some ⟨w.heap.size, 0, none⟩) m m] ∧
    Own wr w.heap.size 4 1 wv s (whoL H s) ∧ Own wr w.heap.size 82 1 nv s (neaL H s) ∧ Own wr w.heap.size 82 1 (.slice (some ⟨w.heap.size, 0, none⟩) m m) m (List.replicate m (Value.int .u32 0)) ∧ (∀ b, nv.ownBlock = some b → b ≠ w.heap.size) ∧ Below w.heap.size w wr) (fun sv _ => N - (intOf sv).toNat)
  case atStart => exact ⟨0, .slice none 0 0, .slice none 0 0, Nat.zero_le _, rfl, hx2, Own.nil _ _ _ _, Own.nil _ _ _ _, hs2, (fun b h => by simp [Value.ownBlock] at h), hq2⟩
  case round =>
    clear hx2 hs2 hq2
    obtain ⟨s, wv, nv, hs, rfl, hx, hwv, hnv, hsv, hnt, hq⟩ := hrel
    have hqs := hq.size
    by_cases hlt : s < N
    case neg =>
      obtain rfl : s = N := by omega
      obtain ⟨c0, c1, c2, c3, c4, hfz, hsB, hsl⟩ := row5 hx
      obtain ⟨wb, wc, rfl⟩ := own_some hwv (by omega)
      obtain ⟨nb2, nc, rfl⟩ := own_some hnv (by omega)
      have hrw := Row.ofOwn hwv (f := fun t => .bool (conB H t)) (fun i hi => by simp [whoL])
      have hrn := Row.ofOwn hnv (f := fun t => .int .u32 (orN H (bitsN t) : Int)) (fun i hi => by simp [neaL])
      have hrs := Row.ofOwn hsv (f := fun i => .int .u32 (setW [] i : Int)) (fun i hi => by simp [setW, maskN])
      have hpbl : pb ≠ w.heap.size := by
        obtain ⟨x, h1, -, -⟩ := HPW.out 0 (by omega)
        have := cell_lt h1
        simp at this
        omega
      have hM : MinS H m wr (w.heap.size + 1) w.heap.size m pb po pc wb 0 wc nb2 0 nc (some ⟨hb, ho, none⟩) hc :=
        ⟨c0, c1, by rw [HNN.out]; exact c2, by rw [HNN.out]; exact c3, c4, fun i hi => by
          obtain ⟨x, h1, h2, h3⟩ := HPW.out i hi
          exact ⟨x, (hq.cell (cell_lt h1)).trans h1, h2, h3⟩, fun t ht => by
          rw [HNN.out] at ht
          rw [Nat.zero_add]
          exact (hrw t ht).1, fun t ht => by
          rw [HNN.out] at ht
          rw [Nat.zero_add]
          exact (hrn t ht).1, by omega, hpbl, fun e => own_typeS hwv hsv (by decide) wb (by simp [Value.ownBlock]) (by simp [Value.ownBlock, e]), hnt nb2 (by simp [Value.ownBlock])⟩
      have hgr := mgrow_any hn hm HH.out H.length [] wr (by simp) hM hrs
      rw [emptyN_nil] at hgr
      have hgr2 : Calls Tryd.prog 133 #[.pointer (some ⟨w.heap.size + 1, 0, none⟩), .int .i64 0, .int .i64 (m : Int)] wr fun e w' => e = .returned (.bool (extB H H.length m [])) ∧ Keeps (fun b => b = w.heap.size) wr w' := hgr.mono fun e w' h => ⟨h.1, h.2.1⟩
      clear hgr hM hrw hrn hrs hwv hnv hsv HNE HOL HHC HPW hnt
      obtain ⟨xb, hxb⟩ : ∃ xb, xb = extB H H.length m [] := ⟨_, rfl⟩
      rw [← hxb] at hgr2
      have HXB := Lib.hid hxb
      clear hxb
      go_wp2_with fail
      refine (hall _).mono ?_
      rintro e w' ⟨rfl, rfl⟩
      go_wp2_with fail
      refine hgr2.mono ?_
      rintro e w9 ⟨rfl, hk9⟩
      have hq9 := hk9.below hq hqs (fun b hb => by omega)
      have d4 := hk9.at_ c4 (by simp)
      cases xb with
      | false =>
        go_wp2
        go_ret
        exact ⟨_, rfl, fun h => (by rw [← HXB.out] at h; cases h), fun _ => rfl, hq9⟩
      | true =>
        go_wp2
        go_ret
        exact ⟨_, rfl, fun _ => ⟨_, _, rfl⟩, fun h => (by rw [← HXB.out] at h; cases h), hq9⟩
    have hs32 : s < 4294967296 := by omega
    have hli := list_any s wr (ht.below hq (Nat.le_refl _)) hs32
    have hbl := bitsI_lenN s
    have hsn : s < 2 ^ H.length := by rw [HNN.out]; exact hlt
    have HSN := Lib.hid (fun y (hy : y ∈ bitsN s) => bit_lt_of hsn ((mem_bitsN hs32).1 hy))
    have hcn := fun (W : World) (hb : Below w.heap.size w W) => conW_any (ht.below hb (Nat.le_refl _)) (hh0.below hb (Nat.le_refl _)) (by omega) (fun x hx => by have := HH.out x hx; rw [HNN.out] at this; omega) hsn
    have HCN := Lib.hid hcn
    have hb32 := bitsN_len s
    clear hcn
    go_wp2_with fail
    refine (hall _).mono ?_
    rintro e w' ⟨rfl, rfl⟩
    go_wp2_with fail
    refine hli.mono ?_
    rintro e w3 ⟨lv, rfl, hlv, hb3⟩
    have hli2 := Own.ints (xs := bitsI s) hlv (by have := bitsI_len s; omega)
    obtain ⟨la, lc, rfl⟩ := hlv.isSlice
    obtain ⟨lb, lo, lcap, hle, hlc⟩ := hli2.at_
    rw [hbl] at hle ⊢
    have HLC := Lib.hid hlc
    have HBL := Lib.hid hbl
    have hx3 := hx.below hb3 (Nat.le_refl _)
    have hwv3 := hwv.below hb3 (Nat.le_refl _)
    have hnv3 := hnv.below hb3 (Nat.le_refl _)
    have hsv3 := hsv.below hb3 (Nat.le_refl _)
    have hq3 := hq.trans (hb3.mono hqs)
    have hq3s := hq3.size
    clear hli hlv hli2 hlc hbl hx hwv hnv hsv
    have HW := Lib.hid (whoL_snoc H s)
    have HNL := Lib.hid (neaL_snoc H s)
    generalize conB H s = cb at *
    generalize hR : bitsN s = R at *
    have HR := Lib.hid hR.symm
    clear hR
    go_wp2
    go_loopw [7, 31] (fun ov iv wr => ∃ j : Nat, j ≤ R.length ∧ iv = .int .i64 j ∧ ov = .int .u32 (orN H (R.take j) : Int) ∧ wr = w3) (fun _ iv _ => R.length - (intOf iv).toNat)
    case atStart => exact ⟨0, Nat.zero_le _, rfl, rfl, rfl⟩
    case round =>
      obtain ⟨j, hj, rfl, rfl, rfl⟩ := hrel
      by_cases hjl : j < R.length
      case pos =>
        have hyn := HSN.out _ (List.getElem_mem hjl)
        have d1 : wr.cell? ⟨lb, lo + j, none⟩ = some (.int .i64 (R[j] : Int)) := by
          have h1 := HLC.out j (by rw [HBL.out]; exact hjl)
          rw [bitsI_get] at h1
          rw [h1]
          simp only [HR.out]
        have d2 : wr.cell? ⟨hb, ho + R[j], none⟩ = some (.int .u32 ((H.getD R[j] 0 : Nat) : Int)) := by
          have h1 := HHC.out R[j] (by rw [natsI_len]; exact hyn)
          rw [natsI_get] at h1
          rw [hq3.cell (cell_lt h1), h1]
          simp [hyn]
        have hle2 := hle (by omega)
        simp only [Value.slice.injEq] at hle2
        obtain ⟨rfl, -, rfl⟩ := hle2
        have htk : orN H (R.take (j + 1)) = orN H (R.take j) ||| H.getD R[j] 0 := by rw [List.take_succ_eq_append_getElem hjl, orN_snoc]
        have ho1 := HOL.out (R.take j)
        have ho2 : H.getD R[j] 0 < 4294967296 := by
          have := getD_ltN HH.out R[j]; rw [HNN.out] at this; omega
        have hor2 := u32_or_nat (orN H (R.take j)) (H.getD R[j] 0) (by omega) ho2
        rw [← htk] at hor2
        have HO2 := Lib.hid hor2
        clear htk
        generalize R[j] = y at *
        generalize H.getD y 0 = my at *
        go_wp2
        go_roundw
        case rel => exact ⟨j + 1, by omega, by go_num, by first | rfl | exact congrArg (Value.int .u32) HO2.out, by trivial⟩
        case measure => simp [intOf]; omega
      obtain rfl : j = R.length := by omega
      have htk : R.take R.length = R := List.take_length
      rw [htk]
      have ho1 := HOL.out R
      generalize orN H R = o at *
      obtain ⟨c0, c1, c2, c3, c4, hfz, hsB, hsl⟩ := row5 hx3
      clear htk hle hb3 c0 c1 c4 hfz HLC HBL
      go_wp2_with (at_builtin; refine wpList_append1 elVs rfl _ _ rfl hnv3 rfl rfl rfl (by omega) hq3s ?_; intro nv4 w4 hnv4 hk4 hmv4; have hx4 := hx3.othB hnv3 (by decide) hk4; obtain ⟨d0, d1, d2, d3, d4, hfz4, -, hsl4⟩ := row5 hx4; have hz3 := hfz4 3; obtain ⟨nva, nvc, rfl⟩ := hnv4.isSlice)
      have hx5 := hx4.stored 3 (.slice nva (s + 1) nvc)
      simp only [List.set_cons_succ, List.set_cons_zero] at hx5
      have hwv4 := hwv3.othB hnv3 (by decide) hk4
      have hsv4 : Own w4 w.heap.size 82 1 (.slice (some ⟨w.heap.size, 0, none⟩) m m) m (List.replicate m (Value.int .u32 0)) := hsv3.kept hk4 (fun b h => by
        have hb : w.heap.size = b := by simpa [Value.ownBlock] using h
        intro hn
        exact hnt b hn hb.symm)
      have hwv5 := hwv4.othS (j := 3) (x := .slice nva (s + 1) nvc) hx4 (by decide)
      have hsv5 := hsv4.othS (j := 3) (x := .slice nva (s + 1) nvc) hx4 (by decide)
      have hnv5 := hnv4.othS (j := 3) (x := .slice nva (s + 1) nvc) hx4 (by decide)
      have hq4 := hk4.below hq3 hq3s hnv3.ge
      have hq5 := hq4.setCell (p := ⟨w.heap.size + 1, 3, none⟩) (by simp) (.slice nva (s + 1) nvc)
      have hnt4 : ∀ b, (Value.slice nva (s + 1) nvc).ownBlock = some b → b ≠ w.heap.size := fun b h => by
        rcases hmv4 with h2 | h2
        · exact hnt b (by rw [← h2]; exact h)
        · rw [h] at h2
          simp at h2
          omega
      rw [HNL.out] at hnv5
      clear hx4 hwv4 hsv4 hnv4 hq4 hk4 hmv4 hnt d0 d1 d2 d3 d4 hfz4 hz3 hx3 hwv3 hsv3 hnv3 hq3 c2 c3
      generalize w4.setCell ⟨w.heap.size + 1, 3, none⟩ (.slice nva (s + 1) nvc) = w5 at *
      obtain ⟨c0, c1, c2, c3, c4, hfz, -, hsl5⟩ := row5 hx5
      clear c0 c1 c3 c4 hfz
      have hq5s := hq5.size
      go_wp2
      refine wp_region_late (S := (fun w' => w'.cell? ⟨w.heap.size + 1, 2, none⟩ = some wv)) (late := [12]) (by kernel_rfl) ?_ (fun hHeld => ?_)
      · first | assumption | (simp [*, go_sem])
      have hdw : Drawn w5 w5.drew := (Drawn.refl _).drew
      generalize w5.drew = wd at hdw hHeld ⊢
      have hq6 := hq5.trans (hdw.below _)
      refine wpLate_take (i := 0) (v := ?v53) (by simp only [List.getElem?_toArray, List.getElem?_cons_zero]; exact rfl) (by kernel_rfl) (by kernel_rfl) (by kernel_rfl) (by intro _ _ _ h; exact h) (Or.inl ⟨by rfl, ?y53⟩) ?_
      case y53 => (intro w _; go_simp; try (with_reducible rfl))
      try simp only [Act.put, List.setIfInBounds_toArray, List.set_cons_zero, List.set_cons_succ]
      refine wpLate_take (i := 1) (v := ?v54) (by simp only [List.getElem?_toArray, List.getElem?_cons_succ, List.getElem?_cons_zero]; exact rfl) (by kernel_rfl) (by kernel_rfl) (by kernel_rfl) (by intro _ _ _ h; exact h) (Or.inl ⟨by rfl, ?y54⟩) ?_
      case y54 => (intro w _; go_simp; try (with_reducible rfl))
      try simp only [Act.put, List.setIfInBounds_toArray, List.set_cons_zero, List.set_cons_succ]
      refine wpLate_take (i := 2) (v := ?v55) (by simp only [List.getElem?_toArray, List.getElem?_cons_succ, List.getElem?_cons_zero]; exact rfl) (by kernel_rfl) (by kernel_rfl) (by kernel_rfl) (by intro _ _ _ h; exact h) (Or.inl ⟨by rfl, ?y55⟩) ?_
      case y55 => (intro w _; go_simp; try (with_reducible rfl))
      try simp only [Act.put, List.setIfInBounds_toArray, List.set_cons_zero, List.set_cons_succ]
      refine wpLate_take (i := 3) (v := ?v56) (by simp only [List.getElem?_toArray, List.getElem?_cons_succ, List.getElem?_cons_zero]; exact rfl) (by kernel_rfl) (by kernel_rfl) (by kernel_rfl) (by intro _ _ _ h; exact h) (Or.inl ⟨by rfl, ?y56⟩) ?_
      case y56 => (intro w _; go_simp; try (with_reducible rfl))
      try simp only [Act.put, List.setIfInBounds_toArray, List.set_cons_zero, List.set_cons_succ]
      refine wpLate_load (i := 4) (v := ?v57) (by simp only [List.getElem?_toArray, List.getElem?_cons_succ, List.getElem?_cons_zero]; exact rfl) (by kernel_rfl) (by kernel_rfl) (by kernel_rfl) (by kernel_rfl) (by intro _ _ _ h; exact h) (Or.inl ⟨by rfl, ?y57⟩) hHeld ?_
      case y57 => (intro w hSw; (try dsimp only at hSw); go_simp; try (with_reducible rfl))
      try simp only [Act.put, List.setIfInBounds_toArray, List.set_cons_zero, List.set_cons_succ]
      refine wpLate_take (i := 5) (v := ?v58) (by simp only [List.getElem?_toArray, List.getElem?_cons_succ, List.getElem?_cons_zero]; exact rfl) (by kernel_rfl) (by kernel_rfl) (by kernel_rfl) (by intro _ _ _ h; exact h) (Or.inl ⟨by rfl, ?y58⟩) ?_
      case y58 => (intro w _; go_simp; try (with_reducible rfl))
      try simp only [Act.put, List.setIfInBounds_toArray, List.set_cons_zero, List.set_cons_succ]
      refine wpLate_take (i := 6) (v := ?v59) (by simp only [List.getElem?_toArray, List.getElem?_cons_succ, List.getElem?_cons_zero]; exact rfl) (by kernel_rfl) (by kernel_rfl) (by kernel_rfl) (by intro _ _ _ h; exact h) (Or.inl ⟨by rfl, ?y59⟩) ?_
      case y59 => (intro w _; go_simp; try (with_reducible rfl))
      try simp only [Act.put, List.setIfInBounds_toArray, List.set_cons_zero, List.set_cons_succ]
      refine wpLate_one (i := 7) (by kernel_rfl) (by simp only [List.getElem?_toArray, List.getElem?_cons_succ, List.getElem?_cons_zero]; exact rfl) (by kernel_rfl) (fun K hK => ?_)
      go_simp
      refine (HCN.out _ hq6).mono ?_
      rintro e w6 ⟨rfl, hb6⟩
      have hq7 := hq6.trans (hb6.mono hq6.size)
      have hwv6 := (hwv5.drawn hdw).below hb6 (Nat.le_refl _)
      have hx6 := (hx5.drawn hdw).below hb6 (Nat.le_refl _)
      have hsv6 := (hsv5.drawn hdw).below hb6 (Nat.le_refl _)
      have hnv6 := (hnv5.drawn hdw).below hb6 (Nat.le_refl _)
      have p1 := (hb6.cell (cell_lt hHeld)).trans hHeld
      try dsimp only
      refine hK.out _ _ ?h60 (fun hHeld => ?_)
      case h60 => first | assumption | (simp [*, go_sem])
      clear hK K
      try simp only [Act.put, List.setIfInBounds_toArray, List.set_cons_zero, List.set_cons_succ]
      refine wpLate_one (i := 8) (by kernel_rfl) (by simp only [List.getElem?_toArray, List.getElem?_cons_succ, List.getElem?_cons_zero]; exact rfl) (by kernel_rfl) (fun K hK => ?_)
      go_simp
      have hbb : Below w6.heap.size w6 (w6.alloc (.cells #[.bool cb] 4)) := (Below.refl _ _).alloc (Nat.le_refl _) _
      have p1b := (hbb.cell (cell_lt p1)).trans p1
      try dsimp only
      refine hK.out _ _ ?h61 (fun hHeld => ?_)
      case h61 => first | assumption | (simp [*, go_sem])
      clear hK K
      try simp only [Act.put, List.setIfInBounds_toArray, List.set_cons_zero, List.set_cons_succ]
      refine wpLate_one (i := 9) (by kernel_rfl) (by simp only [List.getElem?_toArray, List.getElem?_cons_succ, List.getElem?_cons_zero]; exact rfl) (by kernel_rfl) (fun K hK => ?_)
      rw [if_pos (by rfl)]
      refine opWp_append1 elMB _ _ rfl hwv6 rfl rfl rfl rfl (by omega) (by have := hq7.size; omega) ?_
      intro wv7 w7 hwv7 hk7 hmv7
      have hx7 := hx6.othB hwv6 (by decide) hk7
      obtain ⟨r0, r1, r2, r3, r4, hfz7, -, hsl7⟩ := row5 hx7
      have hz2 := hfz7 2
      obtain ⟨wva, wvc, rfl⟩ := hwv7.isSlice
      try dsimp only
      refine hK.out _ _ ?h62 (fun hHeld => ?_)
      case h62 => first | assumption | (simp [*, go_sem])
      clear hK K
      try simp only [Act.put, List.setIfInBounds_toArray, List.set_cons_zero, List.set_cons_succ]
      refine wpLate_take (i := 10) (v := ?v63) (by simp only [List.getElem?_toArray, List.getElem?_cons_succ, List.getElem?_cons_zero]; exact rfl) (by kernel_rfl) (by kernel_rfl) (by kernel_rfl) (by intro _ _ _ h; exact h) (Or.inl ⟨by rfl, ?y63⟩) ?_
      case y63 => (intro w _; go_simp; try (with_reducible rfl))
      try simp only [Act.put, List.setIfInBounds_toArray, List.set_cons_zero, List.set_cons_succ]
      refine wpLate_take (i := 11) (v := ?v64) (by simp only [List.getElem?_toArray, List.getElem?_cons_succ, List.getElem?_cons_zero]; exact rfl) (by kernel_rfl) (by kernel_rfl) (by kernel_rfl) (by intro _ _ _ h; exact h) (Or.inl ⟨by rfl, ?y64⟩) ?_
      case y64 => (intro w _; go_simp; try (with_reducible rfl))
      try simp only [Act.put, List.setIfInBounds_toArray, List.set_cons_zero, List.set_cons_succ]
      refine wpLate_late (i := 12) (by kernel_rfl) (by simp only [List.getElem?_toArray, List.getElem?_cons_succ, List.getElem?_cons_zero]; exact rfl) (by kernel_rfl) (fun K hK => ?_)
      go_simp
      skip
      try dsimp only
      refine hK.out _ _ ?_
      clear hK K
      try simp only [Act.put, List.setIfInBounds_toArray, List.set_cons_zero, List.set_cons_succ]
      refine wpLate_done (by kernel_rfl) ?_ _
      have hx8 := hx7.stored 2 (.slice wva (s + 1) wvc)
      simp only [List.set_cons_succ, List.set_cons_zero] at hx8
      have hq8 := (hk7.below hq7 hq7.size hwv6.ge).setCell (p := ⟨w.heap.size + 1, 2, none⟩) (by simp) (.slice wva (s + 1) wvc)
      have hwv8 := hwv7.othS (j := 2) (x := .slice wva (s + 1) wvc) hx7 (by decide)
      have hsv8 := (hsv6.othB hwv6 (by decide) hk7).othS (j := 2) (x := .slice wva (s + 1) wvc) hx7 (by decide)
      have hnv8 := (hnv6.othB hwv6 (by decide) hk7).othS (j := 2) (x := .slice wva (s + 1) wvc) hx7 (by decide)
      rw [HW.out] at hwv8
      have hws : IntKind.u32.wrap ((s : Int) + 1) = ((s + 1 : Nat) : Int) := by rw [IntWalk.u32_in _ (by omega)]; omega
      clear hx7 hk7 hz2 hfz7 r0 r1 r2 r3 r4 hHeld p1 p1b
      go_wp2
      go_roundw
      case rel => exact ⟨s + 1, _, _, by omega, by go_num, hx8, hwv8, hnv8, hsv8, hnt4, hq8⟩
      case measure => simp [intOf]; omega
noncomputable def fullTo (H : List Nat) : Nat → Nat
  | 0 => 1
  | 1 => 1
  | m + 2 => if extB H H.length (m + 2) [] = true then m + 2 else fullTo H (m + 1)
noncomputable def fullI (g : List (List Int)) : Nat := if gokB g = true ∧ g.length ≤ 8 then fullTo (netsL g) 5 else 0
theorem full_bit {k i x : Nat} (hi : i < k) (hk : k ≤ 16) : ((complN (List.replicate k 0)).getD i 0).testBit x = true ↔ x < k ∧ x ≠ i := by
  have hg : (complN (List.replicate k 0)).getD i 0 = andN (andN (firstN k) 0) (bit i) := by
    unfold complN
    simp [hi]
  have hf := firstN_lt hk
  rw [hg, testBit_andN (Nat.lt_of_le_of_lt (andN_le _ _) (by omega)) (bit_lt (by omega)), testBit_andN (by omega) (by omega), testBit_firstN, testBit_bit]
  simp
  intro _
  exact ⟨fun h e => h e.symm, fun h e => h e.symm⟩
theorem full_facts {k : Nat} (hk : k ≤ 16) : ∀ i (h : i < (complN (List.replicate k 0)).length), (complN (List.replicate k 0))[i] < 4294967296 ∧ ∀ x, x < (complN (List.replicate k 0)).length → x ≠ i → ((complN (List.replicate k 0))[i]).testBit x = true := fun i h => by
  refine ⟨complN_lt (by simpa using hk) _ (List.getElem_mem h), fun x hx hne => ?_⟩
  rw [complN_len, List.length_replicate] at h hx
  have := (full_bit (x := x) h hk).2 ⟨hx, hne⟩
  rw [List.getD_eq_getElem?_getD, List.getElem?_eq_getElem (by rw [complN_len, List.length_replicate]; exact h)] at this
  simpa using this
theorem full_case {H : List Nat} {k : Nat} (hk : 2 ≤ k) : (extB H H.length k [] = true ∧ fullTo H k = k) ∨ (extB H H.length k [] = false ∧ fullTo H k = fullTo H (k - 1)) := by
  obtain ⟨m, rfl⟩ : ∃ m, k = m + 2 := ⟨k - 2, by omega⟩
  rw [fullTo]
  cases h : extB H H.length (m + 2) []
  · exact .inr ⟨rfl, by rw [if_neg (by simp)]; rfl⟩
  · exact .inl ⟨rfl, by rw [if_pos rfl]⟩
theorem uSplit {u : Value} {b : Bool} {k : Nat} (h1 : b = true → ∃ tb tc, u = .slice (some ⟨tb, 0, none⟩) k tc) (h2 : b = false → u = .slice none 0 0) : ∃ ub ul uc, u = .slice ub ul uc ∧ (!ub.isNone) = b := by
  cases b
  · exact ⟨_, _, _, h2 rfl, rfl⟩
  · obtain ⟨tb, tc, rfl⟩ := h1 rfl
    exact ⟨_, _, _, rfl, rfl⟩
theorem neqVs : ∀ (w : World) (a : Option Addr) (l c : Nat), (binOp .neq 72 (.slice a l c) (.slice none 0 0)).run Tryd.prog w = .ok (.bool (!a.isNone)) w := fun w a l c => run_neq_slice_nil w _ _ a l c Tryd.underlying72
set_option maxRecDepth 100000 in
set_option maxHeartbeats 8000000 in
theorem implFullMinor_any {S : Nat → Prop} {v : Value} {g : List (List Int)} {w : World} (ht : Tab w) (hv : SlR S w v g) :
    Calls Tryd.prog 16 #[.agg #[v]] w fun e w' => e = .returned (.int .i64 (fullI g : Int)) ∧ Below w.heap.size w w' := by
  obtain ⟨va, vc, rfl⟩ := hv.slice
  have hb0 : Below w.heap.size w (w.alloc (.cells #[.slice va g.length vc] 27)) := (Below.refl _ _).alloc (Nat.le_refl _) _
  have hgo := implGraphOk_any _ _ _ (hv.below hb0 (Nat.le_refl _))
  by_cases hgb : gokB g = true
  case neg =>
    have HE := Lib.hid (show fullI g = 0 by rw [fullI, if_neg (fun h => hgb h.1)])
    rw [Bool.not_eq_true] at hgb
    rw [hgb] at hgo
    clear hgb
    rw [HE.out]
    go_enter Tryd.func16, Tryd.ntmps16
    go_wp2_with fail
    refine hgo.mono ?_
    rintro e w1 ⟨rfl, hb1⟩
    go_wp2
    go_ret
    exact ⟨rfl, hb0.trans (hb1.mono hb0.size)⟩
  have hg := gokB_iff.1 hgb
  have c0 : (w.alloc (.cells #[.slice va g.length vc] 27)).cell? ⟨w.heap.size, 0, none⟩ = some (.slice va g.length vc) := by simp [go_sem]
  rw [hgb] at hgo
  by_cases h8 : g.length ≤ 8
  case neg =>
    have HE := Lib.hid (show fullI g = 0 by rw [fullI, if_neg (fun h => h8 h.2)])
    have hd : decide ((8 : Int) < (g.length : Int)) = true := decide_eq_true (by omega)
    clear hgb
    rw [HE.out]
    go_enter Tryd.func16, Tryd.ntmps16
    go_wp2_with fail
    refine hgo.mono ?_
    rintro e w1 ⟨rfl, hb1⟩
    have c1 := (hb1.cell (cell_lt c0)).trans c0
    go_wp2
    go_ret
    exact ⟨rfl, hb0.trans (hb1.mono hb0.size)⟩
  have HE := Lib.hid (show fullI g = fullTo (netsL g) 5 by rw [fullI, if_pos ⟨hgb, h8⟩])
  have HW := Lib.hid (WideI.of hg).lt
  have HG := Lib.hid hg
  have hlen := netsL_len g
  have hg1 := hg.lo
  have hd : decide ((8 : Int) < (g.length : Int)) = false := decide_eq_false (by omega)
  clear hgb
  rw [HE.out]
  go_enter Tryd.func16, Tryd.ntmps16
  go_wp2_with fail
  refine hgo.mono ?_
  rintro e w1 ⟨rfl, hb1⟩
  have c1 := (hb1.cell (cell_lt c0)).trans c0
  have hq1 := hb0.trans (hb1.mono hb0.size)
  clear hgo c0 hb0 hb1
  go_wp2
  go_loopw [3] (fun nv wr => ∃ k : Nat, 1 ≤ k ∧ k ≤ 5 ∧ nv = .int .i64 k ∧ RowKit.Hid (fullTo (netsL g) 5 = fullTo (netsL g) k) ∧ wr.cell? ⟨w.heap.size, 0, none⟩ = some (.slice va g.length vc) ∧ Below w.heap.size w wr) (fun nv _ => (intOf nv).toNat)
  case atStart => exact ⟨5, by omega, Nat.le_refl _, rfl, Lib.hid rfl, c1, hq1⟩
  case round =>
    clear c1 hq1
    obtain ⟨k, hk1, hk5, rfl, HK, hc, hq⟩ := hrel
    by_cases hk : k = 1
    · subst hk
      go_wp2
      go_ret
      exact ⟨ret_int (by rw [HK.out]; rfl), hq⟩
    have hmk := run_make_row' (P := Tryd.prog) 74 82 (.int .u32 0) 4 elNets.ht elNets.hi rfl .i64 .i64 k (by omega) (by omega)
    have hnq := neqVs
    have hkd : decide ((1 : Int) < (k : Int)) = true := decide_eq_true (by omega)
    go_wp2
    refine wp_region_held_drew (S := (fun w' => w'.cell? ⟨w.heap.size, 0, none⟩ = some (.slice va g.length vc))) (by kernel_rfl) ?_ (fun hHeld => ?_)
    · first | assumption | exact (hbn.cell (cell_lt hHeld)).trans hHeld | exact (hbc.cell (cell_lt hHeld)).trans hHeld | exact (hbm.cell (cell_lt hHeld)).trans hHeld | exact (((Below.refl _ _).alloc (Nat.le_refl _) _).cell (cell_lt hHeld)).trans hHeld | (simp [*, go_sem])
    have hdw : Drawn wr wr.drew := (Drawn.refl _).drew
    have hqc := hq.trans (hdw.below _)
    generalize wr.drew = wd at hdw hqc hHeld ⊢
    refine wpAnyH_take (i := 0) (v := ?v66) (by simp only [List.getElem?_toArray, List.getElem?_cons_zero]; exact rfl) (by kernel_rfl) (by kernel_rfl) (by kernel_rfl) (by intro _ _ _ h; exact h) (Or.inl ⟨by rfl, ?y66⟩) hHeld ?_
    case y66 => (intro w hSw; (try dsimp only at hSw); go_simp; try (with_reducible rfl))
    try simp only [Act.put, List.setIfInBounds_toArray, List.set_cons_zero, List.set_cons_succ]
    refine wpAnyH_take (i := 2) (v := ?v67) (by simp only [List.getElem?_toArray, List.getElem?_cons_succ, List.getElem?_cons_zero]; exact rfl) (by kernel_rfl) (by kernel_rfl) (by kernel_rfl) (by intro _ _ _ h; exact h) (Or.inl ⟨by rfl, ?y67⟩) hHeld ?_
    case y67 => (intro w hSw; (try dsimp only at hSw); go_simp; try (with_reducible rfl))
    try simp only [Act.put, List.setIfInBounds_toArray, List.set_cons_zero, List.set_cons_succ]
    refine wpAnyH_ready (rs := [1, 3]) (by kernel_rfl) (by simp) ?_
    refine (AllReadyH.cons (by simp only [List.getElem?_toArray, List.getElem?_cons_succ, List.getElem?_cons_zero]; exact rfl) (fun K hK => ?b68_1) (AllReadyH.cons (by simp only [List.getElem?_toArray, List.getElem?_cons_succ, List.getElem?_cons_zero]; exact rfl) (fun K hK => ?b68_3) AllReadyH.nil))
    case b68_1 =>
      go_simp
      refine (netsOf_any _ _ _ (hv.below hqc (Nat.le_refl _)) HG.out).mono ?_
      rintro e wn ⟨na, rfl, hna, hbn⟩
      have hqn := hqc.trans (hbn.mono hqc.size)
      clear hqc
      have hqc := hqn
      try have hmd := hmd.below hbn (Nat.le_refl _)
      try dsimp only
      refine hK.out _ _ ?h69 (fun hHeld => ?_)
      case h69 => first | assumption | exact (hbn.cell (cell_lt hHeld)).trans hHeld | exact (hbc.cell (cell_lt hHeld)).trans hHeld | exact (hbm.cell (cell_lt hHeld)).trans hHeld | exact (((Below.refl _ _).alloc (Nat.le_refl _) _).cell (cell_lt hHeld)).trans hHeld | (simp [*, go_sem])
      clear hK K
      try simp only [Act.put, List.setIfInBounds_toArray, List.set_cons_zero, List.set_cons_succ]
      refine wpAnyH_ready (rs := [3]) (by kernel_rfl) (by simp) ?_
      refine AllReadyH.cons (by simp only [List.getElem?_toArray, List.getElem?_cons_succ, List.getElem?_cons_zero]; exact rfl) (fun K hK => ?_) AllReadyH.nil
      go_simp
      have hqm := hqc.alloc hqc.size (.cells (madeCells #[Value.int .u32 0] k) 82)
      have hmd := Own.made _ w.heap.size 82 (.int .u32 0) k hqc.size (by omega)
      clear hqc
      have hqc := hqm
      try have hna := hna.alloc (.cells (madeCells #[Value.int .u32 0] k) 82)
      try dsimp only
      refine hK.out _ _ ?h71 (fun hHeld => ?_)
      case h71 => first | assumption | exact (hbn.cell (cell_lt hHeld)).trans hHeld | exact (hbc.cell (cell_lt hHeld)).trans hHeld | exact (hbm.cell (cell_lt hHeld)).trans hHeld | exact (((Below.refl _ _).alloc (Nat.le_refl _) _).cell (cell_lt hHeld)).trans hHeld | (simp [*, go_sem])
      clear hK K
      try simp only [Act.put, List.setIfInBounds_toArray, List.set_cons_zero, List.set_cons_succ]
      refine wpAnyH_ready (rs := [4]) (by kernel_rfl) (by simp) ?_
      refine AllReadyH.cons (by simp only [List.getElem?_toArray, List.getElem?_cons_succ, List.getElem?_cons_zero]; exact rfl) (fun K hK => ?_) AllReadyH.nil
      go_simp
      have hmi := Own.ints (xs := natsI (List.replicate k 0)) (k := .u32) (n := k) (by simpa [natsI] using hmd) (by omega)
      refine (complement_any (a := List.replicate k 0) hmi (by simp; omega) (by simp)).mono ?_
      rintro e wc ⟨cv, rfl, hcv, hbc⟩
      have hqn2 := hqc.trans (hbc.mono hqc.size)
      have hna2 := hna.below hbc (Nat.le_refl _)
      clear hqc
      have hqc := hqn2
      have hmm := minorIn_any (P := complN (List.replicate k 0)) (ht.below hqc (Nat.le_refl _)) (hna2.ints (by have := HG.out.hi; omega)) (hcv.ints (by simp [natsI_len, complN_len]; omega)) (by omega) (by omega) (by simp [complN_len]; omega) (by simp [complN_len]; omega) (by rw [hlen]; exact HW.out) (full_facts (by omega))
      try dsimp only
      refine hK.out _ _ ?h73 (fun hHeld => ?_)
      case h73 => first | assumption | exact (hbn.cell (cell_lt hHeld)).trans hHeld | exact (hbc.cell (cell_lt hHeld)).trans hHeld | exact (hbm.cell (cell_lt hHeld)).trans hHeld | exact (((Below.refl _ _).alloc (Nat.le_refl _) _).cell (cell_lt hHeld)).trans hHeld | (simp [*, go_sem])
      clear hK K
      try simp only [Act.put, List.setIfInBounds_toArray, List.set_cons_zero, List.set_cons_succ]
      refine wpAnyH_ready (rs := [5]) (by kernel_rfl) (by simp) ?_
      refine AllReadyH.cons (by simp only [List.getElem?_toArray, List.getElem?_cons_succ, List.getElem?_cons_zero]; exact rfl) (fun K hK => ?_) AllReadyH.nil
      go_simp
      refine hmm.mono ?_
      rintro e wm ⟨u, rfl, hu1, hu2, hbm⟩
      have hqn3 := hqc.trans (hbm.mono hqc.size)
      rw [complN_len, List.length_replicate] at hu1 hu2
      obtain ⟨ub, ul, uc, rfl, hub⟩ : ∃ ub ul uc, u = .slice ub ul uc ∧ (!ub.isNone) = extB (netsL g) (netsL g).length k [] := uSplit hu1 hu2
      try dsimp only
      refine hK.out _ _ ?h75 (fun hHeld => ?_)
      case h75 => first | assumption | exact (hbn.cell (cell_lt hHeld)).trans hHeld | exact (hbc.cell (cell_lt hHeld)).trans hHeld | exact (hbm.cell (cell_lt hHeld)).trans hHeld | exact (((Below.refl _ _).alloc (Nat.le_refl _) _).cell (cell_lt hHeld)).trans hHeld | (simp [*, go_sem])
      clear hK K
      try simp only [Act.put, List.setIfInBounds_toArray, List.set_cons_zero, List.set_cons_succ]
      refine wpAnyH_take (i := 6) (v := ?v76) (by simp only [List.getElem?_toArray, List.getElem?_cons_succ, List.getElem?_cons_zero]; exact rfl) (by kernel_rfl) (by kernel_rfl) (by kernel_rfl) (by intro _ _ _ h; exact h) (Or.inl ⟨by rfl, ?y76⟩) hHeld ?_
      case y76 => (intro w hSw; (try dsimp only at hSw); go_simp; try (with_reducible rfl))
      try simp only [Act.put, List.setIfInBounds_toArray, List.set_cons_zero, List.set_cons_succ]
      refine wpAnyH_done (by kernel_rfl) ?_ _
      have hsp := full_case (H := netsL g) (k := k) (by omega)
      have hwk : IntKind.i64.wrap ((k : Int) - 1) = ((k - 1 : Nat) : Int) := (by rw [IntWalk.i64_in _ (by omega)]; omega)
      rw [hlen] at hsp
      have hqz := hqn3
      have hcz := hHeld
      clear hu1 hu2 hub hmm hmk hmd hmi hna hna2 hcv hnq hHeld
      rcases hsp with ⟨hx, hr⟩ | ⟨hx, hr⟩
      · (have HR := Lib.hid hr); clear hr; simp only [hx]; go_wp2; go_ret; exact ⟨ret_int (by rw [HK.out, HR.out]), hqz⟩
      · (have HR := Lib.hid (HK.out.trans hr)); clear hr; simp only [hx]; go_wp2; exact ⟨⟨k - 1, by omega, by omega, rfl, HR, hcz, hqz⟩, by simp only [intOf, Int.toNat_natCast]; omega⟩
    case b68_3 =>
      go_simp
      have hqm := hqc.alloc hqc.size (.cells (madeCells #[Value.int .u32 0] k) 82)
      have hmd := Own.made _ w.heap.size 82 (.int .u32 0) k hqc.size (by omega)
      clear hqc
      have hqc := hqm
      try have hna := hna.alloc (.cells (madeCells #[Value.int .u32 0] k) 82)
      try dsimp only
      refine hK.out _ _ ?h77 (fun hHeld => ?_)
      case h77 => first | assumption | exact (hbn.cell (cell_lt hHeld)).trans hHeld | exact (hbc.cell (cell_lt hHeld)).trans hHeld | exact (hbm.cell (cell_lt hHeld)).trans hHeld | exact (((Below.refl _ _).alloc (Nat.le_refl _) _).cell (cell_lt hHeld)).trans hHeld | (simp [*, go_sem])
      clear hK K
      try simp only [Act.put, List.setIfInBounds_toArray, List.set_cons_zero, List.set_cons_succ]
      refine wpAnyH_ready (rs := [1]) (by kernel_rfl) (by simp) ?_
      refine AllReadyH.cons (by simp only [List.getElem?_toArray, List.getElem?_cons_succ, List.getElem?_cons_zero]; exact rfl) (fun K hK => ?_) AllReadyH.nil
      go_simp
      refine (netsOf_any _ _ _ (hv.below hqc (Nat.le_refl _)) HG.out).mono ?_
      rintro e wn ⟨na, rfl, hna, hbn⟩
      have hqn := hqc.trans (hbn.mono hqc.size)
      clear hqc
      have hqc := hqn
      try have hmd := hmd.below hbn (Nat.le_refl _)
      try dsimp only
      refine hK.out _ _ ?h79 (fun hHeld => ?_)
      case h79 => first | assumption | exact (hbn.cell (cell_lt hHeld)).trans hHeld | exact (hbc.cell (cell_lt hHeld)).trans hHeld | exact (hbm.cell (cell_lt hHeld)).trans hHeld | exact (((Below.refl _ _).alloc (Nat.le_refl _) _).cell (cell_lt hHeld)).trans hHeld | (simp [*, go_sem])
      clear hK K
      try simp only [Act.put, List.setIfInBounds_toArray, List.set_cons_zero, List.set_cons_succ]
      refine wpAnyH_ready (rs := [4]) (by kernel_rfl) (by simp) ?_
      refine AllReadyH.cons (by simp only [List.getElem?_toArray, List.getElem?_cons_succ, List.getElem?_cons_zero]; exact rfl) (fun K hK => ?_) AllReadyH.nil
      go_simp
      have hmi := Own.ints (xs := natsI (List.replicate k 0)) (k := .u32) (n := k) (by simpa [natsI] using hmd) (by omega)
      refine (complement_any (a := List.replicate k 0) hmi (by simp; omega) (by simp)).mono ?_
      rintro e wc ⟨cv, rfl, hcv, hbc⟩
      have hqn2 := hqc.trans (hbc.mono hqc.size)
      have hna2 := hna.below hbc (Nat.le_refl _)
      clear hqc
      have hqc := hqn2
      have hmm := minorIn_any (P := complN (List.replicate k 0)) (ht.below hqc (Nat.le_refl _)) (hna2.ints (by have := HG.out.hi; omega)) (hcv.ints (by simp [natsI_len, complN_len]; omega)) (by omega) (by omega) (by simp [complN_len]; omega) (by simp [complN_len]; omega) (by rw [hlen]; exact HW.out) (full_facts (by omega))
      try dsimp only
      refine hK.out _ _ ?h81 (fun hHeld => ?_)
      case h81 => first | assumption | exact (hbn.cell (cell_lt hHeld)).trans hHeld | exact (hbc.cell (cell_lt hHeld)).trans hHeld | exact (hbm.cell (cell_lt hHeld)).trans hHeld | exact (((Below.refl _ _).alloc (Nat.le_refl _) _).cell (cell_lt hHeld)).trans hHeld | (simp [*, go_sem])
      clear hK K
      try simp only [Act.put, List.setIfInBounds_toArray, List.set_cons_zero, List.set_cons_succ]
      refine wpAnyH_ready (rs := [5]) (by kernel_rfl) (by simp) ?_
      refine AllReadyH.cons (by simp only [List.getElem?_toArray, List.getElem?_cons_succ, List.getElem?_cons_zero]; exact rfl) (fun K hK => ?_) AllReadyH.nil
      go_simp
      refine hmm.mono ?_
      rintro e wm ⟨u, rfl, hu1, hu2, hbm⟩
      have hqn3 := hqc.trans (hbm.mono hqc.size)
      rw [complN_len, List.length_replicate] at hu1 hu2
      obtain ⟨ub, ul, uc, rfl, hub⟩ : ∃ ub ul uc, u = .slice ub ul uc ∧ (!ub.isNone) = extB (netsL g) (netsL g).length k [] := uSplit hu1 hu2
      try dsimp only
      refine hK.out _ _ ?h83 (fun hHeld => ?_)
      case h83 => first | assumption | exact (hbn.cell (cell_lt hHeld)).trans hHeld | exact (hbc.cell (cell_lt hHeld)).trans hHeld | exact (hbm.cell (cell_lt hHeld)).trans hHeld | exact (((Below.refl _ _).alloc (Nat.le_refl _) _).cell (cell_lt hHeld)).trans hHeld | (simp [*, go_sem])
      clear hK K
      try simp only [Act.put, List.setIfInBounds_toArray, List.set_cons_zero, List.set_cons_succ]
      refine wpAnyH_take (i := 6) (v := ?v84) (by simp only [List.getElem?_toArray, List.getElem?_cons_succ, List.getElem?_cons_zero]; exact rfl) (by kernel_rfl) (by kernel_rfl) (by kernel_rfl) (by intro _ _ _ h; exact h) (Or.inl ⟨by rfl, ?y84⟩) hHeld ?_
      case y84 => (intro w hSw; (try dsimp only at hSw); go_simp; try (with_reducible rfl))
      try simp only [Act.put, List.setIfInBounds_toArray, List.set_cons_zero, List.set_cons_succ]
      refine wpAnyH_done (by kernel_rfl) ?_ _
      have hsp := full_case (H := netsL g) (k := k) (by omega)
      have hwk : IntKind.i64.wrap ((k : Int) - 1) = ((k - 1 : Nat) : Int) := (by rw [IntWalk.i64_in _ (by omega)]; omega)
      rw [hlen] at hsp
      have hqz := hqn3
      have hcz := hHeld
      clear hu1 hu2 hub hmm hmk hmd hmi hna hna2 hcv hnq hHeld
      rcases hsp with ⟨hx, hr⟩ | ⟨hx, hr⟩
      · (have HR := Lib.hid hr); clear hr; simp only [hx]; go_wp2; go_ret; exact ⟨ret_int (by rw [HK.out, HR.out]), hqz⟩
      · (have HR := Lib.hid (HK.out.trans hr)); clear hr; simp only [hx]; go_wp2; exact ⟨⟨k - 1, by omega, by omega, rfl, HR, hcz, hqz⟩, by simp only [intOf, Int.toNat_natCast]; omega⟩
end Go.Proofs.YtgkkgagnoeedaaaDoor
