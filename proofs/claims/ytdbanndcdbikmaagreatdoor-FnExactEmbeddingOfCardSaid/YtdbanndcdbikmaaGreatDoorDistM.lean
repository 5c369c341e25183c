/- Distances inside a set: layers and a queue say the same; plain facts. -/
import Derived.Test.YtdbanndcdbikmaaGreatDoorMod3
namespace Go.Proofs.YtdbanndcdbikmaaGreatDoor
open Go.RowKit

theorem sorted_ext : ∀ {l1 l2 : List Int}, l1.Pairwise (· < ·) → l2.Pairwise (· < ·) → (∀ x, x ∈ l1 ↔ x ∈ l2) → l1 = l2
  | [], [], _, _, _ => rfl
  | [], b :: l2, _, _, h => by have := (h b).2 (by simp); simp at this
  | a :: l1, [], _, _, h => by have := (h a).1 (by simp); simp at this
  | a :: l1, b :: l2, h1, h2, h => by
    rw [List.pairwise_cons] at h1 h2
    have e : a = b := by
      have ha := (h a).1 (by simp)
      have hb := (h b).2 (by simp)
      simp only [List.mem_cons] at ha hb
      rcases ha with ha | ha
      · exact ha
      · rcases hb with hb | hb
        · exact hb.symm
        · have x1 := h1.1 b hb; have x2 := h2.1 a ha; omega
    subst e
    congr 1
    refine sorted_ext h1.2 h2.2 fun x => ?_
    have hx := h x
    simp only [List.mem_cons] at hx
    constructor
    · intro hm
      rcases hx.1 (.inr hm) with e | hm'
      · have := h1.1 x hm; omega
      · exact hm'
    · intro hm
      rcases hx.2 (.inr hm) with e | hm'
      · have := h2.1 x hm; omega
      · exact hm'
theorem bitsI_sorted (m : Nat) : (bitsI m).Pairwise (· < ·) := by
  unfold bitsI
  rw [List.pairwise_map]
  exact (bitsN_sorted m).imp fun h => by omega
theorem rangeI_sorted (n : Nat) : (rangeI n).Pairwise (· < ·) := by
  unfold rangeI
  rw [List.pairwise_map]
  exact List.pairwise_lt_range.imp fun h => by omega
theorem rise_sorted {s : List Int} {n : Int} (h : Rise s n) : s.Pairwise (· < ·) := by
  rw [List.pairwise_iff_getElem]
  intro i j hi hj hij
  exact (h j hj hj).2.2 i hij
theorem sorted_rise {s : List Int} {n : Int} (h : s.Pairwise (· < ·)) (hs : ∀ x ∈ s, 0 ≤ x ∧ x < n) : Rise s n := by
  intro i hi _
  have := hs s[i] (List.getElem_mem _)
  exact ⟨this.1, by omega, fun j hj => List.pairwise_iff_getElem.1 h j i (by omega) hi hj⟩
theorem maskL_lt32 {l : List Int} (h : ∀ x ∈ l, 0 ≤ x ∧ x < 32) : maskL l < 4294967296 := by
  have := maskL_lt (xs := l) (n := 32) h; simpa using this
theorem bitsI_maskL {l : List Int} (h1 : l.Pairwise (· < ·)) (h2 : ∀ x ∈ l, 0 ≤ x ∧ x < 32) : bitsI (maskL l) = l := by
  refine sorted_ext (bitsI_sorted _) h1 fun x => ?_
  rw [mem_bitsI (maskL_lt32 h2)]
  constructor
  · rintro ⟨h0, hb⟩
    rw [testBit_maskL (fun v hv => (h2 v hv).1)] at hb
    have : ((x.toNat : Nat) : Int) = x := by omega
    rw [this] at hb; simpa using hb
  · intro hx
    have := h2 x hx
    refine ⟨this.1, ?_⟩
    rw [testBit_maskL (fun v hv => (h2 v hv).1)]
    have : ((x.toNat : Nat) : Int) = x := by omega
    rw [this]; simpa using hx
theorem bitsI_nil {m : Nat} (hm : m < 4294967296) : bitsI m = [] ↔ m = 0 := by
  constructor
  · intro h
    by_cases h0 : m = 0
    · exact h0
    · rw [bitsI_step h0 hm] at h; cases h
  · rintro rfl; simp [bitsI, bitsN_zero]
theorem ctz_head {m : Nat} (h0 : m ≠ 0) (hm : m < 4294967296) : (bitsI m).head? = some (Lib.ctz 32 m : Int) := by
  rw [bitsI_step h0 hm]; rfl
theorem nat_ext {a b : Nat} (h : ∀ i, a.testBit i = b.testBit i) : a = b := Nat.eq_of_testBit_eq h
theorem mem_bits_andN {a b : Nat} (ha : a < 4294967296) (hb : b < 4294967296) {x : Int} : x ∈ bitsI (andN a b) ↔ x ∈ bitsI a ∧ ¬ x ∈ bitsI b := by
  rw [mem_bitsI (Nat.lt_of_le_of_lt (andN_le _ _) ha), mem_bitsI ha, mem_bitsI hb, testBit_andN ha hb]
  constructor
  · rintro ⟨h0, h1⟩
    simp only [Bool.and_eq_true, Bool.not_eq_true'] at h1
    exact ⟨⟨h0, h1.1⟩, fun h => by rw [h1.2] at h; cases h.2⟩
  · rintro ⟨⟨h0, h1⟩, h2⟩
    refine ⟨h0, ?_⟩
    have : b.testBit x.toNat = false := by
      by_cases hb : b.testBit x.toNat = true
      · exact absurd ⟨h0, hb⟩ h2
      · simpa using hb
    simp [h1, this]
theorem mem_bits_firstN {n : Nat} (hn : n ≤ 16) {x : Int} : x ∈ bitsI (firstN n) ↔ 0 ≤ x ∧ x < n := by
  rw [mem_bitsI (Nat.lt_trans (firstN_lt hn) (by decide)), testBit_firstN]
  constructor
  · rintro ⟨h0, h1⟩; have : x.toNat < n := by simpa using h1
    omega
  · rintro ⟨h0, h1⟩; exact ⟨h0, by simp; omega⟩

/-! What splits a set: by lists and by words. -/
theorem cntIn_pos {s row : List Int} : 0 < cntIn s row ↔ ∃ x ∈ s, x ∈ row := by
  unfold cntIn
  rw [List.length_pos_iff_exists_mem]
  simp only [List.mem_filter, decide_eq_true_eq]
theorem cntIn_lt {s row : List Int} : cntIn s row < s.length ↔ ∃ x ∈ s, ¬ x ∈ row := by
  unfold cntIn
  constructor
  · intro h
    apply Classical.byContradiction
    intro hno
    have : s.filter (fun x => decide (x ∈ row)) = s := List.filter_eq_self.2 fun x hx => by
      have : x ∈ row := Classical.byContradiction fun hn => hno ⟨x, hx, hn⟩
      simpa using this
    rw [this] at h; omega
  · rintro ⟨x, hx, hn⟩
    exact List.length_filter_lt_length_iff_exists.2 ⟨x, hx, by simpa using hn⟩
theorem and_mask_zero {r s : List Int} (hr : ∀ x ∈ r, 0 ≤ x) (hs : ∀ x ∈ s, 0 ≤ x) : maskL r &&& maskL s ≠ 0 ↔ ∃ x ∈ s, x ∈ r := by
  constructor
  · intro h
    obtain ⟨i, hi⟩ := Nat.exists_testBit_of_ne_zero h
    rw [Nat.testBit_and, testBit_maskL hr, testBit_maskL hs] at hi
    simp only [Bool.and_eq_true, decide_eq_true_eq] at hi
    exact ⟨_, hi.2, hi.1⟩
  · rintro ⟨x, h1, h2⟩ h0
    have : (maskL r &&& maskL s).testBit x.toNat = true := by
      rw [Nat.testBit_and, testBit_maskL hr, testBit_maskL hs]
      have e : ((x.toNat : Nat) : Int) = x := by have := hs x h1; omega
      simp [e, h1, h2]
    rw [h0] at this; simp at this
theorem and_mask_all {r s : List Int} (hr : ∀ x ∈ r, 0 ≤ x) (hs : ∀ x ∈ s, 0 ≤ x) : maskL r &&& maskL s ≠ maskL s ↔ ∃ x ∈ s, ¬ x ∈ r := by
  constructor
  · intro h
    apply Classical.byContradiction
    intro hno
    apply h
    apply nat_ext
    intro i
    rw [Nat.testBit_and, testBit_maskL hr, testBit_maskL hs]
    by_cases hi : (i : Int) ∈ s
    · have : (i : Int) ∈ r := Classical.byContradiction fun hn => hno ⟨_, hi, hn⟩
      simp [hi, this]
    · simp [hi]
  · rintro ⟨x, h1, h2⟩ h0
    have e : ((x.toNat : Nat) : Int) = x := by have := hs x h1; omega
    have h3 : (maskL r &&& maskL s).testBit x.toNat = (maskL s).testBit x.toNat := by rw [h0]
    rw [Nat.testBit_and, testBit_maskL hr, testBit_maskL hs, e] at h3
    simp [h1, h2] at h3
theorem netsL_get {g : List (List Int)} {v : Nat} (hv : v < g.length) : (netsL g).getD v 0 = maskL g[v] := by simp [netsL, hv]
theorem splits_eq {g : List (List Int)} {s : List Int} (hg : GOk g) (hs : Rise s g.length) :
    (bitsI (andN (firstN g.length) (maskL s))).filter (splW (netsL g) (maskL s)) = (rangeI g.length).filter (splitAtB g s) := by
  have hhi := hg.hi
  have hs2 := rise_ge hs
  have hm := maskL_lt32 (l := s) (fun x hx => by have := hs2 x hx; omega)
  refine sorted_ext ((bitsI_sorted _).filter _) ((rangeI_sorted _).filter _) fun x => ?_
  simp only [List.mem_filter]
  rw [mem_bits_andN (Nat.lt_trans (firstN_lt hhi) (by decide)) hm, mem_bits_firstN hhi, mem_rangeI, bitsI_maskL (rise_sorted hs) (fun x hx => by have := hs2 x hx; omega)]
  by_cases hx : 0 ≤ x ∧ x < g.length
  · have hxn : x.toNat < g.length := by omega
    have hr : ∀ y ∈ g[x.toNat], 0 ≤ y := fun y hy => (hg.ge hxn y hy).1
    have hs0 : ∀ y ∈ s, 0 ≤ y := fun y hy => (hs2 y hy).1
    have e1 : splW (netsL g) (maskL s) x = splitsB g s x := by
      unfold splW splitsB
      rw [netsL_get hxn]
      have e : g.getD x.toNat [] = g[x.toNat] := by simp [hxn]
      rw [e]
      have d1 : decide (maskL g[x.toNat] &&& maskL s ≠ 0) = decide (0 < cntIn s g[x.toNat]) := by
        rw [decide_eq_decide, and_mask_zero hr hs0, cntIn_pos]
      have d2 : decide (maskL g[x.toNat] &&& maskL s ≠ maskL s) = decide (cntIn s g[x.toNat] < s.length) := by
        rw [decide_eq_decide, and_mask_all hr hs0, cntIn_lt]
      rw [d1, d2]
    rw [e1]
    unfold splitAtB
    by_cases hxs : x ∈ s <;> simp [hx, hxs]
  · constructor
    · rintro ⟨⟨h, _⟩, _⟩; exact absurd h hx
    · rintro ⟨h, _⟩; exact absurd h hx
theorem splN_eq {g : List (List Int)} {s : List Int} (hg : GOk g) (hs : Rise s g.length) : splN (netsL g) (firstN g.length) (maskL s) = maskL ((rangeI g.length).filter (splitAtB g s)) := by
  unfold splN; rw [splits_eq hg hs]
theorem splN_zero {g : List (List Int)} {s : List Int} (hg : GOk g) (hs : Rise s g.length) : splN (netsL g) (firstN g.length) (maskL s) = 0 ↔ splitterI g (rangeI g.length) s < 0 := by
  have hhi := hg.hi
  have hin : ∀ x ∈ (rangeI g.length).filter (splitAtB g s), 0 ≤ x ∧ x < 32 := fun x hx => by
    have := mem_rangeI.1 (List.mem_filter.1 hx).1; omega
  have hb := bitsI_maskL ((rangeI_sorted g.length).filter (splitAtB g s)) hin
  rw [splN_eq hg hs, ← bitsI_nil (maskL_lt32 hin), hb]
  unfold splitterI
  rw [← List.head?_filter]
  cases h : (rangeI g.length).filter (splitAtB g s) with
  | nil => simp
  | cons a l =>
    have := hin a (by rw [h]; simp)
    simp; omega
theorem splN_least {g : List (List Int)} {s : List Int} (hg : GOk g) (hs : Rise s g.length) (h0 : splN (netsL g) (firstN g.length) (maskL s) ≠ 0) : (Lib.ctz 32 (splN (netsL g) (firstN g.length) (maskL s)) : Int) = splitterI g (rangeI g.length) s := by
  have hhi := hg.hi
  have hin : ∀ x ∈ (rangeI g.length).filter (splitAtB g s), 0 ≤ x ∧ x < 32 := fun x hx => by
    have := mem_rangeI.1 (List.mem_filter.1 hx).1; omega
  have hb := bitsI_maskL ((rangeI_sorted g.length).filter (splitAtB g s)) hin
  rw [splN_eq hg hs] at h0 ⊢
  have hc := ctz_head h0 (maskL_lt32 hin)
  rw [hb, List.head?_filter] at hc
  unfold splitterI
  rw [hc]
theorem splN_lt {g : List (List Int)} {s : List Int} (hg : GOk g) (hs : Rise s g.length) : splN (netsL g) (firstN g.length) (maskL s) < 4294967296 := by
  have hhi := hg.hi
  rw [splN_eq hg hs]
  exact maskL_lt32 fun x hx => by have := mem_rangeI.1 (List.mem_filter.1 hx).1; omega
theorem netsL_lt {g : List (List Int)} (hg : GOk g) : ∀ x ∈ netsL g, x < 4294967296 := by
  intro x hx
  simp only [netsL, List.mem_map] at hx
  obtain ⟨r, hr, rfl⟩ := hx
  obtain ⟨i, hi, rfl⟩ := List.getElem_of_mem hr
  exact maskL_lt32 (hg.ge32 hi)

theorem netsL_len (g : List (List Int)) : (netsL g).length = g.length := by simp [netsL]
theorem nodup_lenA {α : Type} [DecidableEq α] : ∀ {l E : List α}, l.Nodup → (∀ x ∈ l, x ∈ E) → l.length ≤ E.length
  | [], _, _, _ => Nat.zero_le _
  | x :: l, E, hn, hs => by
    obtain ⟨h1, h2⟩ := List.nodup_cons.1 hn
    have hx := hs x (by simp)
    have := nodup_lenA (l := l) (E := E.erase x) h2 (fun y hy => by
      rw [List.mem_erase_of_ne (fun e => h1 (by rw [← e]; exact hy))]
      exact hs y (by simp [hy]))
    rw [List.length_erase_of_mem hx] at this
    have := List.length_pos_of_mem hx
    simp; omega
/-- One vertex's turn: the row's vertices, each once, the first one first. -/
structure TurnOk (row t : List Int) : Prop where
  len : t.length = row.length
  first : 0 < t.length → t.getD 0 0 = row.getD 0 0
  all : ∀ k, k < t.length → t.getD k 0 ∈ row ∧ t.getD k 0 ∉ t.take k
structure AroundP (g r : List (List Int)) : Prop where
  gok : GOk g
  len : r.length = g.length
  turn : ∀ v, v < g.length → TurnOk (g.getD v []) (r.getD v [])
open Classical in
noncomputable def aroundB (g r : List (List Int)) : Bool := decide (AroundP g r)
theorem around_true {g r : List (List Int)} (h : AroundP g r) : aroundB g r = true := by simp [aroundB, h]
theorem around_false {g r : List (List Int)} (h : ¬ AroundP g r) : aroundB g r = false := by simp [aroundB, h]
theorem around_iff {g r : List (List Int)} : aroundB g r = true ↔ AroundP g r := by simp [aroundB]
theorem nodup_takeA {xs : List Int} : xs.Nodup ↔ ∀ i, i < xs.length → xs.getD i 0 ∉ xs.take i := by
  rw [List.Nodup, List.pairwise_iff_getElem]
  have e : ∀ i (h : i < xs.length), xs.getD i 0 = xs[i] := fun i h => by simp [h]
  constructor
  · intro h i hi hm
    rw [e i hi] at hm
    obtain ⟨j, hj, e⟩ := List.getElem_of_mem hm
    rw [List.length_take] at hj
    rw [List.getElem_take] at e
    exact h j i (by omega) hi (by omega) e
  · intro h i j hi hj hij e2
    refine h j hj ?_
    rw [e j hj, ← e2]
    exact List.mem_iff_getElem.2 ⟨i, by rw [List.length_take]; omega, by rw [List.getElem_take]⟩
/-- Strictly rising lists with the same members are the same. -/
theorem sorted_same : ∀ {a b : List Int}, a.Pairwise (· < ·) → b.Pairwise (· < ·) → (∀ x, x ∈ a ↔ x ∈ b) → a = b := fun ha hb h => sorted_ext ha hb h
theorem turn_sorted {row t s : List Int} (hrow : row.Pairwise (· < ·)) (hs : s.Pairwise (· ≤ ·)) (hp : s.Perm t) : s = row ↔ (t.length = row.length ∧ t.Nodup ∧ ∀ x ∈ t, x ∈ row) := by
  have hrn : row.Nodup := hrow.imp fun h => by omega
  constructor
  · rintro rfl
    exact ⟨hp.length_eq.symm, hp.nodup_iff.1 hrn, fun x hx => hp.mem_iff.2 hx⟩
  · rintro ⟨h1, h2, h3⟩
    have hback : ∀ x ∈ row, x ∈ t := fun x hx => Classical.byContradiction fun hn => by
      have := nodup_lenA (l := t) (E := row.erase x) h2 (fun y hy => by
        rw [List.mem_erase_of_ne (fun e => hn (by rw [← e]; exact hy))]
        exact h3 y hy)
      rw [List.length_erase_of_mem hx] at this
      have := List.length_pos_of_mem hx
      omega
    have hsn : s.Nodup := hp.nodup_iff.2 h2
    refine sorted_same ?_ hrow (fun x => ⟨fun hx => h3 x (hp.mem_iff.1 hx), fun hx => hp.mem_iff.2 (hback x hx)⟩)
    exact (List.pairwise_and_iff.2 ⟨hs, hsn⟩).imp fun h => by omega
theorem turn_iff {row t s : List Int} (hrow : row.Pairwise (· < ·)) (hs : s.Pairwise (· ≤ ·)) (hp : s.Perm t) : TurnOk row t ↔ (s = row ∧ (0 < t.length → t.getD 0 0 = row.getD 0 0)) := by
  rw [turn_sorted hrow hs hp]
  have e : ∀ i (h : i < t.length), t.getD i 0 = t[i] := fun i h => by simp [h]
  constructor
  · intro h
    refine ⟨⟨h.len, nodup_takeA.2 fun i hi => (h.all i hi).2, fun x hx => ?_⟩, h.first⟩
    obtain ⟨i, hi, rfl⟩ := List.getElem_of_mem hx
    rw [← e i hi]; exact (h.all i hi).1
  · rintro ⟨⟨h1, h2, h3⟩, h4⟩
    exact ⟨h1, h4, fun k hk => ⟨by rw [e k hk]; exact h3 _ (List.getElem_mem hk), nodup_takeA.1 h2 k hk⟩⟩

/-- A set that nothing outside of it splits. -/
def IsMod (g : List (List Int)) (M : List Int) : Prop := Rise M g.length ∧ ∀ v ∈ rangeI g.length, splitAtB g M v = false
open Classical in
/-- The least module that holds a set. -/
noncomputable def closL (g : List (List Int)) (s : List Int) : List Int := (rangeI g.length).filter fun x => decide (∀ M, IsMod g M → (∀ y ∈ s, y ∈ M) → x ∈ M)
theorem closL_sorted (g : List (List Int)) (s : List Int) : (closL g s).Pairwise (· < ·) := (rangeI_sorted _).filter _
theorem mem_closL {g : List (List Int)} {s : List Int} {x : Int} : x ∈ closL g s ↔ x ∈ rangeI g.length ∧ ∀ M, IsMod g M → (∀ y ∈ s, y ∈ M) → x ∈ M := by
  simp [closL]
theorem splits_mono {g : List (List Int)} {a M : List Int} {v : Int} (h : ∀ x ∈ a, x ∈ M) (hs : splitsB g a v = true) : splitsB g M v = true := by
  simp only [splitsB, Bool.and_eq_true, decide_eq_true_eq, cntIn_pos, cntIn_lt] at hs ⊢
  obtain ⟨⟨x, hx, hx2⟩, ⟨y, hy, hy2⟩⟩ := hs
  exact ⟨⟨x, h x hx, hx2⟩, ⟨y, h y hy, hy2⟩⟩
/-- What is reached from a set so far. -/
structure Reach (g : List (List Int)) (s out : List Int) : Prop where
  rise : Rise out g.length
  sub : ∀ x ∈ s, x ∈ out
  least : ∀ M, IsMod g M → (∀ y ∈ s, y ∈ M) → ∀ x ∈ out, x ∈ M
theorem Reach.start {g : List (List Int)} {s : List Int} (h : Rise s g.length) : Reach g s s := ⟨h, fun _ h => h, fun _ _ h => h⟩
theorem Reach.step {g : List (List Int)} {s out : List Int} (h : Reach g s out) {more : List Int} (hr : Rise more g.length) (hsub : ∀ x ∈ out, x ∈ more)
    (hm : ∀ x ∈ more, x ∈ out ∨ (x ∈ rangeI g.length ∧ splitAtB g out x = true)) : Reach g s more :=
  ⟨hr, fun x hx => hsub x (h.sub x hx), fun M hM hs x hx => by
    rcases hm x hx with h1 | ⟨h1, h2⟩
    · exact h.least M hM hs x h1
    · apply Classical.byContradiction
      intro hn
      have h3 := hM.2 x h1
      simp only [splitAtB, Bool.and_eq_true] at h2
      have h4 := splits_mono (h.least M hM hs) h2.2
      simp [splitAtB, hn, h4] at h3⟩
theorem Reach.done {g : List (List Int)} {s out : List Int} (h : Reach g s out) (hn : ∀ v ∈ rangeI g.length, splitAtB g out v = false) : out = closL g s := by
  refine sorted_ext (rise_sorted h.rise) (closL_sorted g s) fun x => ?_
  rw [mem_closL]
  constructor
  · intro hx
    have := rise_ge h.rise x hx
    exact ⟨mem_rangeI.2 ⟨this.1, by omega⟩, fun M hM hs => h.least M hM hs x hx⟩
  · rintro ⟨_, h2⟩
    exact h2 out ⟨h.rise, hn⟩ h.sub
theorem splitter_neg {g : List (List Int)} {l s : List Int} (hl : ∀ x ∈ l, 0 ≤ x) : splitterI g l s < 0 ↔ ∀ v ∈ l, splitAtB g s v = false := by
  unfold splitterI
  cases h : l.find? (splitAtB g s) with
  | none => simpa using List.find?_eq_none.1 h
  | some v =>
    have hv := List.mem_of_find?_eq_some h
    have h1 := List.find?_some h
    constructor
    · intro h2; have := hl v hv; simp at h2; omega
    · intro h2; rw [h2 v hv] at h1; cases h1
theorem splitter_pos {g : List (List Int)} {l s : List Int} (h : ¬ splitterI g l s < 0) : splitterI g l s ∈ l ∧ splitAtB g s (splitterI g l s) = true := by
  unfold splitterI at h ⊢
  cases hf : l.find? (splitAtB g s) with
  | none => rw [hf] at h; simp at h
  | some v => exact ⟨List.mem_of_find?_eq_some hf, List.find?_some (p := splitAtB g s) hf⟩
/-- With one more, rising. -/
def intoL (l : List Int) (k : Nat) (x : Int) : List Int := l.take k ++ x :: l.drop k
theorem mem_intoL {l : List Int} {k : Nat} {x y : Int} : y ∈ intoL l k x ↔ y = x ∨ y ∈ l := by
  unfold intoL
  have e : y ∈ l ↔ y ∈ l.take k ++ l.drop k := by rw [List.take_append_drop]
  rw [e]
  simp only [List.mem_append, List.mem_cons]
  constructor
  · rintro (h | h | h) <;> simp [h]
  · rintro (h | h | h) <;> simp [h]
theorem intoL_sorted {l : List Int} {k : Nat} {x : Int} (hs : l.Pairwise (· < ·)) (h1 : ∀ y ∈ l.take k, y < x) (h2 : ∀ y ∈ l.drop k, x < y) : (intoL l k x).Pairwise (· < ·) := by
  unfold intoL
  rw [List.pairwise_append]
  rw [← List.take_append_drop k l, List.pairwise_append] at hs
  refine ⟨hs.1, List.pairwise_cons.2 ⟨h2, hs.2.1⟩, fun a ha b hb => ?_⟩
  rcases List.mem_cons.1 hb with rfl | hb
  · exact h1 a ha
  · exact hs.2.2 a ha b hb
theorem intoL_len (l : List Int) (k : Nat) (x : Int) : (intoL l k x).length = l.length + 1 := by
  have : (intoL l k x).length = (l.take k ++ l.drop k).length + 1 := by unfold intoL; simp only [List.length_append, List.length_cons]; omega
  rw [this, List.take_append_drop]

/-- Is a pair in a module that is not all? -/
noncomputable def badB (g : List (List Int)) (u v : Nat) : Bool := decide ((closL g [(u : Int), v]).length < g.length)
noncomputable def primeB (g : List (List Int)) : Bool := gokB g && decide (4 ≤ g.length) && !((List.range g.length).any fun v => (List.range v).any fun u => badB g u v)
theorem closL_lt {g : List (List Int)} (hg : g.length ≤ 16) (s : List Int) : ∀ x ∈ closL g s, 0 ≤ x ∧ x < 32 := fun x hx => by
  have := mem_rangeI.1 (mem_closL.1 hx).1; omega
theorem maskL_range {n : Nat} (hn : n ≤ 16) : maskL (rangeI n) = firstN n := by
  have h32 : ∀ x ∈ rangeI n, 0 ≤ x ∧ x < 32 := fun x hx => by have := mem_rangeI.1 hx; omega
  apply nat_ext
  intro i
  rw [testBit_maskL (fun v hv => (h32 v hv).1), testBit_firstN, decide_eq_decide, mem_rangeI]
  omega
theorem bad_mask {g : List (List Int)} (hg : g.length ≤ 16) (u v : Nat) : badB g u v = decide (maskL (closL g [(u : Int), v]) ≠ firstN g.length) := by
  unfold badB
  rw [decide_eq_decide]
  constructor
  · intro h e
    rw [← maskL_range hg] at e
    have h1 := bitsI_maskL (closL_sorted g [(u : Int), v]) (closL_lt hg _)
    have h2 := bitsI_maskL (rangeI_sorted g.length) (fun x hx => by have := mem_rangeI.1 hx; omega)
    rw [e, h2] at h1
    rw [← h1, rangeI_len] at h; omega
  · intro h
    have hsub : (closL g [(u : Int), v]).Sublist (rangeI g.length) := List.filter_sublist
    have hle := hsub.length_le
    rw [rangeI_len] at hle
    apply Classical.byContradiction
    intro hn
    have e := hsub.eq_of_length (by rw [rangeI_len]; omega)
    rw [e, maskL_range hg] at h; exact h rfl
theorem maskL_or {a b c : List Int} (ha : ∀ x ∈ a, 0 ≤ x) (hb : ∀ x ∈ b, 0 ≤ x) (hc : ∀ x ∈ c, 0 ≤ x) (h : ∀ x, x ∈ c ↔ x ∈ a ∨ x ∈ b) : maskL a ||| maskL b = maskL c := by
  apply nat_ext
  intro i
  rw [Nat.testBit_or, testBit_maskL ha, testBit_maskL hb, testBit_maskL hc]
  have := h i
  by_cases h1 : (i : Int) ∈ a <;> by_cases h2 : (i : Int) ∈ b <;> simp_all
/-- The union of a set and of what splits it. -/
def moreL (g : List (List Int)) (s : List Int) : List Int := (rangeI g.length).filter fun x => decide (x ∈ s) || splitAtB g s x
theorem more_or {g : List (List Int)} {s : List Int} (hg : GOk g) (hs : Rise s g.length) : maskL s ||| splN (netsL g) (firstN g.length) (maskL s) = maskL (moreL g s) := by
  rw [splN_eq hg hs]
  refine maskL_or (fun x hx => (rise_ge hs x hx).1) (fun x hx => ?_) (fun x hx => ?_) fun x => ?_
  · have := mem_rangeI.1 (List.mem_filter.1 hx).1; omega
  · have := mem_rangeI.1 (List.mem_filter.1 hx).1; omega
  · simp only [moreL, List.mem_filter, Bool.or_eq_true, decide_eq_true_eq]
    constructor
    · rintro ⟨h, h1 | h1⟩
      · exact .inl h1
      · exact .inr ⟨h, h1⟩
    · rintro (h | ⟨h, h1⟩)
      · have := rise_ge hs x h
        exact ⟨mem_rangeI.2 ⟨this.1, by omega⟩, .inl h⟩
      · exact ⟨h, .inr h1⟩
theorem Reach.more {g : List (List Int)} {s out : List Int} (h : Reach g s out) : Reach g s (moreL g out) := by
  refine h.step (sorted_rise ((rangeI_sorted _).filter _) fun x hx => ?_) (fun x hx => ?_) (fun x hx => ?_)
  · have := mem_rangeI.1 (List.mem_filter.1 hx).1; omega
  · have := rise_ge h.rise x hx
    simp only [moreL, List.mem_filter, Bool.or_eq_true, decide_eq_true_eq]
    exact ⟨mem_rangeI.2 ⟨this.1, by omega⟩, .inl hx⟩
  · simp only [moreL, List.mem_filter, Bool.or_eq_true, decide_eq_true_eq] at hx
    rcases hx.2 with h1 | h1
    · exact .inl h1
    · exact .inr ⟨hx.1, h1⟩
theorem more_len {g : List (List Int)} {s : List Int} (hs : Rise s g.length) (h : ¬ ∀ v ∈ rangeI g.length, splitAtB g s v = false) : s.length < (moreL g s).length ∧ (moreL g s).length ≤ g.length := by
  have hle : (moreL g s).length ≤ g.length := by have : (moreL g s).length ≤ (rangeI g.length).length := List.length_filter_le _ _; rwa [rangeI_len] at this
  refine ⟨?_, hle⟩
  have hsub : s.Sublist (moreL g s) := by
    have e : (moreL g s).filter (fun x => decide (x ∈ s)) = s := sorted_ext (((rangeI_sorted _).filter _).filter _) (rise_sorted hs) fun x => by
      simp only [moreL, List.mem_filter, decide_eq_true_eq, Bool.or_eq_true]
      constructor
      · exact fun h => h.2
      · intro hx; have := rise_ge hs x hx; exact ⟨⟨mem_rangeI.2 ⟨this.1, by omega⟩, .inl hx⟩, hx⟩
    have := List.filter_sublist (l := moreL g s) (p := fun x => decide (x ∈ s))
    rwa [e] at this
  have h1 := hsub.length_le
  apply Classical.byContradiction
  intro hn
  have e := hsub.eq_of_length (by omega)
  apply h
  intro v hv
  by_cases hb : splitAtB g s v = true
  · have : v ∈ moreL g s := by simp only [moreL, List.mem_filter, Bool.or_eq_true]; exact ⟨hv, .inr hb⟩
    rw [← e] at this
    simp [splitAtB, this]
  · simpa using hb

/-- The set of the vertices of a path. -/
def maskN (p : List Nat) : Nat := p.foldl (fun m a => m ||| bit a) 0
theorem testBit_foldN (p : List Nat) (m i : Nat) : (p.foldl (fun m a => m ||| bit a) m).testBit i = (m.testBit i || decide (i ∈ p)) := by
  induction p generalizing m with
  | nil => simp
  | cons a p ih =>
    rw [List.foldl_cons, ih, Nat.testBit_or, testBit_bit, Bool.or_assoc]
    congr 1
    by_cases h1 : a = i
    · subst h1; simp
    · have : ¬ i = a := fun h => h1 h.symm
      simp [h1, this]
theorem testBit_maskN (p : List Nat) (i : Nat) : (maskN p).testBit i = decide (i ∈ p) := by rw [maskN, testBit_foldN]; simp
theorem maskN_snoc (p : List Nat) (v : Nat) : maskN (p ++ [v]) = maskN p ||| bit v := by simp [maskN]
theorem maskN_lt {p : List Nat} {n : Nat} (h : ∀ a ∈ p, a < n) : maskN p < 2 ^ n := by
  apply Nat.lt_pow_two_of_testBit
  intro i hi
  rw [testBit_maskN]
  have : ¬ i ∈ p := fun h2 => by have := h i h2; omega
  simp [this]
theorem maskN_drop {p : List Nat} {v : Nat} (h : ∀ a ∈ p, a < 32) (hv : v < 32) (hn : ¬ v ∈ p) : andN (maskN (p ++ [v])) (bit v) = maskN p := by
  have h1 : maskN (p ++ [v]) < 4294967296 := by
    have := maskN_lt (p := p ++ [v]) (n := 32) (fun a ha => by
      rcases List.mem_append.1 ha with h2 | h2
      · exact h a h2
      · have : a = v := by simpa using h2
        omega)
    simpa using this
  apply Nat.eq_of_testBit_eq
  intro i
  rw [testBit_andN h1 (bit_lt hv), testBit_maskN, testBit_maskN, testBit_bit]
  by_cases e : v = i
  · subst e; simp [hn]
  · have e2 : ¬ i = v := fun h => e h.symm
    simp [e, e2]
/-- Does a vertex fit behind a path: as the pattern's next vertex? -/
def fitTo (H Q : List Nat) (p : List Nat) (v k : Nat) : Bool := (List.range k).all fun j => (H.getD v 0).testBit (p.getD j 0) == (Q.getD p.length 0).testBit j
def okB (H Q : List Nat) (p : List Nat) (v : Nat) : Bool := !decide (v ∈ p) && fitTo H Q p v p.length
theorem fitTo_succ (H Q p : List Nat) (v k : Nat) : fitTo H Q p v (k + 1) = (fitTo H Q p v k && ((H.getD v 0).testBit (p.getD k 0) == (Q.getD p.length 0).testBit k)) := by
  unfold fitTo; rw [List.range_succ, List.all_append]; simp
variable {σ : Type}
def loopS (f : Nat → σ → σ × Bool) : List Nat → σ → σ × Bool
  | [], s => (s, false)
  | v :: vs, s => if (f v s).2 = true then ((f v s).1, true) else loopS f vs (f v s).1
def srchF (H Q : List Nat) (ef : List Nat → σ → σ × Bool) : Nat → List Nat → σ → σ × Bool
  | 0, p, s => ef p s
  | d + 1, p, s => loopS (fun v s => if okB H Q p v = true then srchF H Q ef d (p ++ [v]) s else (s, false)) (List.range H.length) s
def fitEf (p : List Nat) (_ : Option (List Nat)) : Option (List Nat) × Bool := (some p, true)
theorem loopS_step {f : Nat → σ → σ × Bool} {n k : Nat} {s : σ} (hk : k < n) : loopS f (List.range' k (n - k)) s = if (f k s).2 = true then ((f k s).1, true) else loopS f (List.range' (k + 1) (n - (k + 1))) (f k s).1 := by
  obtain ⟨d, hd⟩ : ∃ d, n - k = d + 1 := ⟨n - k - 1, by omega⟩
  have : n - (k + 1) = d := by omega
  rw [hd, this, List.range'_succ, loopS]
theorem loopS_end {f : Nat → σ → σ × Bool} {n : Nat} {s : σ} : loopS f (List.range' n (n - n)) s = (s, false) := by simp [loopS]
theorem loopS_start {f : Nat → σ → σ × Bool} {n : Nat} {s : σ} : loopS f (List.range n) s = loopS f (List.range' 0 (n - 0)) s := by rw [List.range_eq_range']; simp
/-- A path of different vertices. -/
def GP (n : Nat) (p : List Nat) : Prop := (∀ a ∈ p, a < n) ∧ p.Nodup
theorem GP.snoc {n : Nat} {p : List Nat} {v : Nat} (h : GP n p) (hv : v < n) (hn : ¬ v ∈ p) : GP n (p ++ [v]) := by
  refine ⟨fun a ha => ?_, ?_⟩
  · rcases List.mem_append.1 ha with h1 | h1
    · exact h.1 a h1
    · have : a = v := by simpa using h1
      omega
  · rw [List.nodup_append]
    refine ⟨h.2, by simp, fun a ha b hb => ?_⟩
    have : b = v := by simpa using hb
    subst this
    intro e; subst e; exact hn ha
theorem meet2 {α β : Type} {H G : α → β → Prop} {R : Prop} (rest : ∀ a b, H a b → G a b) (orders : (∀ a b, H a b → G a b) → R) : R := orders rest
theorem meet5 {α β γ δ ε : Type} {H G : α → β → γ → δ → ε → Prop} {R : Prop} (rest : ∀ a b c d e, H a b c d e → G a b c d e) (orders : (∀ a b c d e, H a b c d e → G a b c d e) → R) : R := orders rest
theorem meet4 {α β γ δ : Type} {H G : α → β → γ → δ → Prop} {R : Prop} (rest : ∀ a b c d, H a b c d → G a b c d) (orders : (∀ a b c d, H a b c d → G a b c d) → R) : R := orders rest
theorem meet1 {α : Type} {H G : α → Prop} {R : Prop} (rest : ∀ a, H a → G a) (orders : (∀ a, H a → G a) → R) : R := orders rest
/-- Closed under steps that stay in wi. -/
def ClosedN (a : List Nat) (wi M : Nat) : Prop := ∀ x, M.testBit x = true → ∀ u, wi.testBit u = true → (a.getD x 0).testBit u = true → M.testBit u = true
def InAll (a : List Nat) (wi v x : Nat) : Prop := ∀ M, ClosedN a wi M → M.testBit v = true → M.testBit x = true
open Classical in
/-- What v reaches inside wi. -/
noncomputable def reachN (a : List Nat) (wi v : Nat) : Nat := maskL ((rangeI 32).filter fun x => decide (InAll a wi v x.toNat))
theorem full32 (i : Nat) (h : i < 32) : (4294967295 : Nat).testBit i = true := by
  have : (4294967295 : Nat) = 2 ^ 32 - 1 := by decide
  rw [this, Nat.testBit_two_pow_sub_one]; simpa using h
theorem full32_ge (i : Nat) (h : ¬ i < 32) : (4294967295 : Nat).testBit i = false := by
  have : (4294967295 : Nat) = 2 ^ 32 - 1 := by decide
  rw [this, Nat.testBit_two_pow_sub_one]; simpa using h
theorem bit_lt_of {m n i : Nat} (hm : m < 2 ^ n) (h : m.testBit i = true) : i < n := by
  apply Nat.lt_of_not_le
  intro hn
  rw [Nat.testBit_lt_two_pow (Nat.lt_of_lt_of_le hm (Nat.pow_le_pow_right (by omega) hn))] at h
  cases h
theorem inAll_lt {a : List Nat} {wi v x : Nat} (hw : wi < 4294967296) (hv : v < 32) (h : InAll a wi v x) : x < 32 := by
  have := h 4294967295 (fun x _ u hu _ => full32 u (bit_lt_of (n := 32) hw hu)) (full32 v hv)
  apply Decidable.byContradiction
  intro h2
  rw [full32_ge x h2] at this; cases this
theorem testBit_reachN {a : List Nat} {wi v : Nat} (hw : wi < 4294967296) (hv : v < 32) (i : Nat) : (reachN a wi v).testBit i = true ↔ InAll a wi v i := by
  unfold reachN
  rw [testBit_maskL (fun x hx => (mem_rangeI.1 (List.mem_filter.1 hx).1).1), decide_eq_true_eq, List.mem_filter, mem_rangeI]
  constructor
  · rintro ⟨-, h⟩; simpa using h
  · intro h
    have := inAll_lt hw hv h
    exact ⟨by omega, by simpa using h⟩
theorem reachN_lt (a : List Nat) (wi v : Nat) : reachN a wi v < 4294967296 := maskL_lt32 fun x hx => by have := mem_rangeI.1 (List.mem_filter.1 hx).1; omega
theorem reach_start {a : List Nat} {wi v : Nat} (hw : wi < 4294967296) (hv : v < 32) : (reachN a wi v).testBit v = true := (testBit_reachN hw hv v).2 fun _ _ h => h
theorem reach_closed {a : List Nat} {wi v : Nat} (hw : wi < 4294967296) (hv : v < 32) : ClosedN a wi (reachN a wi v) := fun x hx u hu hb =>
  (testBit_reachN hw hv u).2 fun M hM hMv => hM x ((testBit_reachN hw hv x).1 hx M hM hMv) u hu hb
theorem reach_least {a : List Nat} {wi v M : Nat} (hw : wi < 4294967296) (hv : v < 32) (hM : ClosedN a wi M) (hMv : M.testBit v = true) {i : Nat} (h : (reachN a wi v).testBit i = true) : M.testBit i = true :=
  (testBit_reachN hw hv i).1 h M hM hMv
/-- Reached so far. -/
def ReachI (a : List Nat) (wi v M : Nat) : Prop := M.testBit v = true ∧ ∀ i, M.testBit i = true → (reachN a wi v).testBit i = true
theorem ReachI.start {a : List Nat} {wi v : Nat} (hw : wi < 4294967296) (hv : v < 32) : ReachI a wi v (bit v) :=
  ⟨by rw [testBit_bit]; simp, fun i hi => by rw [testBit_bit] at hi; have : v = i := by simpa using hi
                                             subst this; exact reach_start hw hv⟩
theorem ReachI.done {a : List Nat} {wi v M : Nat} (hw : wi < 4294967296) (hv : v < 32) (h : ReachI a wi v M) (hc : ClosedN a wi M) : M = reachN a wi v := by
  apply nat_ext
  intro i
  rw [Bool.eq_iff_iff]
  exact ⟨h.2 i, fun hi => reach_least hw hv hc h.1 hi⟩
theorem ReachI.step {a : List Nat} {wi v M x u : Nat} (hw : wi < 4294967296) (hv : v < 32) (h : ReachI a wi v M) (hx : M.testBit x = true) (hu : wi.testBit u = true) (hb : (a.getD x 0).testBit u = true) : ReachI a wi v (M ||| bit u) := by
  refine ⟨by rw [Nat.testBit_or, h.1]; rfl, fun i hi => ?_⟩
  rw [Nat.testBit_or, testBit_bit, Bool.or_eq_true] at hi
  rcases hi with hi | hi
  · exact h.2 i hi
  · have : u = i := by simpa using hi
    subst this
    exact reach_closed hw hv x (h.2 x hx) u hu hb
/-- One round of the program's search: all neighbours of the first k. -/
def growN (a : List Nat) (wi : Nat) (l : List Int) (s : Nat) : Nat := l.foldl (fun m u => m ||| (a.getD u.toNat 0 &&& wi)) s
theorem growN_snoc (a : List Nat) (wi : Nat) (l : List Int) (x : Int) (s : Nat) : growN a wi (l ++ [x]) s = growN a wi l s ||| (a.getD x.toNat 0 &&& wi) := by simp [growN]
theorem growN_take {a : List Nat} {wi s k : Nat} {l : List Int} (hk : k < l.length) : growN a wi (l.take (k + 1)) s = growN a wi (l.take k) s ||| (a.getD (l[k]).toNat 0 &&& wi) := by
  rw [List.take_succ_eq_append_getElem hk, growN_snoc]
theorem testBit_growN (a : List Nat) (wi : Nat) : ∀ (l : List Int) (s i : Nat), (growN a wi l s).testBit i = true ↔ s.testBit i = true ∨ ∃ x ∈ l, (a.getD x.toNat 0).testBit i = true ∧ wi.testBit i = true
  | [], s, i => by simp [growN]
  | x :: l, s, i => by
    have := testBit_growN a wi l (s ||| (a.getD x.toNat 0 &&& wi)) i
    rw [show growN a wi (x :: l) s = growN a wi l (s ||| (a.getD x.toNat 0 &&& wi)) from rfl, this, Nat.testBit_or, Nat.testBit_and]
    simp only [Bool.or_eq_true, Bool.and_eq_true, List.mem_cons, exists_eq_or_imp, or_assoc]
theorem growN_lt {a : List Nat} {wi s : Nat} {l : List Int} {n : Nat} (hs : s < 2 ^ n) (hw : wi < 2 ^ n) : growN a wi l s < 2 ^ n := by
  apply lt_bits
  intro i hi
  rcases (testBit_growN a wi l s i).1 hi with h | ⟨x, _, _, h⟩
  · exact bit_lt_of hs h
  · exact bit_lt_of hw h
theorem grow_le {a : List Nat} {wi s : Nat} {l : List Int} : s ≤ growN a wi l s := by
  apply Nat.le_of_lt_succ
  apply Nat.lt_of_le_of_lt (m := s &&& growN a wi l s)
  · apply Nat.le_of_eq
    apply nat_ext
    intro i
    rw [Nat.testBit_and]
    cases h : s.testBit i
    · rfl
    · rw [(testBit_growN a wi l s i).2 (.inl h)]; rfl
  · exact Nat.lt_succ_of_le Nat.and_le_right
theorem ReachI.grow {a : List Nat} {wi v M : Nat} (hw : wi < 4294967296) (hv : v < 32) (hM : M < 4294967296) (h : ReachI a wi v M) : ReachI a wi v (growN a wi (bitsI M) M) := by
  refine ⟨(testBit_growN _ _ _ _ _).2 (.inl h.1), fun i hi => ?_⟩
  rcases (testBit_growN _ _ _ _ _).1 hi with h1 | ⟨x, hx, h1, h2⟩
  · exact h.2 i h1
  · exact reach_closed hw hv x.toNat (h.2 _ ((mem_bitsI hM).1 hx).2) i h2 h1
theorem grow_done {a : List Nat} {wi M : Nat} (hM : M < 4294967296) (h : growN a wi (bitsI M) M = M) : ClosedN a wi M := fun x hx u hu hb => by
  rw [← h]
  refine (testBit_growN _ _ _ _ _).2 (.inr ⟨(x : Int), (mem_bitsI hM).2 ⟨by omega, by simpa using hx⟩, by simpa using hb, hu⟩)
/-- Steps lead both ways between vertices of wi. -/
def SymN (a : List Nat) (wi : Nat) : Prop := ∀ x y, wi.testBit x = true → wi.testBit y = true → (a.getD x 0).testBit y = true → (a.getD y 0).testBit x = true
theorem reach_sub {a : List Nat} {wi v : Nat} (hw : wi < 4294967296) (hv : wi.testBit v = true) {i : Nat} (h : (reachN a wi v).testBit i = true) : wi.testBit i = true :=
  reach_least hw (bit_lt_of (n := 32) hw hv) (fun _ _ _ hu _ => hu) hv h
/-- Inside what is left of wi behind a closed part nothing else is reached. -/
theorem reach_left {a : List Nat} {wi D v : Nat} (hw : wi < 4294967296) (hD : D < 4294967296) (hs : SymN a wi) (hc : ClosedN a wi D) (hDw : ∀ i, D.testBit i = true → wi.testBit i = true) (hv : (andN wi D).testBit v = true) :
    reachN a (andN wi D) v = reachN a wi v := by
  have hl : andN wi D < 4294967296 := Nat.lt_of_le_of_lt (andN_le _ _) hw
  have hb := fun i => testBit_andN hw hD i
  rw [hb] at hv
  simp only [Bool.and_eq_true, Bool.not_eq_true'] at hv
  have hv32 := bit_lt_of (n := 32) hw hv.1
  have hvl : (andN wi D).testBit v = true := by rw [hb]; simp [hv]
  apply nat_ext
  intro i
  rw [Bool.eq_iff_iff]
  constructor
  · refine reach_least hl hv32 (fun x hx u hu h => ?_) (reach_start hw hv32)
    rw [hb] at hu
    simp only [Bool.and_eq_true] at hu
    exact reach_closed hw hv32 x hx u hu.1 h
  · refine reach_least hw hv32 (fun x hx u hu h => ?_) (reach_start hl hv32)
    have hx2 := reach_sub hl hvl hx
    rw [hb] at hx2
    simp only [Bool.and_eq_true, Bool.not_eq_true'] at hx2
    refine reach_closed hl hv32 x hx u ?_ h
    rw [hb, hu]
    simp only [Bool.true_and, Bool.not_eq_true']
    cases hDu : D.testBit u
    · rfl
    · have := hc u hDu x hx2.1 (hs x u hx2.1 hu h)
      rw [this] at hx2; cases hx2.2
/-- The parts, in the order of their least vertices. -/
noncomputable def partsF (a : List Nat) : Nat → Nat → List Nat
  | 0, _ => []
  | n + 1, wi => if wi = 0 then [] else reachN a wi (Lib.ctz 32 wi) :: partsF a n (andN wi (reachN a wi (Lib.ctz 32 wi)))
noncomputable def partsN (a : List Nat) (wi : Nat) : List Nat := partsF a 33 wi
theorem ctz_bit {m : Nat} (h0 : m ≠ 0) (hm : m < 4294967296) : m.testBit (Lib.ctz 32 m) = true := by
  have := ctz_head h0 hm
  have h2 : (Lib.ctz 32 m : Int) ∈ bitsI m := List.mem_of_mem_head? this
  simpa using ((mem_bitsI hm).1 h2).2
theorem ctz_least {m i : Nat} (h0 : m ≠ 0) (hm : m < 4294967296) (h : m.testBit i = true) : Lib.ctz 32 m ≤ i := by
  have h1 := ctz_head h0 hm
  have h2 : (i : Int) ∈ bitsI m := (mem_bitsI hm).2 ⟨by omega, by simpa using h⟩
  have h3 := bitsI_sorted m
  cases hb : bitsI m with
  | nil => rw [hb] at h2; cases h2
  | cons x l =>
    rw [hb] at h1 h2 h3
    simp only [List.head?_cons, Option.some.injEq] at h1
    rcases List.mem_cons.1 h2 with h4 | h4
    · omega
    · have := List.rel_of_pairwise_cons h3 h4; omega
def popN (m : Nat) : Nat := (bitsN m).length
theorem popN_le {a b : Nat} (ha : a < 4294967296) (hb : b < 4294967296) (h : ∀ i, a.testBit i = true → b.testBit i = true) : popN a ≤ popN b := by
  unfold popN bitsN
  rw [← List.countP_eq_length_filter, ← List.countP_eq_length_filter]
  exact List.countP_mono_left fun x _ hx => h x hx
theorem popN_lt {a b i : Nat} (hb : b < 4294967296) (h : ∀ i, a.testBit i = true → b.testBit i = true) (h1 : b.testBit i = true) (h2 : a.testBit i = false) : popN a < popN b := by
  unfold popN bitsN
  have hs : ((List.range 32).filter a.testBit) = ((List.range 32).filter b.testBit).filter a.testBit := by
    rw [List.filter_filter]
    apply List.filter_congr
    intro x _
    cases hx : a.testBit x
    · rfl
    · rw [h x hx]; rfl
  rw [hs]
  refine Nat.lt_of_le_of_ne (List.length_filter_le _ _) fun e => ?_
  have := List.length_filter_eq_length_iff.1 e i (List.mem_filter.2 ⟨List.mem_range.2 (bit_lt_of (n := 32) hb h1), h1⟩)
  rw [h2] at this; cases this
theorem popN_32 (m : Nat) : popN m ≤ 32 := bitsN_len m
theorem popN_zero {m : Nat} (hm : m < 4294967296) : popN m = 0 ↔ m = 0 := by
  rw [← bitsI_nil hm]
  unfold popN bitsI
  simp
theorem partsF_enough {a : List Nat} : ∀ {n k wi : Nat}, wi < 4294967296 → popN wi < n → popN wi < k → partsF a n wi = partsF a k wi
  | 0, _, _, _, h, _ => by omega
  | _, 0, _, _, _, h => by omega
  | n + 1, k + 1, wi, hw, h1, h2 => by
    rw [partsF, partsF]
    by_cases h0 : wi = 0
    · rw [if_pos h0, if_pos h0]
    · rw [if_neg h0, if_neg h0]
      have hc := ctz_bit h0 hw
      have hr := reachN_lt a wi (Lib.ctz 32 wi)
      have hlt : popN (andN wi (reachN a wi (Lib.ctz 32 wi))) < popN wi := popN_lt hw (fun i hi => by rw [testBit_andN hw hr] at hi; simp only [Bool.and_eq_true] at hi; exact hi.1) hc (by
        rw [testBit_andN hw hr, reach_start hw (bit_lt_of (n := 32) hw hc)]; simp)
      rw [partsF_enough (n := n) (k := k) (Nat.lt_of_le_of_lt (andN_le _ _) hw) (by omega) (by omega)]
theorem partsN_zero (a : List Nat) : partsN a 0 = [] := by rw [partsN, partsF, if_pos rfl]
theorem partsN_step {a : List Nat} {wi : Nat} (hw : wi < 4294967296) (h0 : wi ≠ 0) : partsN a wi = reachN a wi (Lib.ctz 32 wi) :: partsN a (andN wi (reachN a wi (Lib.ctz 32 wi))) := by
  unfold partsN
  rw [partsF, if_neg h0]
  have hc := ctz_bit h0 hw
  have hr := reachN_lt a wi (Lib.ctz 32 wi)
  have hlt : popN (andN wi (reachN a wi (Lib.ctz 32 wi))) < popN wi := popN_lt hw (fun i hi => by rw [testBit_andN hw hr] at hi; simp only [Bool.and_eq_true] at hi; exact hi.1) hc (by
    rw [testBit_andN hw hr, reach_start hw (bit_lt_of (n := 32) hw hc)]; simp)
  have := popN_32 wi
  rw [partsF_enough (n := 32) (k := 33) (Nat.lt_of_le_of_lt (andN_le _ _) hw) (by omega) (by omega)]
theorem andN_andN {a b c : Nat} (ha : a < 4294967296) (hb : b < 4294967296) (hc : c < 4294967296) : andN (andN a b) c = andN a (b ||| c) := by
  apply nat_ext
  intro i
  rw [testBit_andN (Nat.lt_of_le_of_lt (andN_le _ _) ha) hc, testBit_andN ha hb, testBit_andN ha (Nat.or_lt_two_pow (n := 32) hb hc), Nat.testBit_or, Bool.not_or, Bool.and_assoc]
theorem andN_zero_iff {a b : Nat} (ha : a < 4294967296) (hb : b < 4294967296) : andN a b = 0 ↔ ∀ i, a.testBit i = true → b.testBit i = true := by
  constructor
  · intro h i hi
    have := testBit_andN ha hb i
    rw [h, Nat.zero_testBit, hi] at this
    simpa using this.symm
  · intro h
    apply nat_ext
    intro i
    rw [testBit_andN ha hb, Nat.zero_testBit]
    cases hi : a.testBit i
    · rfl
    · rw [h i hi]; rfl
/-- One part alone, said as the program says it. -/
theorem parts_one {a : List Nat} {wi : Nat} (hw : wi < 4294967296) (h0 : wi ≠ 0) : (partsN a wi).length = 1 ↔ reachN a wi (Lib.ctz 32 wi) = wi := by
  have hr := reachN_lt a wi (Lib.ctz 32 wi)
  have hc := ctz_bit h0 hw
  rw [partsN_step hw h0, List.length_cons]
  have hz : andN wi (reachN a wi (Lib.ctz 32 wi)) = 0 ↔ reachN a wi (Lib.ctz 32 wi) = wi := by
    rw [andN_zero_iff hw hr]
    constructor
    · intro h
      apply nat_ext
      intro i
      rw [Bool.eq_iff_iff]
      exact ⟨reach_sub hw hc, h i⟩
    · intro h i hi; rw [h]; exact hi
  rw [← hz]
  constructor
  · intro h
    apply Decidable.byContradiction
    intro h1
    rw [partsN_step (Nat.lt_of_le_of_lt (andN_le _ _) hw) h1] at h
    simp at h
  · intro h; rw [h, partsN_zero]; rfl
/-- The reference's parts so far: done is their union. -/
structure PartsI (a : List Nat) (wi : Nat) (out : List Nat) (D : Nat) : Prop where
  lt : D < 4294967296
  sub : ∀ i, D.testBit i = true → wi.testBit i = true
  closed : ClosedN a wi D
  rest : out ++ partsN a (andN wi D) = partsN a wi
theorem PartsI.start {a : List Nat} {wi : Nat} (hw : wi < 4294967296) : PartsI a wi [] 0 := by
  refine ⟨by omega, (fun i h => by rw [Nat.zero_testBit] at h; cases h), (fun x h => by rw [Nat.zero_testBit] at h; cases h), ?_⟩
  have : andN wi 0 = wi := by
    apply nat_ext; intro i
    rw [testBit_andN hw (by omega), Nat.zero_testBit]; simp
  rw [this]; rfl
theorem PartsI.next {a : List Nat} {wi D v : Nat} {out : List Nat} (hw : wi < 4294967296) (hs : SymN a wi) (h : PartsI a wi out D) (hv : wi.testBit v = true) (hvD : D.testBit v = false) (hl : ∀ i, wi.testBit i = true → i < v → D.testBit i = true) :
    PartsI a wi (out ++ [reachN a wi v]) (D ||| reachN a wi v) := by
  have hr := reachN_lt a wi v
  have hv32 := bit_lt_of (n := 32) hw hv
  have hA : andN wi D < 4294967296 := Nat.lt_of_le_of_lt (andN_le _ _) hw
  have hvA : (andN wi D).testBit v = true := by rw [testBit_andN hw h.lt, hv, hvD]; rfl
  have hA0 : andN wi D ≠ 0 := fun e => by rw [e, Nat.zero_testBit] at hvA; cases hvA
  have hctz : Lib.ctz 32 (andN wi D) = v := by
    refine Nat.le_antisymm (ctz_least hA0 hA hvA) ?_
    apply Nat.le_of_not_lt
    intro hlt
    have hc := ctz_bit hA0 hA
    rw [testBit_andN hw h.lt, Bool.and_eq_true, Bool.not_eq_true'] at hc
    rw [hl _ hc.1 hlt] at hc; cases hc.2
  refine ⟨Nat.or_lt_two_pow (n := 32) h.lt hr, fun i hi => ?_, fun x hx u hu hb => ?_, ?_⟩
  · rw [Nat.testBit_or, Bool.or_eq_true] at hi
    rcases hi with hi | hi
    · exact h.sub i hi
    · exact reach_sub hw hv hi
  · rw [Nat.testBit_or, Bool.or_eq_true] at hx ⊢
    rcases hx with hx | hx
    · exact .inl (h.closed x hx u hu hb)
    · exact .inr (reach_closed hw hv32 x hx u hu hb)
  · rw [← h.rest, partsN_step hA hA0, hctz, reach_left hw h.lt hs h.closed h.sub hvA, andN_andN hw h.lt hr]
    simp
theorem PartsI.done {a : List Nat} {wi D : Nat} {out : List Nat} (hw : wi < 4294967296) (h : PartsI a wi out D) (ha : ∀ i, wi.testBit i = true → D.testBit i = true) : out = partsN a wi := by
  have := h.rest
  rw [(andN_zero_iff hw h.lt).2 ha, partsN_zero, List.append_nil] at this
  exact this
theorem partsF_lt {a : List Nat} : ∀ {n wi x : Nat}, x ∈ partsF a n wi → x < 4294967296
  | 0, _, _, h => by simp [partsF] at h
  | n + 1, wi, x, h => by
    rw [partsF] at h
    split at h
    · cases h
    · rcases List.mem_cons.1 h with h | h
      · rw [h]; exact reachN_lt _ _ _
      · exact partsF_lt h
theorem partsN_lt {a : List Nat} {wi x : Nat} (h : x ∈ partsN a wi) : x < 4294967296 := partsF_lt h
theorem partsF_len {a : List Nat} : ∀ (n wi : Nat), (partsF a n wi).length ≤ n
  | 0, _ => Nat.le_refl _
  | n + 1, wi => by
    rw [partsF]; split
    · exact Nat.zero_le _
    · rw [List.length_cons]; have := partsF_len (a := a) n (andN wi (reachN a wi (Lib.ctz 32 wi))); omega
theorem partsN_len (a : List Nat) (wi : Nat) : (partsN a wi).length ≤ 33 := partsF_len _ _
/-- The steps of a graph, or of its complement. -/
def complN (a : List Nat) : List Nat := (List.range a.length).map fun v => andN (andN (firstN a.length) (a.getD v 0)) (bit v)
def adjN (a : List Nat) (turned : Bool) : List Nat := if turned then complN a else a
theorem nets_bit2 {g : List (List Int)} (hg : GOk g) {v : Nat} (hv : v < g.length) (j : Nat) : ((netsL g).getD v 0).testBit j = decide ((j : Int) ∈ g.getD v []) := by
  rw [netsL_get hv, testBit_maskL (fun x hx => (hg.ge hv x hx).1)]
  simp [hv]
theorem adj_bit {g : List (List Int)} (hg : GOk g) {v u : Nat} (hv : v < g.length) (hu : u < g.length) (t : Bool) : ((adjN (netsL g) t).getD v 0).testBit u = (decide (u ≠ v) && (decide ((u : Int) ∈ g.getD v []) != t)) := by
  have h1 := nets_bit2 hg hv u
  have hir : ¬ ((v : Int) ∈ g.getD v []) := by
    have := hg.irrefl v hv
    simpa [hv] using this
  cases t
  · simp only [adjN, Bool.false_eq_true, if_false, h1]
    by_cases e : u = v
    · subst e; simp only [hir, decide_false, Bool.and_false, ne_eq, not_true_eq_false, Bool.false_and]
    · simp [e]
  · simp only [adjN, if_true, complN, netsL_len]
    have hl : ((netsL g).getD v 0) < 4294967296 := by
      rw [netsL_get hv]; exact maskL_lt32 (hg.ge32 hv)
    have hf : firstN g.length < 4294967296 := by have := firstN_lt hg.hi; omega
    have e : (List.map (fun v => andN (andN (firstN g.length) ((netsL g).getD v 0)) (bit v)) (List.range g.length)).getD v 0 = andN (andN (firstN g.length) ((netsL g).getD v 0)) (bit v) := by simp [hv]
    have h16 := hg.hi
    rw [e, testBit_andN (Nat.lt_of_le_of_lt (andN_le _ _) hf) (bit_lt (by omega)), testBit_andN hf hl, h1, testBit_firstN, testBit_bit]
    by_cases e2 : u = v
    · subst e2; simp
    · have : ¬ v = u := fun h => e2 h.symm
      simp [hu, e2, this]
theorem adj_sym {g : List (List Int)} (hg : GOk g) {wi : Nat} (hw : wi < 2 ^ g.length) (t : Bool) : SymN (adjN (netsL g) t) wi := fun x y hx hy h => by
  have hxl := bit_lt_of hw hx
  have hyl := bit_lt_of hw hy
  rw [adj_bit hg hxl hyl] at h
  rw [adj_bit hg hyl hxl]
  have h2 : decide ((x : Int) ∈ g.getD y []) = decide ((y : Int) ∈ g.getD x []) := by
    rw [decide_eq_decide]
    have e1 : g.getD x [] = g[x] := by simp [hxl]
    have e2 : g.getD y [] = g[y] := by simp [hyl]
    constructor
    · intro h3
      rw [e2] at h3
      have := hg.symm y hyl _ h3; simpa using this
    · intro h3
      rw [e1] at h3
      have := hg.symm x hxl _ h3; simpa using this
  rw [h2]
  simp only [Bool.and_eq_true, decide_eq_true_eq] at h ⊢
  exact ⟨fun e => h.1 e.symm, h.2⟩
theorem reach_eq {a : List Nat} {wi v x : Nat} (hw : wi < 4294967296) (hs : SymN a wi) (hv : wi.testBit v = true) (hx : (reachN a wi v).testBit x = true) : reachN a wi x = reachN a wi v := by
  have hv32 := bit_lt_of (n := 32) hw hv
  have hxw := reach_sub hw hv hx
  have hx32 := bit_lt_of (n := 32) hw hxw
  have h1 : ∀ i, (reachN a wi x).testBit i = true → (reachN a wi v).testBit i = true := fun i => reach_least hw hx32 (reach_closed hw hv32) hx
  have hvx : (reachN a wi x).testBit v = true := by
    apply Classical.byContradiction
    intro hno
    have hR := reachN_lt a wi v
    have hC := reachN_lt a wi x
    have h2 := reach_least (M := andN (reachN a wi v) (reachN a wi x)) hw hv32 (fun y hy u hu hb => ?_) ?_ hx
    · rw [testBit_andN hR hC, reach_start hw hx32] at h2
      simp at h2
    · rw [testBit_andN hR hC] at hy ⊢
      simp only [Bool.and_eq_true, Bool.not_eq_true'] at hy ⊢
      refine ⟨reach_closed hw hv32 y hy.1 u hu hb, ?_⟩
      cases hcu : (reachN a wi x).testBit u
      · rfl
      · have hyw := reach_sub hw hv hy.1
        have := reach_closed hw hx32 u hcu y hyw (hs y u hyw hu hb)
        rw [this] at hy; cases hy.2
    · rw [testBit_andN hR hC, reach_start hw hv32]
      simpa using hno
  apply nat_ext
  intro i
  rw [Bool.eq_iff_iff]
  exact ⟨h1 i, fun hi => reach_least hw hv32 (reach_closed hw hx32) hvx hi⟩
theorem net_bit {g : List (List Int)} (hg : GOk g) {u v : Nat} : ((netsL g).getD u 0).testBit v = true ↔ u < g.length ∧ (v : Int) ∈ g.getD u [] := by
  by_cases hu : u < g.length
  · have e : (netsL g).getD u 0 = maskL g[u] := by simp [netsL, hu]
    have e2 : g.getD u [] = g[u] := by simp [hu]
    rw [e, e2, testBit_maskL (fun x hx => (hg.ge32 hu x hx).1), decide_eq_true_eq]
    exact ⟨fun h => ⟨hu, h⟩, fun h => h.2⟩
  · have e : (netsL g).getD u 0 = 0 := by simp [netsL, hu]
    rw [e, Nat.zero_testBit]
    exact ⟨(fun h => by cases h), fun h => absurd h.1 hu⟩
theorem net_sym {g : List (List Int)} (hg : GOk g) {u v : Nat} (h : ((netsL g).getD u 0).testBit v = true) : u < g.length ∧ v < g.length ∧ u ≠ v ∧ ((netsL g).getD v 0).testBit u = true := by
  obtain ⟨hu, hm⟩ := (net_bit hg).1 h
  have e2 : g.getD u [] = g[u] := by simp [hu]
  have hm' := hm
  rw [e2] at hm'
  obtain ⟨i, hi, e⟩ := List.getElem_of_mem hm'
  have hr := hg.rise u hu i hi hi
  have hv : v < g.length := by omega
  have hs := hg.symm u hu v hm'
  rw [Int.toNat_natCast] at hs
  refine ⟨hu, hv, fun e3 => ?_, (net_bit hg).2 ⟨hv, hs⟩⟩
  subst e3
  exact hg.irrefl u hu hm'
theorem net_lt {g : List (List Int)} (hg : GOk g) (u : Nat) : (netsL g).getD u 0 < 2 ^ g.length := lt_bits fun i hi => (net_sym hg hi).2.1
theorem net_lt32 {g : List (List Int)} (hg : GOk g) (u : Nat) : (netsL g).getD u 0 < 4294967296 := Nat.lt_of_lt_of_le (net_lt hg u) (Nat.le_trans (Nat.pow_le_pow_right (by omega) hg.hi) (by decide))
theorem net_irr {g : List (List Int)} (hg : GOk g) (u : Nat) : ((netsL g).getD u 0).testBit u = false := by
  cases h : ((netsL g).getD u 0).testBit u with
  | false => rfl
  | true => exact absurd rfl (net_sym hg h).2.2.1
theorem row_bits {g : List (List Int)} (hg : GOk g) {k : Nat} (hk : k < g.length) : g[k] = bitsI ((netsL g).getD k 0) := by
  have e : (netsL g).getD k 0 = maskL g[k] := by simp [netsL, hk]
  rw [e, bitsI_maskL (rise_sorted (hg.rise k hk)) (hg.ge32 hk)]
theorem bits_nats (m : Nat) : bitsI m = natsI (bitsN m) := by simp [bitsI, natsI]
def orN (a : List Nat) (l : List Nat) : Nat := l.foldl (fun s u => s ||| a.getD u 0) 0
theorem orN_snoc (a : List Nat) (l : List Nat) (x : Nat) : orN a (l ++ [x]) = orN a l ||| a.getD x 0 := by simp [orN]
theorem testBit_orF (a : List Nat) : ∀ (l : List Nat) (s i : Nat), (l.foldl (fun s u => s ||| a.getD u 0) s).testBit i = true ↔ s.testBit i = true ∨ ∃ u ∈ l, (a.getD u 0).testBit i = true
  | [], s, i => by simp
  | x :: l, s, i => by
    rw [List.foldl_cons, testBit_orF a l, Nat.testBit_or]
    simp only [Bool.or_eq_true, List.mem_cons, exists_eq_or_imp, or_assoc]
theorem testBit_orN {a : List Nat} {l : List Nat} {i : Nat} : (orN a l).testBit i = true ↔ ∃ u ∈ l, (a.getD u 0).testBit i = true := by
  unfold orN; rw [testBit_orF]; simp
theorem getD_ltN {a : List Nat} {n : Nat} (h : ∀ m ∈ a, m < 2 ^ n) (u : Nat) : a.getD u 0 < 2 ^ n := by
  by_cases hu : u < a.length
  · have : a.getD u 0 = a[u] := by simp [hu]
    rw [this]; exact h _ (List.getElem_mem hu)
  · have : a.getD u 0 = 0 := by rw [List.getD_eq_getElem?_getD, List.getElem?_eq_none (by omega)]; rfl
    rw [this]; exact Nat.two_pow_pos n
theorem orN_lt {a : List Nat} {l : List Nat} {n : Nat} (h : ∀ m ∈ a, m < 2 ^ n) : orN a l < 2 ^ n := by
  apply lt_bits
  intro i hi
  obtain ⟨u, _, hb⟩ := testBit_orN.1 hi
  exact bit_lt_of (getD_ltN h u) hb
/-- What v sees behind those that are gone. -/
noncomputable def behindN (a : List Nat) (gone v : Nat) : Nat := andN (andN (orN a (bitsN (reachN a (gone ||| bit v) v))) gone) (bit v)
/-- What the widths rest on: words of n bits. -/
structure WideI (a : List Nat) (n : Nat) : Prop where
  len : a.length = n
  le : n ≤ 16
  lt : ∀ m ∈ a, m < 2 ^ n
theorem pow16_lt {n : Nat} (h : n ≤ 16) : 2 ^ n < 4294967296 := Nat.lt_of_le_of_lt (Nat.pow_le_pow_right (by omega) h) (by decide)
theorem WideI.lt32 {a : List Nat} {n : Nat} (h : WideI a n) : ∀ m ∈ a, m < 4294967296 := fun m hm => by have := h.lt m hm; have := pow16_lt h.le; omega
theorem WideI.or_lt {a : List Nat} {n gone v : Nat} (h : WideI a n) (hg : gone < 2 ^ n) (hv : v < n) : gone ||| bit v < 2 ^ n := by
  apply lt_bits
  intro i hi
  rw [Nat.testBit_or, Bool.or_eq_true] at hi
  rcases hi with hi | hi
  · exact bit_lt_of hg hi
  · rw [testBit_bit] at hi
    have : v = i := by simpa using hi
    omega
theorem testBit_behindN {a : List Nat} {n gone v : Nat} (h : WideI a n) (hg : gone < 2 ^ n) (hv : v < n) (i : Nat) :
    (behindN a gone v).testBit i = true ↔ (∃ u, (reachN a (gone ||| bit v) v).testBit u = true ∧ (a.getD u 0).testBit i = true) ∧ gone.testBit i = false ∧ v ≠ i := by
  have h16 := h.le
  have hp := pow16_lt h16
  have ho : orN a (bitsN (reachN a (gone ||| bit v) v)) < 4294967296 := Nat.lt_trans (orN_lt h.lt) hp
  have hg32 : gone < 4294967296 := by omega
  unfold behindN
  rw [testBit_andN (Nat.lt_of_le_of_lt (andN_le _ _) ho) (bit_lt (by omega)), testBit_andN ho hg32, testBit_bit]
  simp only [Bool.and_eq_true, Bool.not_eq_true', decide_eq_false_iff_not, testBit_orN, mem_bitsN (reachN_lt _ _ _), and_assoc, ne_eq]
theorem behindN_lt {a : List Nat} {n gone v : Nat} (h : WideI a n) : behindN a gone v < 2 ^ n :=
  Nat.lt_of_le_of_lt (andN_le _ _) (Nat.lt_of_le_of_lt (andN_le _ _) (orN_lt h.lt))
theorem popN_pow {m n : Nat} (hn : n ≤ 32) (hm : m < 2 ^ n) : popN m ≤ n := by
  have h1 : popN m ≤ ((List.range 32).filter fun i => decide (i < n)).length := by
    have h3 : popN m ≤ popN (2 ^ n - 1) := popN_le (Nat.lt_of_lt_of_le hm (Nat.pow_le_pow_right (by omega) hn)) (by have : 2 ^ n ≤ 2 ^ 32 := Nat.pow_le_pow_right (by omega) hn; have := Nat.two_pow_pos n; omega) fun i hi => by
      rw [Nat.testBit_two_pow_sub_one]; simpa using bit_lt_of hm hi
    refine Nat.le_trans h3 (Nat.le_of_eq ?_)
    unfold popN bitsN
    congr 1
    apply List.filter_congr
    intro i _
    rw [Nat.testBit_two_pow_sub_one]
  have h2 : ∀ k, ((List.range k).filter fun i => decide (i < n)).length ≤ n := by
    intro k
    induction k with
    | zero => simp
    | succ k ih =>
      rw [List.range_succ, List.filter_append, List.length_append]
      by_cases hk : k < n
      · have h3 : ((List.range k).filter fun i => decide (i < n)).length ≤ k := by
          have := List.length_filter_le (fun i => decide (i < n)) (List.range k); simpa using this
        simp only [List.filter_cons, List.filter_nil, hk, decide_true, if_true, List.length_cons, List.length_nil]; omega
      · simpa [hk] using ih
  exact Nat.le_trans h1 (h2 32)
/-- Those that are not gone. -/
def leftL (n gone : Nat) : List Nat := (List.range n).filter fun v => !gone.testBit v
theorem mem_leftL {n gone v : Nat} : v ∈ leftL n gone ↔ v < n ∧ gone.testBit v = false := by simp [leftL]
theorem leftL_succ (n gone : Nat) : leftL (n + 1) gone = leftL n gone ++ if gone.testBit n = true then [] else [n] := by
  unfold leftL
  rw [List.range_succ, List.filter_append]
  by_cases h : gone.testBit n = true <;> simp [h]
theorem filter_less {p : Nat → Bool} {v : Nat} : ∀ {l : List Nat}, l.Nodup → v ∈ l → p v = true → (l.filter fun x => p x && !decide (v = x)).length + 1 = (l.filter p).length
  | [], _, hm, _ => by cases hm
  | x :: l, hn, hm, hp => by
    obtain ⟨h1, h2⟩ := List.nodup_cons.1 hn
    by_cases e : v = x
    · subst e
      have : (l.filter fun x => p x && !decide (v = x)) = l.filter p := List.filter_congr fun y hy => by
        have : ¬ v = y := fun e => h1 (e ▸ hy)
        simp [this]
      simp [List.filter_cons, hp, this]
    · have hm2 : v ∈ l := by
        rcases List.mem_cons.1 hm with h | h
        · exact absurd h e
        · exact h
      have ih := filter_less h2 hm2 hp
      by_cases hx : p x = true
      · simp only [List.filter_cons, hx, e, decide_false, Bool.not_false, Bool.and_self, if_true, List.length_cons]; omega
      · simp only [List.filter_cons, hx, Bool.false_and, if_false, Bool.false_eq_true]; omega
theorem leftL_next {n gone v : Nat} (hv : v < n) (hg : gone.testBit v = false) : (leftL n (gone ||| bit v)).length + 1 = (leftL n gone).length := by
  unfold leftL
  rw [← filter_less (p := fun v => !gone.testBit v) (v := v) List.nodup_range (List.mem_range.2 hv) (by simp [hg])]
  congr 2
  apply List.filter_congr
  intro x _
  rw [Nat.testBit_or, testBit_bit, Bool.not_or]
noncomputable def widthF (a : List Nat) (n : Nat) : Nat → Nat → Nat
  | 0, _ => 0
  | f + 1, gone => ((leftL n gone).map fun v => max (popN (behindN a gone v)) (widthF a n f (gone ||| bit v))).foldl min 16
/-- The least width of taking away what is not gone. -/
noncomputable def widthN (a : List Nat) (n gone : Nat) : Nat := widthF a n (leftL n gone).length gone
noncomputable def costN (a : List Nat) (n gone v : Nat) : Nat := max (popN (behindN a gone v)) (widthN a n (gone ||| bit v))
theorem widthN_all {a : List Nat} {n gone : Nat} (h : leftL n gone = []) : widthN a n gone = 0 := by unfold widthN; rw [h]; rfl
theorem widthN_step {a : List Nat} {n gone : Nat} (h : leftL n gone ≠ []) : widthN a n gone = ((leftL n gone).map (costN a n gone)).foldl min 16 := by
  obtain ⟨f, hf⟩ : ∃ f, (leftL n gone).length = f + 1 := ⟨(leftL n gone).length - 1, by
    have : (leftL n gone).length ≠ 0 := fun e => h (List.length_eq_zero_iff.1 e)
    omega⟩
  unfold widthN
  rw [hf, widthF]
  congr 1
  apply List.map_congr_left
  intro v hv
  obtain ⟨h1, h2⟩ := mem_leftL.1 hv
  have := leftL_next h1 h2
  unfold costN widthN
  rw [show (leftL n (gone ||| bit v)).length = f by omega]
theorem foldMin_le : ∀ (l : List Nat) (s : Nat), l.foldl min s ≤ s
  | [], s => by simp
  | x :: l, s => Nat.le_trans (foldMin_le l (min s x)) (Nat.min_le_left _ _)
theorem widthN_le (a : List Nat) (n gone : Nat) : widthN a n gone ≤ 16 := by
  by_cases h : leftL n gone = []
  · rw [widthN_all h]; omega
  · rw [widthN_step h]; exact foldMin_le _ _
theorem costN_le {a : List Nat} {n gone v : Nat} (h : WideI a n) : costN a n gone v ≤ 16 := by
  have h16 := h.le
  have := popN_pow (by omega) (behindN_lt (gone := gone) (v := v) h)
  have := widthN_le a n (gone ||| bit v)
  unfold costN; omega
def bestI (l : List Nat) : Int := if l = [] then -1 else (l.foldl min 16 : Nat)
theorem bestI_snoc {l : List Nat} {x : Nat} (hx : x ≤ 16) : bestI (l ++ [x]) = if bestI l < 0 ∨ (x : Int) < bestI l then (x : Int) else bestI l := by
  unfold bestI
  rw [if_neg (by simp), List.foldl_append]
  simp only [List.foldl_cons, List.foldl_nil]
  by_cases h : l = []
  · subst h
    simp only [if_true, List.foldl_nil]
    rw [if_pos (by omega)]; omega
  · rw [if_neg h]
    have := foldMin_le l 16
    split <;> omega
theorem bestI_bound (l : List Nat) : -1 ≤ bestI l ∧ bestI l ≤ 16 := by
  unfold bestI
  have := foldMin_le l 16
  split <;> omega
theorem bestI_width {a : List Nat} {n gone : Nat} : max (bestI ((leftL n gone).map (costN a n gone))) 0 = (widthN a n gone : Int) := by
  by_cases h : leftL n gone = []
  · rw [widthN_all h, h]
    show max (-1 : Int) 0 = ((0 : Nat) : Int)
    decide
  · rw [widthN_step h]
    unfold bestI
    rw [if_neg (by simpa using h)]; omega
theorem leftL_bits {n gone : Nat} (hn : n ≤ 16) (hg : gone < 4294967296) : bitsI (andN (firstN n) gone) = natsI (leftL n gone) := by
  have hf : firstN n < 4294967296 := by have := firstN_lt hn; omega
  have hA : andN (firstN n) gone < 4294967296 := Nat.lt_of_le_of_lt (andN_le _ _) hf
  have hs : (natsI (leftL n gone)).Pairwise (· < ·) := by
    unfold natsI leftL
    rw [List.pairwise_map]
    exact (List.pairwise_lt_range.filter _).imp (fun h => by omega)
  refine sorted_ext (bitsI_sorted _) hs fun x => ?_
  rw [mem_bitsI hA, testBit_andN hf hg]
  unfold natsI
  simp only [List.mem_map, mem_leftL, Bool.and_eq_true, Bool.not_eq_true']
  constructor
  · rintro ⟨h1, h2, h3⟩
    have h4 : firstN n < 2 ^ n := by unfold firstN; have := Nat.two_pow_pos n; omega
    exact ⟨x.toNat, ⟨bit_lt_of h4 h2, h3⟩, by omega⟩
  · rintro ⟨u, ⟨h1, h2⟩, h3⟩
    subst h3
    refine ⟨by omega, ?_, by simpa using h2⟩
    rw [testBit_firstN]; simpa using h1
theorem left_nil {n gone : Nat} (hn : n ≤ 16) (hg : gone < 2 ^ n) : leftL n gone = [] ↔ gone = firstN n := by
  constructor
  · intro h
    apply nat_ext
    intro i
    rw [testBit_firstN]
    by_cases hi : i < n
    · have : ¬ i ∈ leftL n gone := by rw [h]; simp
      rw [mem_leftL] at this
      simp only [hi, true_and, Bool.not_eq_false] at this
      simp [this, hi]
    · cases hb : gone.testBit i
      · simp [hi]
      · exact absurd (bit_lt_of hg hb) hi
  · rintro rfl
    rw [List.eq_nil_iff_forall_not_mem]
    intro v hv
    obtain ⟨h1, h2⟩ := mem_leftL.1 hv
    rw [testBit_firstN] at h2
    simp [h1] at h2
/-- The reference's search: met are the L (as a word M), the first i of which are done; of the next one's row T is done; O are out. -/
structure BJ (a : List Nat) (gone v n : Nat) (L : List Nat) (M i : Nat) (T : List Nat) (O : Nat) : Prop where
  mem : ∀ u, u ∈ L ↔ M.testBit u = true
  pop : L.length = popN M
  lt : M < 2 ^ n
  reach : ReachI a (gone ||| bit v) v M
  done : ∀ x ∈ L.take i, ∀ u, (gone ||| bit v).testBit u = true → (a.getD x 0).testBit u = true → M.testBit u = true
  part : ∀ u ∈ T, (gone ||| bit v).testBit u = true → M.testBit u = true
  out : ∀ u, O.testBit u = true ↔ ((∃ x ∈ L.take i, (a.getD x 0).testBit u = true) ∨ u ∈ T) ∧ gone.testBit u = false ∧ v ≠ u
  ilt : i ≤ L.length
  olt : O < 2 ^ n
theorem BJ.start {a : List Nat} {gone v n : Nat} (h : WideI a n) (hg : gone < 2 ^ n) (hv : v < n) : BJ a gone v n [v] (bit v) 0 [] 0 := by
  have h16 := h.le
  have hw := Nat.lt_trans (h.or_lt hg hv) (pow16_lt h16)
  refine ⟨fun u => ?_, ?_, ?_, ReachI.start hw (by omega), fun x hx => (by simp at hx), fun u hu => (by cases hu), fun u => (by simp), (by simp), Nat.two_pow_pos n⟩
  · rw [testBit_bit]; simp [eq_comm]
  · have : bitsI (bit v) = [(v : Int)] := by
      have hs : [(v : Int)].Pairwise (· < ·) := by simp
      refine sorted_ext (bitsI_sorted _) hs fun x => ?_
      rw [mem_bitsI (bit_lt (by omega)), testBit_bit]
      simp only [decide_eq_true_eq, List.mem_singleton]; omega
    have h2 : popN (bit v) = (bitsI (bit v)).length := by simp [popN, bitsI]
    rw [h2, this]; rfl
  · apply lt_bits
    intro i hi
    rw [testBit_bit] at hi
    have : v = i := by simpa using hi
    omega
theorem BJ.len {a : List Nat} {gone v n : Nat} {L : List Nat} {M i : Nat} {T : List Nat} {O : Nat} (h : BJ a gone v n L M i T O) (hn : n ≤ 16) : L.length ≤ n := by
  rw [h.pop]; exact popN_pow (by omega) h.lt
theorem BJ.end_ {a : List Nat} {gone v n : Nat} {L : List Nat} {M i : Nat} {O : Nat} (hI : WideI a n) (hg : gone < 2 ^ n) (hv : v < n) (h : BJ a gone v n L M i [] O) (hi : L.length ≤ i) : O = behindN a gone v := by
  have h16 := hI.le
  have hw := Nat.lt_trans (hI.or_lt hg hv) (pow16_lt h16)
  have ht : L.take i = L := List.take_of_length_le hi
  have hd := h.done
  have ho := h.out
  rw [ht] at hd ho
  have hM := h.reach.done hw (by omega) (fun x hx u hu hb => hd x ((h.mem x).2 hx) u hu hb)
  apply nat_ext
  intro u
  rw [Bool.eq_iff_iff, ho, testBit_behindN hI hg hv, ← hM]
  constructor
  · rintro ⟨h1 | h1, h2⟩
    · obtain ⟨x, hx, hb⟩ := h1
      exact ⟨⟨x, (h.mem x).1 hx, hb⟩, h2⟩
    · cases h1
  · rintro ⟨⟨x, hx, hb⟩, h2⟩
    exact ⟨.inl ⟨x, (h.mem x).2 hx, hb⟩, h2⟩
theorem BJ.close {a : List Nat} {gone v n : Nat} {L : List Nat} {M i : Nat} {T : List Nat} {O : Nat} (h : BJ a gone v n L M i T O) (hi : i < L.length) (hT : ∀ u, u ∈ T ↔ (a.getD L[i] 0).testBit u = true) : BJ a gone v n L M (i + 1) [] O := by
  have ht : L.take (i + 1) = L.take i ++ [L[i]] := List.take_succ_eq_append_getElem hi
  refine ⟨h.mem, h.pop, h.lt, h.reach, fun x hx u hu hb => ?_, fun u hu => (by cases hu), fun u => ?_, hi, h.olt⟩
  · rw [ht, List.mem_append, List.mem_singleton] at hx
    rcases hx with hx | rfl
    · exact h.done x hx u hu hb
    · exact h.part u ((hT u).2 hb) hu
  · rw [h.out u, ht]
    constructor
    · rintro ⟨h1 | h1, h2⟩
      · obtain ⟨x, hx, hb⟩ := h1
        exact ⟨.inl ⟨x, List.mem_append_left _ hx, hb⟩, h2⟩
      · exact ⟨.inl ⟨_, List.mem_append_right _ (List.mem_singleton.2 rfl), (hT u).1 h1⟩, h2⟩
    · rintro ⟨h1 | h1, h2⟩
      · obtain ⟨x, hx, hb⟩ := h1
        rw [List.mem_append, List.mem_singleton] at hx
        rcases hx with hx | rfl
        · exact ⟨.inl ⟨x, hx, hb⟩, h2⟩
        · exact ⟨.inr ((hT u).2 hb), h2⟩
      · cases h1
/-- u is gone and was met. -/
theorem BJ.met {a : List Nat} {gone v n : Nat} {L : List Nat} {M i : Nat} {T : List Nat} {O u : Nat} (h : BJ a gone v n L M i T O) (hu : gone.testBit u = true) (hM : M.testBit u = true) : BJ a gone v n L M i (T ++ [u]) O := by
  refine ⟨h.mem, h.pop, h.lt, h.reach, h.done, fun x hx hw => ?_, fun x => ?_, h.ilt, h.olt⟩
  · rw [List.mem_append, List.mem_singleton] at hx
    rcases hx with hx | rfl
    · exact h.part x hx hw
    · exact hM
  · rw [h.out x, List.mem_append, List.mem_singleton]
    constructor
    · rintro ⟨h1 | h1, h2⟩
      · exact ⟨.inl h1, h2⟩
      · exact ⟨.inr (.inl h1), h2⟩
    · rintro ⟨h1 | h1 | rfl, h2⟩
      · exact ⟨.inl h1, h2⟩
      · exact ⟨.inr h1, h2⟩
      · rw [hu] at h2; cases h2.1
/-- u is gone and new. -/
theorem BJ.new {a : List Nat} {gone v n : Nat} {L : List Nat} {M i : Nat} {T : List Nat} {O u : Nat} (hI : WideI a n) (hg : gone < 2 ^ n) (hv : v < n) (h : BJ a gone v n L M i T O) (hi : i < L.length) (hu : gone.testBit u = true) (hb : (a.getD L[i] 0).testBit u = true) (hM : M.testBit u = false)
    (hadd : popN (M ||| bit u) = popN M + 1) : BJ a gone v n (L ++ [u]) (M ||| bit u) i (T ++ [u]) O := by
  have h16 := hI.le
  have hw := Nat.lt_trans (hI.or_lt hg hv) (pow16_lt h16)
  have hwu : (gone ||| bit v).testBit u = true := by rw [Nat.testBit_or, hu]; rfl
  have hlt := h.ilt
  have ht : (L ++ [u]).take i = L.take i := by rw [List.take_append_of_le_length (by omega)]
  have hin := fun x (hx : M.testBit x = true) => show (M ||| bit u).testBit x = true by rw [Nat.testBit_or, hx]; rfl
  refine ⟨fun x => ?_, by rw [List.length_append, List.length_singleton, hadd, h.pop], hI.or_lt h.lt (bit_lt_of hg hu), h.reach.step hw (by omega) ((h.mem _).1 (List.getElem_mem hi)) hwu hb, fun x hx y hy hb => ?_, fun x hx hy => ?_, fun x => ?_, by rw [List.length_append]; omega, h.olt⟩
  · rw [List.mem_append, List.mem_singleton, h.mem, Nat.testBit_or, testBit_bit, Bool.or_eq_true, decide_eq_true_eq]
    constructor
    · rintro (h | h); exact .inl h; exact .inr h.symm
    · rintro (h | h); exact .inl h; exact .inr h.symm
  · rw [ht] at hx
    exact hin y (h.done x hx y hy hb)
  · rw [List.mem_append, List.mem_singleton] at hx
    rcases hx with hx | rfl
    · exact hin x (h.part x hx hy)
    · rw [Nat.testBit_or, testBit_bit]; simp
  · rw [ht, h.out x, List.mem_append, List.mem_singleton]
    constructor
    · rintro ⟨h1 | h1, h2⟩
      · exact ⟨.inl h1, h2⟩
      · exact ⟨.inr (.inl h1), h2⟩
    · rintro ⟨h1 | h1 | rfl, h2⟩
      · exact ⟨.inl h1, h2⟩
      · exact ⟨.inr h1, h2⟩
      · rw [hu] at h2; cases h2.1
/-- u is v itself. -/
theorem BJ.self {a : List Nat} {gone v n : Nat} {L : List Nat} {M i : Nat} {T : List Nat} {O : Nat} (h : BJ a gone v n L M i T O) : BJ a gone v n L M i (T ++ [v]) O := by
  refine ⟨h.mem, h.pop, h.lt, h.reach, h.done, fun x hx hw => ?_, fun x => ?_, h.ilt, h.olt⟩
  · rw [List.mem_append, List.mem_singleton] at hx
    rcases hx with hx | rfl
    · exact h.part x hx hw
    · exact h.reach.1
  · rw [h.out x, List.mem_append, List.mem_singleton]
    constructor
    · rintro ⟨h1 | h1, h2⟩
      · exact ⟨.inl h1, h2⟩
      · exact ⟨.inr (.inl h1), h2⟩
    · rintro ⟨h1 | h1 | rfl, h2⟩
      · exact ⟨.inl h1, h2⟩
      · exact ⟨.inr h1, h2⟩
      · exact absurd rfl h2.2
/-- u is not gone: it is out. -/
theorem BJ.put {a : List Nat} {gone v n : Nat} {L : List Nat} {M i : Nat} {T : List Nat} {O u : Nat} (hI : WideI a n) (hu : u < n) (h : BJ a gone v n L M i T O) (hg : gone.testBit u = false) (hne : v ≠ u) : BJ a gone v n L M i (T ++ [u]) (O ||| bit u) := by
  refine ⟨h.mem, h.pop, h.lt, h.reach, h.done, fun x hx hw => ?_, fun x => ?_, h.ilt, hI.or_lt h.olt hu⟩
  · rw [List.mem_append, List.mem_singleton] at hx
    rcases hx with hx | rfl
    · exact h.part x hx hw
    · rw [Nat.testBit_or, hg, testBit_bit] at hw
      simp [hne] at hw
  · rw [Nat.testBit_or, testBit_bit, Bool.or_eq_true, h.out x, List.mem_append, List.mem_singleton, decide_eq_true_eq]
    constructor
    · rintro (⟨h1 | h1, h2⟩ | rfl)
      · exact ⟨.inl h1, h2⟩
      · exact ⟨.inr (.inl h1), h2⟩
      · exact ⟨.inr (.inr rfl), hg, hne⟩
    · rintro ⟨h1 | h1 | rfl, h2⟩
      · exact .inl ⟨.inl h1, h2⟩
      · exact .inl ⟨.inr h1, h2⟩
      · exact .inr rfl
/-- What is at most so far from v along vertices of wi. -/
def ballN (a : List Nat) (wi v : Nat) : Nat → Nat
  | 0 => bit v
  | k + 1 => ballN a wi v k ||| (orN a (bitsN (ballN a wi v k)) &&& wi)
structure DistI (a : List Nat) (wi v n : Nat) : Prop where
  wide : WideI a n
  wi : wi < 2 ^ n
  v : v < n
theorem ball_lt {a : List Nat} {wi v n : Nat} (h : DistI a wi v n) : ∀ k, ballN a wi v k < 2 ^ n
  | 0 => by
    apply lt_bits
    intro i hi
    unfold ballN at hi
    rw [testBit_bit] at hi
    have : v = i := by simpa using hi
    have := h.v; omega
  | k + 1 => by
    apply lt_bits
    intro i hi
    unfold ballN at hi
    rw [Nat.testBit_or, Nat.testBit_and, Bool.or_eq_true, Bool.and_eq_true] at hi
    rcases hi with hi | hi
    · exact bit_lt_of (ball_lt h k) hi
    · exact bit_lt_of h.wi hi.2
theorem ball_lt32 {a : List Nat} {wi v n : Nat} (h : DistI a wi v n) (k : Nat) : ballN a wi v k < 4294967296 := Nat.lt_trans (ball_lt h k) (pow16_lt h.wide.le)
theorem ball_succ {a : List Nat} {wi v n : Nat} (h : DistI a wi v n) (k u : Nat) : (ballN a wi v (k + 1)).testBit u = true ↔ (ballN a wi v k).testBit u = true ∨ (wi.testBit u = true ∧ ∃ x, (ballN a wi v k).testBit x = true ∧ (a.getD x 0).testBit u = true) := by
  rw [ballN, Nat.testBit_or, Nat.testBit_and, Bool.or_eq_true, Bool.and_eq_true, testBit_orN]
  simp only [mem_bitsN (ball_lt32 h k)]
  constructor
  · rintro (h1 | ⟨h1, h2⟩)
    · exact .inl h1
    · exact .inr ⟨h2, h1⟩
  · rintro (h1 | ⟨h1, h2⟩)
    · exact .inl h1
    · exact .inr ⟨h2, h1⟩
theorem ball_mono {a : List Nat} {wi v n : Nat} (h : DistI a wi v n) {k u : Nat} (hu : (ballN a wi v k).testBit u = true) : ∀ {l : Nat}, k ≤ l → (ballN a wi v l).testBit u = true
  | 0, hl => by
    have : k = 0 := by omega
    subst this; exact hu
  | l + 1, hl => by
    by_cases e : k = l + 1
    · subst e; exact hu
    · exact (ball_succ h l u).2 (.inl (ball_mono h hu (by omega)))
/-- D are the distances; -1 where there is no path. -/
def IsDist (a : List Nat) (wi v n : Nat) (D : Nat → Int) : Prop := ∀ u, u < n → (D u = -1 ∧ ∀ k, (ballN a wi v k).testBit u = false) ∨ ∃ k : Nat, D u = k ∧ (ballN a wi v k).testBit u = true ∧ ∀ j, j < k → (ballN a wi v j).testBit u = false
theorem IsDist.unique {a : List Nat} {wi v n : Nat} {D D' : Nat → Int} (h : IsDist a wi v n D) (h' : IsDist a wi v n D') {u : Nat} (hu : u < n) : D u = D' u := by
  rcases h u hu with ⟨h1, h2⟩ | ⟨k, h1, h2, h3⟩ <;> rcases h' u hu with ⟨g1, g2⟩ | ⟨l, g1, g2, g3⟩
  · rw [h1, g1]
  · rw [h2 l] at g2; cases g2
  · rw [g2 k] at h2; cases h2
  · have e1 : ¬ k < l := fun e => by rw [g3 k e] at h2; cases h2
    have e2 : ¬ l < k := fun e => by rw [h3 l e] at g2; cases g2
    rw [h1, g1]; omega
/-- Right as far as k steps. -/
def PartD (a : List Nat) (wi v n k : Nat) (D : Nat → Int) : Prop := ∀ u, u < n → (D u = -1 ∧ (ballN a wi v k).testBit u = false) ∨ ∃ j : Nat, j ≤ k ∧ D u = j ∧ (ballN a wi v j).testBit u = true ∧ ∀ i, i < j → (ballN a wi v i).testBit u = false
def LayI (a : List Nat) (wi v k L : Nat) : Prop := ∀ u, L.testBit u = true ↔ ((ballN a wi v k).testBit u = true ∧ ∀ i, i < k → (ballN a wi v i).testBit u = false)
theorem LayI.start {a : List Nat} {wi v : Nat} : LayI a wi v 0 (bit v) := fun u => by simp [ballN]
theorem PartD.start {a : List Nat} {wi v n : Nat} : PartD a wi v n 0 (fun u => if v = u then 0 else -1) := fun u _ => by
  by_cases e : v = u
  · subst e
    exact .inr ⟨0, Nat.le_refl _, by simp, by simp [ballN, testBit_bit], fun i h => by omega⟩
  · exact .inl ⟨by simp [e], by simp [ballN, testBit_bit, e]⟩
theorem LayI.lt {a : List Nat} {wi v n k L : Nat} (h : DistI a wi v n) (hL : LayI a wi v k L) : L < 2 ^ n := lt_bits fun i hi => bit_lt_of (ball_lt h k) ((hL i).1 hi).1
theorem LayI.next {a : List Nat} {wi v n k L : Nat} (h : DistI a wi v n) (hL : LayI a wi v k L) : LayI a wi v (k + 1) (andN (orN a (bitsN L) &&& wi) (ballN a wi v k)) := fun u => by
  have hp := pow16_lt h.wide.le
  have hw : orN a (bitsN L) &&& wi < 4294967296 := Nat.lt_of_le_of_lt Nat.and_le_right (Nat.lt_trans h.wi hp)
  have hL32 : L < 4294967296 := Nat.lt_trans (hL.lt h) hp
  rw [testBit_andN hw (ball_lt32 h k), Nat.testBit_and, Bool.and_eq_true, Bool.and_eq_true, testBit_orN, Bool.not_eq_true']
  simp only [mem_bitsN hL32]
  constructor
  · rintro ⟨⟨⟨x, hx, hb⟩, hwi⟩, hn⟩
    refine ⟨(ball_succ h k u).2 (.inr ⟨hwi, x, ((hL x).1 hx).1, hb⟩), fun i hi => ?_⟩
    cases e : (ballN a wi v i).testBit u
    · rfl
    · rw [ball_mono h e (show i ≤ k by omega)] at hn; cases hn
  · rintro ⟨h1, h2⟩
    have h3 := h2 k (by omega)
    rcases (ball_succ h k u).1 h1 with h4 | ⟨hwi, x, hx, hb⟩
    · rw [h3] at h4; cases h4
    · refine ⟨⟨⟨x, (hL x).2 ⟨hx, fun i hi => ?_⟩, hb⟩, hwi⟩, h3⟩
      cases e : (ballN a wi v i).testBit x
      · rfl
      · have : (ballN a wi v (i + 1)).testBit u = true := (ball_succ h i u).2 (.inr ⟨hwi, x, e, hb⟩)
        rw [ball_mono h this (show i + 1 ≤ k by omega)] at h3; cases h3
theorem LayI.seen {a : List Nat} {wi v n k M : Nat} (h : DistI a wi v n) (hM : LayI a wi v (k + 1) M) : ballN a wi v k ||| M = ballN a wi v (k + 1) := by
  apply nat_ext
  intro u
  rw [Bool.eq_iff_iff, Nat.testBit_or, Bool.or_eq_true, hM u]
  constructor
  · rintro (h1 | h1)
    · exact ball_mono h h1 (Nat.le_succ k)
    · exact h1.1
  · intro h1
    cases e : (ballN a wi v k).testBit u
    · refine .inr ⟨h1, fun i hi => ?_⟩
      cases e2 : (ballN a wi v i).testBit u
      · rfl
      · rw [ball_mono h e2 (show i ≤ k by omega)] at e; cases e
    · exact .inl rfl
theorem PartD.next {a : List Nat} {wi v n k M : Nat} {D D' : Nat → Int} (h : DistI a wi v n) (hD : PartD a wi v n k D) (hM : LayI a wi v (k + 1) M) (hd : ∀ u, u < n → D' u = if M.testBit u = true then ((k + 1 : Nat) : Int) else D u) : PartD a wi v n (k + 1) D' := fun u hu => by
  rw [hd u hu]
  by_cases e : M.testBit u = true
  · rw [if_pos e]
    obtain ⟨h1, h2⟩ := (hM u).1 e
    exact .inr ⟨k + 1, Nat.le_refl _, rfl, h1, h2⟩
  · rw [if_neg e]
    rcases hD u hu with ⟨h1, h2⟩ | ⟨j, h1, h2, h3⟩
    · refine .inl ⟨h1, ?_⟩
      rw [← hM.seen h, Nat.testBit_or, h2]
      simpa using e
    · exact .inr ⟨j, by omega, h2, h3⟩
theorem fix_all {a : List Nat} {wi v n k : Nat} (h : DistI a wi v n) (hk : ballN a wi v (k + 1) = ballN a wi v k) : ∀ j, ballN a wi v (k + j) = ballN a wi v k
  | 0 => rfl
  | j + 1 => by
    have ih := fix_all h hk j
    have e : ballN a wi v (k + (j + 1)) = ballN a wi v (k + j) ||| (orN a (bitsN (ballN a wi v (k + j))) &&& wi) := rfl
    rw [e, ih]
    exact hk
theorem PartD.end_ {a : List Nat} {wi v n k : Nat} {D : Nat → Int} (h : DistI a wi v n) (hD : PartD a wi v n k D) (hL : LayI a wi v k 0) : IsDist a wi v n D := by
  have h1 := hL.next h
  have h2 : andN (orN a (bitsN 0) &&& wi) (ballN a wi v k) = 0 := by
    have : orN a (bitsN 0) = 0 := by simp [bitsN_zero, orN]
    rw [this]
    have hz := andN_le (0 &&& wi) (ballN a wi v k)
    rw [Nat.zero_and] at hz ⊢
    omega
  rw [h2] at h1
  have h3 := h1.seen h
  rw [Nat.or_zero] at h3
  have hf := fix_all h h3.symm
  intro u hu
  rcases hD u hu with ⟨g1, g2⟩ | ⟨j, g1, g2, g3, g4⟩
  · refine .inl ⟨g1, fun l => ?_⟩
    by_cases hl : l ≤ k
    · cases e : (ballN a wi v l).testBit u
      · rfl
      · rw [ball_mono h e hl] at g2; cases g2
    · have := hf (l - k)
      rw [show k + (l - k) = l by omega] at this
      rw [this]; exact g2
  · exact .inr ⟨j, g2, g3, g4⟩
/-- The reference's queue: Q1 stand d steps off, Q2 one more; x is being looked at, T of its row is done. -/
structure DP (a : List Nat) (wi v n : Nat) (D : Nat → Int) (M d x : Nat) (T Q1 Q2 : List Nat) : Prop where
  cor : ∀ u, u < n → (D u = -1 ∧ M.testBit u = false) ∨ (M.testBit u = true ∧ ∃ j : Nat, j ≤ d + 1 ∧ D u = j ∧ (ballN a wi v j).testBit u = true ∧ ∀ i, i < j → (ballN a wi v i).testBit u = false)
  lt : M < 2 ^ n
  q1 : ∀ y ∈ Q1, M.testBit y = true ∧ D y = d
  q2 : ∀ y ∈ Q2, M.testBit y = true ∧ D y = d + 1
  far : ∀ y, M.testBit y = true → D y = d + 1 → y ∈ Q2
  all : ∀ u, (ballN a wi v d).testBit u = true → M.testBit u = true
  done : ∀ y, M.testBit y = true → y ≠ x → y ∉ Q1 → y ∉ Q2 → ∀ u, wi.testBit u = true → (a.getD y 0).testBit u = true → M.testBit u = true
  part : ∀ u ∈ T, wi.testBit u = true → M.testBit u = true
  hx : M.testBit x = true ∧ D x = d
structure DQ (a : List Nat) (wi v n : Nat) (D : Nat → Int) (M d : Nat) (Q1 Q2 : List Nat) : Prop where
  cor : ∀ u, u < n → (D u = -1 ∧ M.testBit u = false) ∨ (M.testBit u = true ∧ ∃ j : Nat, j ≤ d + 1 ∧ D u = j ∧ (ballN a wi v j).testBit u = true ∧ ∀ i, i < j → (ballN a wi v i).testBit u = false)
  lt : M < 2 ^ n
  q1 : ∀ y ∈ Q1, M.testBit y = true ∧ D y = d
  q2 : ∀ y ∈ Q2, M.testBit y = true ∧ D y = d + 1
  far : ∀ y, M.testBit y = true → D y = d + 1 → y ∈ Q2
  all : ∀ u, (ballN a wi v d).testBit u = true → M.testBit u = true
  done : ∀ y, M.testBit y = true → y ∉ Q1 → y ∉ Q2 → ∀ u, wi.testBit u = true → (a.getD y 0).testBit u = true → M.testBit u = true
theorem DQ.start {a : List Nat} {wi v n : Nat} (h : DistI a wi v n) : DQ a wi v n (fun u => if v = u then 0 else -1) (bit v) 0 [v] [] := by
  have hb : ∀ u, (bit v).testBit u = true ↔ v = u := fun u => by rw [testBit_bit]; simp
  refine ⟨fun u hu => ?_, ball_lt h 0, fun y hy => ?_, fun y hy => (by cases hy), fun y hy hd => ?_, fun u hu => hu, fun y hy h1 h2 u hw hu => ?_⟩
  · by_cases e : v = u
    · subst e
      exact .inr ⟨(hb v).2 rfl, 0, by omega, by simp, by simp [ballN, testBit_bit], fun i h => by omega⟩
    · refine .inl ⟨by simp [e], ?_⟩
      rw [testBit_bit]; simpa using e
  · have : y = v := by simpa using hy
    subst this
    exact ⟨(hb y).2 rfl, by simp⟩
  · have := (hb y).1 hy
    subst this
    simp at hd
  · have := (hb y).1 hy
    subst this
    exact absurd (List.mem_singleton.2 rfl) h1
theorem DQ.least {a : List Nat} {wi v n : Nat} {D : Nat → Int} {M d : Nat} {Q1 Q2 : List Nat} (h : DQ a wi v n D M d Q1 Q2) {x e : Nat} (hx : x < n) (hb : (ballN a wi v e).testBit x = true) : ∀ j : Nat, D x = j → j ≤ e := fun j hj => by
  rcases h.cor x hx with ⟨h1, _⟩ | ⟨_, l, _, h2, _, h3⟩
  · omega
  · have : l = j := by omega
    subst this
    apply Nat.le_of_not_lt
    intro hl
    rw [h3 e hl] at hb; cases hb
theorem DQ.shift {a : List Nat} {wi v n : Nat} {D : Nat → Int} {M d : Nat} {Q2 : List Nat} (hI : DistI a wi v n) (h : DQ a wi v n D M d [] Q2) : DQ a wi v n D M (d + 1) Q2 [] := by
  refine ⟨fun u hu => ?_, h.lt, fun y hy => ⟨(h.q2 y hy).1, by rw [(h.q2 y hy).2]; omega⟩, fun y hy => (by cases hy), fun y hy hd => ?_, fun u hu => ?_, fun y hy h1 _ => h.done y hy (by simp) h1⟩
  · rcases h.cor u hu with h1 | ⟨h1, j, h2, h3⟩
    · exact .inl h1
    · exact .inr ⟨h1, j, by omega, h3⟩
  · have hyn := bit_lt_of h.lt hy
    rcases h.cor y hyn with ⟨_, h1⟩ | ⟨_, j, h2, h3, _⟩
    · rw [h1] at hy; cases hy
    · omega
  · rcases (ball_succ hI d u).1 hu with h1 | ⟨hw, x, hx, hb⟩
    · exact h.all u h1
    · have hxn := bit_lt_of (ball_lt hI d) hx
      refine h.done x (h.all x hx) (by simp) (fun hq => ?_) u hw hb
      have := h.least hxn hx (d + 1) (by rw [(h.q2 x hq).2]; omega)
      omega
theorem DQ.norm {a : List Nat} {wi v n : Nat} {D : Nat → Int} {M d : Nat} {Q1 Q2 Q : List Nat} {x : Nat} (hI : DistI a wi v n) (h : DQ a wi v n D M d Q1 Q2) (e : Q1 ++ Q2 = x :: Q) : ∃ d' R1 R2, Q = R1 ++ R2 ∧ DQ a wi v n D M d' (x :: R1) R2 := by
  cases Q1 with
  | cons y R =>
    simp only [List.cons_append, List.cons.injEq] at e
    obtain ⟨rfl, rfl⟩ := e
    exact ⟨d, R, Q2, rfl, h⟩
  | nil =>
    simp only [List.nil_append] at e
    subst e
    exact ⟨d + 1, Q, [], by simp, h.shift hI⟩
theorem DQ.pop {a : List Nat} {wi v n : Nat} {D : Nat → Int} {M d x : Nat} {Q1 Q2 : List Nat} (h : DQ a wi v n D M d (x :: Q1) Q2) : DP a wi v n D M d x [] Q1 Q2 :=
  ⟨h.cor, h.lt, fun y hy => h.q1 y (List.mem_cons_of_mem _ hy), h.q2, h.far, h.all, fun y hy hne h1 h2 => h.done y hy (fun hm => by rcases List.mem_cons.1 hm with h | h; exact hne h; exact h1 h) h2, fun u hu => (by cases hu), h.q1 x (List.mem_cons_self ..)⟩
theorem DP.close {a : List Nat} {wi v n : Nat} {D : Nat → Int} {M d x : Nat} {T Q1 Q2 : List Nat} (h : DP a wi v n D M d x T Q1 Q2) (hT : ∀ u, (a.getD x 0).testBit u = true → u ∈ T) : DQ a wi v n D M d Q1 Q2 :=
  ⟨h.cor, h.lt, h.q1, h.q2, h.far, h.all, fun y hy h1 h2 u hw hu => by
    by_cases e : y = x
    · subst e; exact h.part u (hT u hu) hw
    · exact h.done y hy e h1 h2 u hw hu⟩
theorem DP.skip {a : List Nat} {wi v n : Nat} {D : Nat → Int} {M d x u : Nat} {T Q1 Q2 : List Nat} (h : DP a wi v n D M d x T Q1 Q2) (hu : wi.testBit u = true → M.testBit u = true) : DP a wi v n D M d x (T ++ [u]) Q1 Q2 :=
  ⟨h.cor, h.lt, h.q1, h.q2, h.far, h.all, h.done, fun y hy hw => by
    rw [List.mem_append, List.mem_singleton] at hy
    rcases hy with hy | rfl
    · exact h.part y hy hw
    · exact hu hw, h.hx⟩
theorem DP.neg {a : List Nat} {wi v n : Nat} {D : Nat → Int} {M d x u : Nat} {T Q1 Q2 : List Nat} (h : DP a wi v n D M d x T Q1 Q2) (hu : u < n) : D u < 0 ↔ M.testBit u = false := by
  rcases h.cor u hu with ⟨h1, h2⟩ | ⟨h1, j, _, h2, _⟩
  · rw [h1, h2]; simp
  · rw [h1, h2]; simp
theorem DP.bound {a : List Nat} {wi v n : Nat} {D : Nat → Int} {M d x u : Nat} {T Q1 Q2 : List Nat} (hn : n ≤ 16) (h : DP a wi v n D M d x T Q1 Q2) (hu : u < n) : -1 ≤ D u := by
  rcases h.cor u hu with ⟨h1, _⟩ | ⟨_, j, _, h2, _⟩ <;> omega
theorem DP.add {a : List Nat} {wi v n : Nat} {D : Nat → Int} {M d x u : Nat} {T Q1 Q2 : List Nat} (hI : DistI a wi v n) (h : DP a wi v n D M d x T Q1 Q2) (hu : u < n) (hw : wi.testBit u = true) (hb : (a.getD x 0).testBit u = true) (hM : M.testBit u = false) :
    DP a wi v n (fun y => if u = y then D x + 1 else D y) (M ||| bit u) d x (T ++ [u]) Q1 (Q2 ++ [u]) := by
  have hM' : ∀ y, (M ||| bit u).testBit y = true ↔ M.testBit y = true ∨ u = y := fun y => by rw [Nat.testBit_or, testBit_bit]; simp
  have hne : ∀ y, M.testBit y = true → u ≠ y := fun y hy e => by subst e; rw [hM] at hy; cases hy
  have hxn := bit_lt_of h.lt h.hx.1
  have hDx : D x + 1 = ((d + 1 : Nat) : Int) := by rw [h.hx.2]; omega
  have hbx : (ballN a wi v d).testBit x = true := by
    rcases h.cor x hxn with ⟨h1, _⟩ | ⟨_, j, _, h2, h3, _⟩
    · have := h.hx.2; omega
    · have : j = d := by have := h.hx.2; omega
      subst this; exact h3
  refine ⟨fun y hy => ?_, hI.wide.or_lt h.lt hu, fun y hy => ?_, fun y hy => ?_, fun y hy hd => ?_, fun y hy => (hM' y).2 (.inl (h.all y hy)), fun y hy h1 h2 h3 z hz hbz => ?_, fun y hy hwy => ?_, ?_⟩
  · by_cases e : u = y
    · subst e
      rw [if_pos rfl]
      refine .inr ⟨(hM' u).2 (.inr rfl), d + 1, Nat.le_refl _, hDx, (ball_succ hI d u).2 (.inr ⟨hw, x, hbx, hb⟩), fun i hi => ?_⟩
      cases e2 : (ballN a wi v i).testBit u
      · rfl
      · rw [h.all u (ball_mono hI e2 (show i ≤ d by omega))] at hM; cases hM
    · rw [if_neg e]
      rcases h.cor y hy with ⟨h1, h2⟩ | ⟨h1, h2⟩
      · refine .inl ⟨h1, ?_⟩
        rw [Nat.testBit_or, testBit_bit, h2]; simpa using e
      · exact .inr ⟨(hM' y).2 (.inl h1), h2⟩
  · obtain ⟨h1, h2⟩ := h.q1 y hy
    exact ⟨(hM' y).2 (.inl h1), by rw [if_neg (hne y h1)]; exact h2⟩
  · rw [List.mem_append, List.mem_singleton] at hy
    rcases hy with hy | rfl
    · obtain ⟨h1, h2⟩ := h.q2 y hy
      exact ⟨(hM' y).2 (.inl h1), by rw [if_neg (hne y h1)]; exact h2⟩
    · exact ⟨(hM' y).2 (.inr rfl), by rw [if_pos rfl, hDx]; omega⟩
  · rw [List.mem_append, List.mem_singleton]
    by_cases e : u = y
    · exact .inr e.symm
    · rw [if_neg e] at hd
      rcases (hM' y).1 hy with h1 | h1
      · exact .inl (h.far y h1 hd)
      · exact absurd h1 e
  · rw [List.mem_append, List.mem_singleton, not_or] at h3
    rcases (hM' y).1 hy with h4 | h4
    · exact (hM' z).2 (.inl (h.done y h4 h1 h2 h3.1 z hz hbz))
    · exact absurd h4.symm h3.2
  · rw [List.mem_append, List.mem_singleton] at hy
    rcases hy with hy | rfl
    · exact (hM' y).2 (.inl (h.part y hy hwy))
    · exact (hM' y).2 (.inr rfl)
  · obtain ⟨h1, h2⟩ := h.hx
    exact ⟨(hM' x).2 (.inl h1), by rw [if_neg (hne x h1)]; exact h2⟩
theorem DQ.end_ {a : List Nat} {wi v n : Nat} {D : Nat → Int} {M d : Nat} (hI : DistI a wi v n) (h : DQ a wi v n D M d [] []) : IsDist a wi v n D := by
  have hall : ∀ k u, (ballN a wi v k).testBit u = true → M.testBit u = true := by
    intro k
    induction k with
    | zero => exact fun u hu => h.all u (ball_mono hI hu (Nat.zero_le d))
    | succ k ih =>
      intro u hu
      rcases (ball_succ hI k u).1 hu with h1 | ⟨hw, x, hx, hb⟩
      · exact ih u h1
      · exact h.done x (ih x hx) (by simp) (by simp) u hw hb
  intro u hu
  rcases h.cor u hu with ⟨h1, h2⟩ | ⟨_, j, _, h2⟩
  · refine .inl ⟨h1, fun k => ?_⟩
    cases e : (ballN a wi v k).testBit u
    · rfl
    · rw [hall k u e] at h2; cases h2
  · exact .inr ⟨j, h2⟩
end Go.Proofs.YtdbanndcdbikmaaGreatDoor
