/- The least module that holds a set, and prime graphs: plain facts. -/
import Derived.Test.YtpdlcnpmljfclaaDoorSets
namespace Go.Proofs.YtpdlcnpmljfclaaDoor
open Go.RowKit

/-- A set that nothing outside of it splits. -/
def IsMod (g : List (List Int)) (M : List Int) : Prop := Rise M g.length ∧ ∀ v ∈ rangeI g.length, splitAtB g M v = false
open Classical in
/-- The least module that holds a set. -/
noncomputable def closL (g : List (List Int)) (s : List Int) : List Int := (rangeI g.length).filter fun x => decide (∀ M, IsMod g M → (∀ y ∈ s, y ∈ M) → x ∈ M)
theorem closL_sorted (g : List (List Int)) (s : List Int) : (closL g s).Pairwise (· < ·) := (rangeI_sorted _).filter _
theorem mem_closL {g : List (List Int)} {s : List Int} {x : Int} : x ∈ closL g s ↔ x ∈ rangeI g.length ∧ ∀ M, IsMod g M → (∀ y ∈ s, y ∈ M) → x ∈ M := by
  simp [closL]
theorem splits_mono {g : List (List Int)} {a M : List Int} {v : Int} (h : ∀ x ∈ a, x ∈ M) (hs : splitsB g a v = true) : splitsB g M v = true := by
  simp only [splitsB, Bool.and_eq_true, decide_eq_true_eq, cntIn_pos, cntIn_lt] at hs ⊢
  obtain ⟨⟨x, hx, hx2⟩, ⟨y, hy, hy2⟩⟩ := hs
  exact ⟨⟨x, h x hx, hx2⟩, ⟨y, h y hy, hy2⟩⟩
/-- What is reached from a set so far. -/
structure Reach (g : List (List Int)) (s out : List Int) : Prop where
  rise : Rise out g.length
  sub : ∀ x ∈ s, x ∈ out
  least : ∀ M, IsMod g M → (∀ y ∈ s, y ∈ M) → ∀ x ∈ out, x ∈ M
theorem Reach.start {g : List (List Int)} {s : List Int} (h : Rise s g.length) : Reach g s s := ⟨h, fun _ h => h, fun _ _ h => h⟩
theorem Reach.step {g : List (List Int)} {s out : List Int} (h : Reach g s out) {more : List Int} (hr : Rise more g.length) (hsub : ∀ x ∈ out, x ∈ more)
    (hm : ∀ x ∈ more, x ∈ out ∨ (x ∈ rangeI g.length ∧ splitAtB g out x = true)) : Reach g s more :=
  ⟨hr, fun x hx => hsub x (h.sub x hx), fun M hM hs x hx => by
    rcases hm x hx with h1 | ⟨h1, h2⟩
    · exact h.least M hM hs x h1
    · apply Classical.byContradiction
      intro hn
      have h3 := hM.2 x h1
      simp only [splitAtB, Bool.and_eq_true] at h2
      have h4 := splits_mono (h.least M hM hs) h2.2
      simp [splitAtB, hn, h4] at h3⟩
theorem Reach.done {g : List (List Int)} {s out : List Int} (h : Reach g s out) (hn : ∀ v ∈ rangeI g.length, splitAtB g out v = false) : out = closL g s := by
  refine sorted_ext (rise_sorted h.rise) (closL_sorted g s) fun x => ?_
  rw [mem_closL]
  constructor
  · intro hx
    have := rise_ge h.rise x hx
    exact ⟨mem_rangeI.2 ⟨this.1, by omega⟩, fun M hM hs => h.least M hM hs x hx⟩
  · rintro ⟨_, h2⟩
    exact h2 out ⟨h.rise, hn⟩ h.sub
theorem splitter_neg {g : List (List Int)} {l s : List Int} (hl : ∀ x ∈ l, 0 ≤ x) : splitterI g l s < 0 ↔ ∀ v ∈ l, splitAtB g s v = false := by
  unfold splitterI
  cases h : l.find? (splitAtB g s) with
  | none => simpa using List.find?_eq_none.1 h
  | some v =>
    have hv := List.mem_of_find?_eq_some h
    have h1 := List.find?_some h
    constructor
    · intro h2; have := hl v hv; simp at h2; omega
    · intro h2; rw [h2 v hv] at h1; cases h1
theorem splitter_pos {g : List (List Int)} {l s : List Int} (h : ¬ splitterI g l s < 0) : splitterI g l s ∈ l ∧ splitAtB g s (splitterI g l s) = true := by
  unfold splitterI at h ⊢
  cases hf : l.find? (splitAtB g s) with
  | none => rw [hf] at h; simp at h
  | some v => exact ⟨List.mem_of_find?_eq_some hf, List.find?_some (p := splitAtB g s) hf⟩
/-- With one more, rising. -/
def intoL (l : List Int) (k : Nat) (x : Int) : List Int := l.take k ++ x :: l.drop k
theorem mem_intoL {l : List Int} {k : Nat} {x y : Int} : y ∈ intoL l k x ↔ y = x ∨ y ∈ l := by
  unfold intoL
  have e : y ∈ l ↔ y ∈ l.take k ++ l.drop k := by rw [List.take_append_drop]
  rw [e]
  simp only [List.mem_append, List.mem_cons]
  constructor
  · rintro (h | h | h) <;> simp [h]
  · rintro (h | h | h) <;> simp [h]
theorem intoL_sorted {l : List Int} {k : Nat} {x : Int} (hs : l.Pairwise (· < ·)) (h1 : ∀ y ∈ l.take k, y < x) (h2 : ∀ y ∈ l.drop k, x < y) : (intoL l k x).Pairwise (· < ·) := by
  unfold intoL
  rw [List.pairwise_append]
  rw [← List.take_append_drop k l, List.pairwise_append] at hs
  refine ⟨hs.1, List.pairwise_cons.2 ⟨h2, hs.2.1⟩, fun a ha b hb => ?_⟩
  rcases List.mem_cons.1 hb with rfl | hb
  · exact h1 a ha
  · exact hs.2.2 a ha b hb
theorem intoL_len (l : List Int) (k : Nat) (x : Int) : (intoL l k x).length = l.length + 1 := by
  have : (intoL l k x).length = (l.take k ++ l.drop k).length + 1 := by unfold intoL; simp only [List.length_append, List.length_cons]; omega
  rw [this, List.take_append_drop]

/-- Is a pair in a module that is not all? -/
noncomputable def badB (g : List (List Int)) (u v : Nat) : Bool := decide ((closL g [(u : Int), v]).length < g.length)
noncomputable def primeB (g : List (List Int)) : Bool := gokB g && decide (4 ≤ g.length) && !((List.range g.length).any fun v => (List.range v).any fun u => badB g u v)
theorem closL_lt {g : List (List Int)} (hg : g.length ≤ 16) (s : List Int) : ∀ x ∈ closL g s, 0 ≤ x ∧ x < 32 := fun x hx => by
  have := mem_rangeI.1 (mem_closL.1 hx).1; omega
theorem maskL_range {n : Nat} (hn : n ≤ 16) : maskL (rangeI n) = firstN n := by
  have h32 : ∀ x ∈ rangeI n, 0 ≤ x ∧ x < 32 := fun x hx => by have := mem_rangeI.1 hx; omega
  apply nat_ext
  intro i
  rw [testBit_maskL (fun v hv => (h32 v hv).1), testBit_firstN, decide_eq_decide, mem_rangeI]
  omega
theorem bad_mask {g : List (List Int)} (hg : g.length ≤ 16) (u v : Nat) : badB g u v = decide (maskL (closL g [(u : Int), v]) ≠ firstN g.length) := by
  unfold badB
  rw [decide_eq_decide]
  constructor
  · intro h e
    rw [← maskL_range hg] at e
    have h1 := bitsI_maskL (closL_sorted g [(u : Int), v]) (closL_lt hg _)
    have h2 := bitsI_maskL (rangeI_sorted g.length) (fun x hx => by have := mem_rangeI.1 hx; omega)
    rw [e, h2] at h1
    rw [← h1, rangeI_len] at h; omega
  · intro h
    have hsub : (closL g [(u : Int), v]).Sublist (rangeI g.length) := List.filter_sublist
    have hle := hsub.length_le
    rw [rangeI_len] at hle
    apply Classical.byContradiction
    intro hn
    have e := hsub.eq_of_length (by rw [rangeI_len]; omega)
    rw [e, maskL_range hg] at h; exact h rfl
theorem maskL_or {a b c : List Int} (ha : ∀ x ∈ a, 0 ≤ x) (hb : ∀ x ∈ b, 0 ≤ x) (hc : ∀ x ∈ c, 0 ≤ x) (h : ∀ x, x ∈ c ↔ x ∈ a ∨ x ∈ b) : maskL a ||| maskL b = maskL c := by
  apply nat_ext
  intro i
  rw [Nat.testBit_or, testBit_maskL ha, testBit_maskL hb, testBit_maskL hc]
  have := h i
  by_cases h1 : (i : Int) ∈ a <;> by_cases h2 : (i : Int) ∈ b <;> simp_all
/-- The union of a set and of what splits it. -/
def moreL (g : List (List Int)) (s : List Int) : List Int := (rangeI g.length).filter fun x => decide (x ∈ s) || splitAtB g s x
theorem more_or {g : List (List Int)} {s : List Int} (hg : GOk g) (hs : Rise s g.length) : maskL s ||| splN (netsL g) (firstN g.length) (maskL s) = maskL (moreL g s) := by
  rw [splN_eq hg hs]
  refine maskL_or (fun x hx => (rise_ge hs x hx).1) (fun x hx => ?_) (fun x hx => ?_) fun x => ?_
  · have := mem_rangeI.1 (List.mem_filter.1 hx).1; omega
  · have := mem_rangeI.1 (List.mem_filter.1 hx).1; omega
  · simp only [moreL, List.mem_filter, Bool.or_eq_true, decide_eq_true_eq]
    constructor
    · rintro ⟨h, h1 | h1⟩
      · exact .inl h1
      · exact .inr ⟨h, h1⟩
    · rintro (h | ⟨h, h1⟩)
      · have := rise_ge hs x h
        exact ⟨mem_rangeI.2 ⟨this.1, by omega⟩, .inl h⟩
      · exact ⟨h, .inr h1⟩
theorem Reach.more {g : List (List Int)} {s out : List Int} (h : Reach g s out) : Reach g s (moreL g out) := by
  refine h.step (sorted_rise ((rangeI_sorted _).filter _) fun x hx => ?_) (fun x hx => ?_) (fun x hx => ?_)
  · have := mem_rangeI.1 (List.mem_filter.1 hx).1; omega
  · have := rise_ge h.rise x hx
    simp only [moreL, List.mem_filter, Bool.or_eq_true, decide_eq_true_eq]
    exact ⟨mem_rangeI.2 ⟨this.1, by omega⟩, .inl hx⟩
  · simp only [moreL, List.mem_filter, Bool.or_eq_true, decide_eq_true_eq] at hx
    rcases hx.2 with h1 | h1
    · exact .inl h1
    · exact .inr ⟨hx.1, h1⟩
theorem more_len {g : List (List Int)} {s : List Int} (hs : Rise s g.length) (h : ¬ ∀ v ∈ rangeI g.length, splitAtB g s v = false) : s.length < (moreL g s).length ∧ (moreL g s).length ≤ g.length := by
  have hle : (moreL g s).length ≤ g.length := by have : (moreL g s).length ≤ (rangeI g.length).length := List.length_filter_le _ _; rwa [rangeI_len] at this
  refine ⟨?_, hle⟩
  have hsub : s.Sublist (moreL g s) := by
    have e : (moreL g s).filter (fun x => decide (x ∈ s)) = s := sorted_ext (((rangeI_sorted _).filter _).filter _) (rise_sorted hs) fun x => by
      simp only [moreL, List.mem_filter, decide_eq_true_eq, Bool.or_eq_true]
      constructor
      · exact fun h => h.2
      · intro hx; have := rise_ge hs x hx; exact ⟨⟨mem_rangeI.2 ⟨this.1, by omega⟩, .inl hx⟩, hx⟩
    have := List.filter_sublist (l := moreL g s) (p := fun x => decide (x ∈ s))
    rwa [e] at this
  have h1 := hsub.length_le
  apply Classical.byContradiction
  intro hn
  have e := hsub.eq_of_length (by omega)
  apply h
  intro v hv
  by_cases hb : splitAtB g s v = true
  · have : v ∈ moreL g s := by simp only [moreL, List.mem_filter, Bool.or_eq_true]; exact ⟨hv, .inr hb⟩
    rw [← e] at this
    simp [splitAtB, this]
  · simpa using hb
end Go.Proofs.YtpdlcnpmljfclaaDoor
