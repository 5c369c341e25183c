/- Loops without chords: plain facts. -/
import Derived.Test.YtpdlcnpmljfclaaDoorLoopL
namespace Go.Proofs.YtpdlcnpmljfclaaDoor
open Go.RowKit
structure ChordN (H : List Nat) (n : Nat) (q : List Nat) : Prop where
  loop : LoopN H n q
  four : 4 ≤ q.length
  no : ∀ i j, i + 1 < j → j < q.length → ¬ (i = 0 ∧ j + 1 = q.length) → (H.getD (q.getD j 0) 0).testBit (q.getD i 0) = false
/-- The program's test of the next vertex. -/
def chFit (H : List Nat) (L : Nat) (p : List Nat) (v : Nat) : Bool :=
  (List.range (p.length - 1)).all (fun i => !(decide (0 < i) && (H.getD v 0).testBit (p.getD i 0))) && ((decide (1 < p.length) && (H.getD v 0).testBit (p.getD 0 0)) == (decide (1 < p.length) && decide (p.length + 1 = L)))
theorem chFit_iff {H : List Nat} {L v : Nat} {p : List Nat} (hp : 0 < p.length) : chFit H L p v = true ↔ (∀ i, 0 < i → i + 1 < p.length → (H.getD v 0).testBit (p.getD i 0) = false) ∧ (1 < p.length → ((H.getD v 0).testBit (p.getD 0 0) = true ↔ p.length + 1 = L)) := by
  unfold chFit
  rw [Bool.and_eq_true, List.all_eq_true]
  constructor
  · rintro ⟨h1, h2⟩
    refine ⟨fun i h0 hi => ?_, fun h1l => ?_⟩
    · have := h1 i (List.mem_range.2 (by omega))
      simpa [h0] using this
    · simp only [h1l, decide_true, Bool.true_and, beq_iff_eq] at h2
      rw [h2, decide_eq_true_eq]
  · rintro ⟨h1, h2⟩
    refine ⟨fun i hi => ?_, ?_⟩
    · have := List.mem_range.1 hi
      by_cases h0 : 0 < i
      · rw [h1 i h0 (by omega)]; simp
      · simp [h0]
    · by_cases h1l : 1 < p.length
      · have := h2 h1l
        simp only [h1l, decide_true, Bool.true_and, beq_iff_eq]
        rw [Bool.eq_iff_iff, this, decide_eq_true_eq]
      · simp [h1l]
theorem take_getD {q : List Nat} {i k : Nat} (h : i < k) : (q.take k).getD i 0 = q.getD i 0 := by simp [List.getD_eq_getElem?_getD, List.getElem?_take, h]
theorem ext_chord {H : List Nat} {far : Nat → Int} {L n v : Nat} {t : List Nat} (hH : ∀ m ∈ H, m < 2 ^ n) (hn : n ≤ 16) (hL : 4 ≤ L) (hv : v < n) (ht : Ext (candN H far L (chFit H L)) (finN H) (L - 1) [v] t) : ChordN H n (v :: t) ∧ (v :: t).length = L := by
  obtain ⟨h1, h2, h3, h4⟩ := ext_path hH hn (PathN.one hv) ht
  have hl : (v :: t).length = L := by simp; omega
  refine ⟨⟨⟨h1, by omega, h2⟩, by omega, fun i j hij hj hno => ?_⟩, hl⟩
  have h5 := h4 (j - 1) (by omega)
  have e1 : [v] ++ t.take (j - 1) = (v :: t).take j := by
    obtain ⟨k, rfl⟩ : ∃ k, j = k + 1 := ⟨j - 1, by omega⟩
    simp
  have e2 : t.getD (j - 1) 0 = (v :: t).getD j 0 := by
    obtain ⟨k, rfl⟩ : ∃ k, j = k + 1 := ⟨j - 1, by omega⟩
    simp
  rw [e1, e2] at h5
  have hlt : ((v :: t).take j).length = j := by rw [List.length_take]; omega
  obtain ⟨h6, h7⟩ := (chFit_iff (by omega)).1 h5
  rw [hlt] at h6 h7
  by_cases h0 : i = 0
  · subst h0
    rw [take_getD (by omega)] at h7
    cases hb : (H.getD ((v :: t).getD j 0) 0).testBit ((v :: t).getD 0 0)
    · rfl
    · have := (h7 (by omega)).1 hb
      exact absurd ⟨rfl, by omega⟩ hno
  · have := h6 i (by omega) hij
    rwa [take_getD (by omega)] at this
theorem chord_ext {H : List Nat} {far : Nat → Int} {n v : Nat} {t : List Nat} (hH : ∀ m ∈ H, m < 2 ^ n) (hn : n ≤ 16) (hs : ∀ x y, x < n → y < n → (H.getD x 0).testBit y = true → (H.getD y 0).testBit x = true) (hq : ChordN H n (v :: t))
    (hfar : ∀ i, 0 < i → i < (v :: t).length → 0 ≤ far ((v :: t).getD i 0) ∧ far ((v :: t).getD i 0) ≤ ((v :: t).length : Int) - i) : Ext (candN H far (v :: t).length (chFit H (v :: t).length)) (finN H) ((v :: t).length - 1) [v] t := by
  have hl : (v :: t).length - 1 = t.length := by simp
  rw [hl]
  have hlt : ∀ i, i < (v :: t).length → (v :: t).getD i 0 < n := fun i hi => hq.loop.path.lt _ (getD_mem hi)
  refine path_ext hH hn (by simp) hq.loop.path hq.loop.cl (fun i hi => ?_) (fun i hi => ?_)
  · have := hfar (i + 1) (by omega) (by simp; omega)
    have e : (v :: t).getD (i + 1) 0 = t.getD i 0 := rfl
    rw [e] at this
    simp only [List.length_cons, List.length_nil] at this ⊢
    exact ⟨this.1, by omega⟩
  · have e1 : [v] ++ t.take i = (v :: t).take (i + 1) := by simp
    have e2 : t.getD i 0 = (v :: t).getD (i + 1) 0 := rfl
    rw [e1, e2]
    have hlk : ((v :: t).take (i + 1)).length = i + 1 := by rw [List.length_take]; simp; omega
    refine (chFit_iff (by omega)).2 ⟨fun k h0 hk => ?_, fun h1 => ?_⟩
    · rw [hlk] at hk
      rw [take_getD (by omega)]
      exact hq.no k (i + 1) hk (by simp; omega) (by omega)
    · rw [hlk] at h1 ⊢
      rw [take_getD (by omega)]
      constructor
      · intro hb
        apply Classical.byContradiction
        intro hc
        have := hq.no 0 (i + 1) (by omega) (by simp; omega) (fun h => hc h.2)
        rw [this] at hb; cases hb
      · intro he
        have hcl := hq.loop.cl
        unfold finN lastN at hcl
        rw [show (v :: t).length - 1 = i + 1 by omega] at hcl
        exact hcl
/-- No loop without chords has a vertex whose neighbours in a set with the loop are all joined. -/
theorem chord_out {H : List Nat} {n v : Nat} {left q : List Nat} (hs : ∀ x y, x < n → y < n → (H.getD x 0).testBit y = true → (H.getD y 0).testBit x = true) (hq : ChordN H n q) (hin : ∀ x ∈ q, x ∈ left)
    (hv : ∀ x y, x ∈ left → y ∈ left → x ≠ y → (H.getD v 0).testBit x = true → (H.getD v 0).testBit y = true → (H.getD x 0).testBit y = true) : v ∉ q := by
  intro hm
  obtain ⟨i, hi, rfl⟩ := List.getElem_of_mem hm
  have e : q[i] = q.getD i 0 := by simp [hi]
  rw [e] at hv
  have h4 := hq.four
  have hlt : ∀ i, i < q.length → q.getD i 0 < n := fun i hi => hq.loop.path.lt _ (getD_mem hi)
  have hcl := hq.loop.cl
  unfold finN lastN at hcl
  have hkey : ∀ a b, a < b → b < q.length → a + 1 < b → ¬ (a = 0 ∧ b + 1 = q.length) → (H.getD (q.getD i 0) 0).testBit (q.getD a 0) = true → (H.getD (q.getD i 0) 0).testBit (q.getD b 0) = true → False := fun a b hab hb hab2 hno ha hb2 => by
    have h1 := hv _ _ (hin _ (getD_mem hb)) (hin _ (getD_mem (show a < q.length by omega))) (fun e2 => by have := nodup_getD hq.loop.path.nd hb (by omega) e2; omega) hb2 ha
    rw [hq.no a b hab2 hb hno] at h1; cases h1
  by_cases e0 : i = 0
  · subst e0
    exact hkey 1 (q.length - 1) (by omega) (by omega) (by omega) (by omega) (hq.loop.path.ch 0 (by omega)) (hs _ _ (hlt _ (by omega)) (hlt _ hi) hcl)
  · have hprev := hq.loop.path.ch (i - 1) (by omega)
    rw [show i - 1 + 1 = i by omega] at hprev
    have hprev := hs _ _ (hlt _ (by omega)) (hlt _ hi) hprev
    by_cases e1 : i + 1 = q.length
    · have hcl2 : (H.getD (q.getD i 0) 0).testBit (q.getD 0 0) = true := by rw [show i = q.length - 1 by omega]; exact hcl
      exact hkey 0 (i - 1) (by omega) (by omega) (by omega) (by omega) hcl2 hprev
    · exact hkey (i - 1) (i + 1) (by omega) (by omega) (by omega) (by omega) hprev (hq.loop.path.ch i (by omega))
/-- Loops without chords that begin with their least vertex and go on from a path. -/
def CandC (H : List Nat) (n : Nat) (p q : List Nat) : Prop := ChordN H n q ∧ (∀ x ∈ q, q.getD 0 0 ≤ x) ∧ p.length < q.length ∧ q.take p.length = p
/-- Paths of the reference's search: no chords, the first one least. -/
structure SrchP (H : List Nat) (n : Nat) (p : List Nat) : Prop where
  path : PathN H n p
  min : ∀ x ∈ p, p.getD 0 0 ≤ x
  no : ∀ i j, i + 1 < j → j < p.length → (H.getD (p.getD j 0) 0).testBit (p.getD i 0) = false
/-- What the search answers. -/
structure SrchR (H : List Nat) (n : Nat) (C : List Nat → Prop) (best r : List Nat) : Prop where
  ok : r = [] ∨ ChordN H n r
  le : best ≠ [] → r ≠ [] ∧ leN r best
  all : ∀ q, C q → r ≠ [] ∧ leN r q
  from_ : r = best ∨ r ≠ []
theorem SrchR.refl {H : List Nat} {n : Nat} {best : List Nat} (h : best = [] ∨ ChordN H n best) {C : List Nat → Prop} (hC : ∀ q, ¬ C q) : SrchR H n C best best := ⟨h, fun h => ⟨h, leN_refl _⟩, fun q hq => absurd hq (hC q), .inl rfl⟩
theorem SrchR.trans {H : List Nat} {n : Nat} {C C' : List Nat → Prop} {a b c : List Nat} (h : SrchR H n C a b) (k : SrchR H n C' b c) : SrchR H n (fun q => C q ∨ C' q) a c :=
  ⟨k.ok, fun ha => ⟨(k.le (h.le ha).1).1, leN_trans (k.le (h.le ha).1).2 (h.le ha).2⟩, fun q hq => by
    rcases hq with hq | hq
    · exact ⟨(k.le (h.all q hq).1).1, leN_trans (k.le (h.all q hq).1).2 (h.all q hq).2⟩
    · exact k.all q hq, by
    by_cases hc : c = []
    · left
      have hb : b = [] := Classical.byContradiction fun hb => (k.le hb).1 hc
      have ha : a = [] := Classical.byContradiction fun ha => (h.le ha).1 hb
      rw [ha, hc]
    · exact .inr hc⟩
theorem SrchR.sub {H : List Nat} {n : Nat} {C C' : List Nat → Prop} {a b : List Nat} (h : SrchR H n C a b) (hs : ∀ q, C' q → C q) : SrchR H n C' a b := ⟨h.ok, h.le, fun q hq => h.all q (hs q hq), h.from_⟩
theorem srch_bound {H : List Nat} {n : Nat} {p best : List Nat} (hb : ChordN H n best) (hl : best.length ≤ p.length) : SrchR H n (CandC H n p) best best :=
  ⟨.inr hb, fun h => ⟨h, leN_refl _⟩, fun q hq => ⟨fun e => by have := hb.four; rw [e] at this; simp at this, .inl (by have := hq.2.2.1; omega)⟩, .inl rfl⟩
theorem srch_loop {H : List Nat} {n : Nat} {best l : List Nat} (hb : best = [] ∨ ChordN H n best) (hl : ChordN H n l) {C : List Nat → Prop} (hC : ∀ q, C q → q = l) : SrchR H n C best (if best = [] ∨ lessN l best = true then l else best) := by
  have hl0 : l ≠ [] := fun e => by have := hl.four; rw [e] at this; simp at this
  by_cases h : best = [] ∨ lessN l best = true
  · rw [if_pos h]
    refine ⟨.inr hl, fun hb0 => ⟨hl0, ?_⟩, fun q hq => ⟨hl0, by rw [hC q hq]; exact leN_refl _⟩, .inr hl0⟩
    rcases h with h | h
    · exact absurd h hb0
    · exact less_yes h
  · rw [if_neg h]
    have h1 : best ≠ [] := fun e => h (.inl e)
    have h2 : lessN l best = false := by
      cases hb : lessN l best
      · rfl
      · exact absurd (.inr hb) h
    exact ⟨hb, fun h => ⟨h, leN_refl _⟩, fun q hq => ⟨h1, by rw [hC q hq]; exact less_no h2⟩, .inl rfl⟩
/-- How many of a list are neighbours. -/
def nearN (H : List Nat) (p : List Nat) (v : Nat) : Nat := (p.filter fun x => (H.getD x 0).testBit v).length
/-- What goes on with v. -/
def StepC (H : List Nat) (n : Nat) (p : List Nat) (v : Nat) (q : List Nat) : Prop := CandC H n p q ∧ q.getD p.length 0 = v
theorem cand_step {H : List Nat} {n : Nat} {p q : List Nat} (hp : 0 < p.length) (h : CandC H n p q) : StepC H n p (q.getD p.length 0) q ∧ (H.getD (lastN p) 0).testBit (q.getD p.length 0) = true ∧ q.getD p.length 0 < n := by
  refine ⟨⟨h, rfl⟩, ?_, h.1.loop.path.lt _ (getD_mem h.2.2.1)⟩
  have := h.1.loop.path.ch (p.length - 1) (by have := h.2.2.1; omega)
  rw [show p.length - 1 + 1 = p.length by omega] at this
  unfold lastN
  have e : q.getD (p.length - 1) 0 = p.getD (p.length - 1) 0 := by
    have e0 : (q.take p.length).getD (p.length - 1) 0 = p.getD (p.length - 1) 0 := congrArg (fun l : List Nat => l.getD (p.length - 1) 0) h.2.2.2
    rw [take_getD (by omega)] at e0
    exact e0
  rw [← e]; exact this
theorem cand_get {H : List Nat} {n i : Nat} {p q : List Nat} (h : CandC H n p q) (hi : i < p.length) : q.getD i 0 = p.getD i 0 := by
  have e0 : (q.take p.length).getD i 0 = p.getD i 0 := congrArg (fun l : List Nat => l.getD i 0) h.2.2.2
  rw [take_getD hi] at e0
  exact e0
/-- v is too small, or was met. -/
theorem step_none {H : List Nat} {n v : Nat} {p : List Nat} (hp : 0 < p.length) (h : v ≤ p.getD 0 0 ∨ v ∈ p) : ∀ q, ¬ StepC H n p v q := by
  rintro q ⟨hc, hv⟩
  have hlt := hc.2.2.1
  rcases h with h | h
  · have h1 := hc.2.1 (q.getD p.length 0) (getD_mem hlt)
    rw [cand_get hc hp, hv] at h1
    have : v = p.getD 0 0 := by omega
    have h2 := nodup_getD hc.1.loop.path.nd hlt (show 0 < q.length by omega) (by rw [hv, cand_get hc hp, this])
    omega
  · obtain ⟨i, hi, rfl⟩ := List.getElem_of_mem h
    have e : p[i] = p.getD i 0 := by simp [hi]
    rw [e, ← cand_get hc hi] at hv
    have := nodup_getD hc.1.loop.path.nd hlt (show i < q.length by omega) hv
    omega
theorem near_mem {H : List Nat} {p : List Nat} {v : Nat} (hnd : p.Nodup) {A : List Nat} (hA : A.Nodup) (hs : ∀ x ∈ A, x ∈ p ∧ (H.getD x 0).testBit v = true) : A.length ≤ nearN H p v := nodup_lenA hA fun x hx => List.mem_filter.2 (hs x hx)
theorem near_only {H : List Nat} {p : List Nat} {v : Nat} {A : List Nat} (hA : A.Nodup) (hs : ∀ x ∈ A, x ∈ p ∧ (H.getD x 0).testBit v = true) (hl : nearN H p v = A.length) (hnd : p.Nodup) : ∀ x ∈ p, (H.getD x 0).testBit v = true → x ∈ A := fun x hx hb => by
  apply Classical.byContradiction
  intro hn
  have := near_mem (A := x :: A) hnd (List.nodup_cons.2 ⟨hn, hA⟩) (fun y hy => by
    rcases List.mem_cons.1 hy with rfl | hy
    · exact ⟨hx, hb⟩
    · exact hs y hy)
  simp at this
  omega
theorem last_mem {p : List Nat} (h : 0 < p.length) : lastN p ∈ p := getD_mem (by omega)
/-- One neighbour: the path goes on. -/
theorem step_one {H : List Nat} {n v : Nat} {p : List Nat} (hs : ∀ x y, x < n → y < n → (H.getD x 0).testBit y = true → (H.getD y 0).testBit x = true) (h : SrchP H n p) (hv : v < n) (hb : (H.getD (lastN p) 0).testBit v = true) (h0 : p.getD 0 0 < v) (hn : v ∉ p) (h1 : nearN H p v = 1) :
    SrchP H n (p ++ [v]) ∧ ∀ q, StepC H n p v q → CandC H n (p ++ [v]) q := by
  have hp := h.path.ne
  have honly := near_only (A := [lastN p]) (by simp) (fun x hx => by simp at hx; subst hx; exact ⟨last_mem hp, hb⟩) h1 h.path.nd
  refine ⟨⟨h.path.snoc hv hn hb, fun x hx => ?_, fun i j hij hj => ?_⟩, fun q hq => ?_⟩
  · rw [getD_left hp]
    rcases List.mem_append.1 hx with hx | hx
    · exact h.min x hx
    · simp at hx; omega
  · simp at hj
    by_cases e : j = p.length
    · subst e
      rw [getD_right (Nat.le_refl _), getD_left (by omega)]
      simp only [Nat.sub_self, List.getD_cons_zero]
      cases hbb : (H.getD v 0).testBit (p.getD i 0)
      · rfl
      · have hi : i < p.length := by omega
        have := honly _ (getD_mem hi) (hs _ _ hv (h.path.lt _ (getD_mem hi)) hbb)
        simp only [List.mem_singleton, lastN] at this
        have := nodup_getD h.path.nd hi (by omega) this
        omega
    · rw [getD_left (by omega), getD_left (by omega)]
      exact h.no i j hij (by omega)
  · obtain ⟨hc, hqv⟩ := hq
    have hlt := hc.2.2.1
    refine ⟨hc.1, hc.2.1, ?_, ?_⟩
    · simp
      apply Classical.byContradiction
      intro hno
      have hql : q.length = p.length + 1 := by omega
      have hcl := hc.1.loop.cl
      unfold finN lastN at hcl
      rw [hql, show p.length + 1 - 1 = p.length by omega, hqv, cand_get hc hp] at hcl
      have := honly _ (getD_mem hp) (hs _ _ hv (h.path.lt _ (getD_mem hp)) hcl)
      simp only [List.mem_singleton, lastN] at this
      have := nodup_getD h.path.nd hp (by omega) this
      have := hc.1.four
      omega
    · simp only [List.length_append, List.length_singleton]
      rw [List.take_succ_eq_append_getElem hlt, hc.2.2.2]
      have : q[p.length] = q.getD p.length 0 := by simp [hlt]
      rw [this, hqv]
/-- Two neighbours, the first and the last: a loop, and nothing beyond. -/
theorem step_two {H : List Nat} {n v : Nat} {p : List Nat} (hs : ∀ x y, x < n → y < n → (H.getD x 0).testBit y = true → (H.getD y 0).testBit x = true) (h : SrchP H n p) (hv : v < n) (hb : (H.getD (lastN p) 0).testBit v = true) (h0 : p.getD 0 0 < v) (hn : v ∉ p) (h2 : nearN H p v = 2) (h3 : 3 ≤ p.length) (hf : (H.getD (p.getD 0 0) 0).testBit v = true) :
    ChordN H n (p ++ [v]) ∧ ∀ q, StepC H n p v q → q = p ++ [v] := by
  have hp := h.path.ne
  have hne : p.getD 0 0 ≠ lastN p := fun e => by have := nodup_getD h.path.nd hp (show p.length - 1 < p.length by omega) e; omega
  have honly := near_only (A := [p.getD 0 0, lastN p]) (List.nodup_cons.2 ⟨by rw [List.mem_singleton]; exact hne, by simp⟩) (fun x hx => by
    rw [List.mem_cons, List.mem_singleton] at hx
    rcases hx with rfl | rfl
    · exact ⟨getD_mem hp, hf⟩
    · exact ⟨last_mem hp, hb⟩) h2 h.path.nd
  have hfn := h.path.lt _ (getD_mem hp)
  refine ⟨⟨⟨h.path.snoc hv hn hb, by simp; omega, ?_⟩, by simp; omega, fun i j hij hj hno => ?_⟩, fun q hq => ?_⟩
  · unfold finN
    rw [lastN_snoc, getD_left hp]
    exact hs _ _ hfn hv hf
  · simp at hj hno
    by_cases e : j = p.length
    · subst e
      rw [getD_right (Nat.le_refl _), getD_left (by omega)]
      simp only [Nat.sub_self, List.getD_cons_zero]
      cases hbb : (H.getD v 0).testBit (p.getD i 0)
      · rfl
      · have hi : i < p.length := by omega
        have := honly _ (getD_mem hi) (hs _ _ hv (h.path.lt _ (getD_mem hi)) hbb)
        simp only [List.mem_cons, List.not_mem_nil, or_false] at this
        rcases this with e2 | e2
        · have := nodup_getD h.path.nd hi hp e2
          omega
        · have := nodup_getD h.path.nd hi (show p.length - 1 < p.length by omega) e2
          omega
    · rw [getD_left (by omega), getD_left (by omega)]
      exact h.no i j hij (by omega)
  · obtain ⟨hc, hqv⟩ := hq
    have hlt := hc.2.2.1
    have hql : q.length = p.length + 1 := by
      apply Classical.byContradiction
      intro hno
      have := hc.1.no 0 p.length (by omega) hlt (fun h => hno h.2.symm)
      rw [hqv, cand_get hc hp] at this
      rw [hs _ _ hfn hv hf] at this; cases this
    have e : q.take (p.length + 1) = p ++ [v] := by
      rw [List.take_succ_eq_append_getElem hlt, hc.2.2.2]
      have : q[p.length] = q.getD p.length 0 := by simp [hlt]
      rw [this, hqv]
    rw [← e, ← hql, List.take_length]
/-- Else there is a chord. -/
theorem step_more {H : List Nat} {n v : Nat} {p : List Nat} (hs : ∀ x y, x < n → y < n → (H.getD x 0).testBit y = true → (H.getD y 0).testBit x = true) (h : SrchP H n p) (hv : v < n) (h1 : nearN H p v ≠ 1) (h2 : ¬ (nearN H p v = 2 ∧ 3 ≤ p.length ∧ (H.getD (p.getD 0 0) 0).testBit v = true)) : ∀ q, ¬ StepC H n p v q := by
  rintro q hq
  have hp := h.path.ne
  obtain ⟨hc, hqv⟩ := hq
  have hlt := hc.2.2.1
  have hst := (cand_step hp hc).2.1
  rw [hqv] at hst
  -- neighbours of v on the path: the last, and the first at most
  have hsub : ∀ x ∈ p, (H.getD x 0).testBit v = true → x = lastN p ∨ (x = p.getD 0 0 ∧ q.length = p.length + 1) := fun x hx hb => by
    obtain ⟨i, hi, rfl⟩ := List.getElem_of_mem hx
    have e : p[i] = p.getD i 0 := by simp [hi]
    rw [e] at hb ⊢
    by_cases e1 : i + 1 = p.length
    · left; unfold lastN; rw [show p.length - 1 = i by omega]
    · by_cases e2 : i = 0 ∧ p.length + 1 = q.length
      · right; rw [e2.1]; exact ⟨rfl, e2.2.symm⟩
      · have := hc.1.no i p.length (by omega) hlt e2
        rw [hqv, cand_get hc hi, hs _ _ (h.path.lt _ (getD_mem hi)) hv hb] at this
        cases this
  by_cases hcase : q.length = p.length + 1
  · -- the loop closes with v
    have hcl := hc.1.loop.cl
    unfold finN lastN at hcl
    rw [hcase, show p.length + 1 - 1 = p.length by omega, hqv, cand_get hc hp] at hcl
    have hf := hs _ _ hv (h.path.lt _ (getD_mem hp)) hcl
    have h4 := hc.1.four
    have hne : p.getD 0 0 ≠ lastN p := fun e => by have := nodup_getD h.path.nd hp (show p.length - 1 < p.length by omega) e; omega
    have hle : nearN H p v ≤ 2 := by
      have := nodup_lenA (l := p.filter fun x => (H.getD x 0).testBit v) (E := [lastN p, p.getD 0 0]) (List.Pairwise.filter _ h.path.nd) (fun x hx => by
        have := List.mem_filter.1 hx
        rcases hsub x this.1 this.2 with e | e
        · simp [e]
        · simp [e.1])
      simpa [nearN] using this
    have hge := near_mem (H := H) (p := p) (v := v) (A := [p.getD 0 0, lastN p]) h.path.nd (List.nodup_cons.2 ⟨by rw [List.mem_singleton]; exact hne, by simp⟩) (fun x hx => by
      rw [List.mem_cons, List.mem_singleton] at hx
      rcases hx with rfl | rfl
      · exact ⟨getD_mem hp, hf⟩
      · exact ⟨last_mem hp, hst⟩)
    simp at hge
    exact h2 ⟨by omega, by omega, hf⟩
  · have hle : nearN H p v ≤ 1 := by
      have := nodup_lenA (l := p.filter fun x => (H.getD x 0).testBit v) (E := [lastN p]) (List.Pairwise.filter _ h.path.nd) (fun x hx => by
        have := List.mem_filter.1 hx
        rcases hsub x this.1 this.2 with e | e
        · simp [e]
        · exact absurd e.2 hcase)
      simpa [nearN] using this
    have hge := near_mem (H := H) (p := p) (v := v) (A := [lastN p]) h.path.nd (by simp) (fun x hx => by
      simp at hx; subst hx; exact ⟨last_mem hp, hst⟩)
    simp at hge
    exact h1 (by omega)
theorem ltN_heads : ∀ {p q : List Nat}, 0 < p.length → 0 < q.length → q.getD 0 0 < p.getD 0 0 → ltN p q = false
  | [], _, h, _, _ => by simp at h
  | _ :: _, [], _, h, _ => by simp at h
  | a :: p, b :: q, _, _, h => by
    simp at h
    rw [ltN, if_neg (by omega)]; simp; omega
theorem least_at_ {q : List Nat} (h0 : 0 < q.length) : ∃ k, k < q.length ∧ ∀ j, j < q.length → q.getD k 0 ≤ q.getD j 0 := by
  have : ∀ m, m < q.length → ∃ k, k ≤ m ∧ ∀ j, j ≤ m → q.getD k 0 ≤ q.getD j 0 := by
    intro m
    induction m with
    | zero => intro _; exact ⟨0, Nat.le_refl _, fun j hj => by rw [show j = 0 by omega]; exact Nat.le_refl _⟩
    | succ m ih =>
      intro hm
      obtain ⟨k, hk, hl⟩ := ih (by omega)
      by_cases hlt : q.getD k 0 ≤ q.getD (m + 1) 0
      · exact ⟨k, by omega, fun j hj => by
          by_cases e : j = m + 1
          · rw [e]; exact hlt
          · exact hl j (by omega)⟩
      · exact ⟨m + 1, Nat.le_refl _, fun j hj => by
          by_cases e : j = m + 1
          · rw [e]; exact Nat.le_refl _
          · have := hl j (by omega); omega⟩
  obtain ⟨k, hk, hl⟩ := this (q.length - 1) (by omega)
  exact ⟨k, by omega, fun j hj => hl j (by omega)⟩
/-- A loop without chords turned to begin with its least vertex is no greater. -/
theorem chord_turn {H : List Nat} {n : Nat} (hs : ∀ x y, x < n → y < n → (H.getD x 0).testBit y = true → (H.getD y 0).testBit x = true) {q : List Nat} (hq : ChordN H n q) : ∃ q', ChordN H n q' ∧ (∀ x ∈ q', q'.getD 0 0 ≤ x) ∧ leN q' q := by
  have h4 := hq.four
  obtain ⟨k, hk, hmin⟩ := least_at_ (q := q) (by omega)
  by_cases h0 : k = 0
  · subst h0
    exact ⟨q, hq, fun x hx => by
      obtain ⟨i, hi, rfl⟩ := List.getElem_of_mem hx
      have := hmin i hi
      rwa [show q.getD i 0 = q[i] by simp [hi]] at this, leN_refl q⟩
  have hlt : ∀ i, i < q.length → q.getD i 0 < n := fun i hi => hq.loop.path.lt _ (getD_mem hi)
  have hcl := hq.loop.cl
  unfold finN lastN at hcl
  have hdl : (q.drop k).length = q.length - k := by simp
  have hL : (q.drop k ++ q.take k).length = q.length := by simp; omega
  have hg1 : ∀ i, i < q.length - k → (q.drop k ++ q.take k).getD i 0 = q.getD (k + i) 0 := fun i hi => by
    rw [getD_left (by omega)]
    simp [List.getD_eq_getElem?_getD, List.getElem?_drop]
  have hg2 : ∀ i, q.length - k ≤ i → i < q.length → (q.drop k ++ q.take k).getD i 0 = q.getD (i - (q.length - k)) 0 := fun i hi hi2 => by
    rw [getD_right (by omega), hdl, take_getD (by omega)]
  have hmem : ∀ x, x ∈ q.drop k ++ q.take k → x ∈ q := fun x hx => by
    rcases List.mem_append.1 hx with h | h
    · exact List.mem_of_mem_drop h
    · exact List.mem_of_mem_take h
  have hfst : (q.drop k ++ q.take k).getD 0 0 = q.getD k 0 := hg1 0 (by omega)
  refine ⟨q.drop k ++ q.take k, ⟨⟨⟨by omega, fun x hx => hq.loop.path.lt x (hmem x hx), ?_, fun i hi => ?_⟩, by omega, ?_⟩, by omega, fun i j hij hj hno => ?_⟩, fun x hx => ?_, .inr ⟨hL, ?_⟩⟩
  · have hnd := hq.loop.path.nd
    rw [← List.take_append_drop k q, List.nodup_append] at hnd
    rw [List.nodup_append]
    exact ⟨hnd.2.1, hnd.1, fun a ha b hb e => hnd.2.2 b hb a ha e.symm⟩
  · rw [hL] at hi
    by_cases h1 : i + 1 < q.length - k
    · rw [hg1 i (by omega), hg1 _ h1]
      exact hq.loop.path.ch (k + i) (by omega)
    · by_cases h2 : i + 1 = q.length - k
      · rw [hg1 i (by omega), hg2 _ (by omega) (by omega), show k + i = q.length - 1 by omega, show i + 1 - (q.length - k) = 0 by omega]
        exact hcl
      · rw [hg2 i (by omega) (by omega), hg2 _ (by omega) (by omega)]
        have := hq.loop.path.ch (i - (q.length - k)) (by omega)
        rw [show i + 1 - (q.length - k) = i - (q.length - k) + 1 by omega]
        exact this
  · unfold finN lastN
    rw [hL, hfst, hg2 _ (by omega) (by omega)]
    have := hq.loop.path.ch (k - 1) (by omega)
    rw [show k - 1 + 1 = k by omega] at this
    rw [show q.length - 1 - (q.length - k) = k - 1 by omega]
    exact this
  · rw [hL] at hj hno
    have hsw : ∀ a b, a < q.length → b < q.length → (H.getD (q.getD b 0) 0).testBit (q.getD a 0) = false → (H.getD (q.getD a 0) 0).testBit (q.getD b 0) = false := fun a b ha hb h => by
      cases hb2 : (H.getD (q.getD a 0) 0).testBit (q.getD b 0)
      · rfl
      · have := hs _ _ (hlt a ha) (hlt b hb) hb2
        rw [h] at this; cases this
    by_cases h1 : j < q.length - k
    · rw [hg1 i (by omega), hg1 j h1]
      exact hq.no (k + i) (k + j) (by omega) (by omega) (by omega)
    · by_cases h2 : i < q.length - k
      · rw [hg1 i h2, hg2 j (by omega) hj]
        exact hsw _ _ (by omega) (by omega) (hq.no (j - (q.length - k)) (k + i) (by omega) (by omega) (by omega))
      · rw [hg2 i (by omega) (by omega), hg2 j (by omega) hj]
        exact hq.no (i - (q.length - k)) (j - (q.length - k)) (by omega) (by omega) (by omega)
  · rw [hfst]
    obtain ⟨i, hi, rfl⟩ := List.getElem_of_mem (hmem x hx)
    have := hmin i hi
    rwa [show q.getD i 0 = q[i] by simp [hi]] at this
  · have hne : q.getD k 0 ≠ q.getD 0 0 := fun e => h0 (nodup_getD hq.loop.path.nd hk (by omega) e)
    have hle := hmin 0 (by omega)
    exact ltN_heads (by omega) (by omega) (by rw [hfst]; omega)
end Go.Proofs.YtpdlcnpmljfclaaDoor
