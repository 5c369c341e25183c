/- Lines of cliques: plain facts. -/
import Derived.Test.YtpdlcnpmljfclaaDoorPeoM
import Derived.Test.YtpdlcnpmljfclaaDoorSrtM
namespace Go.Proofs.YtpdlcnpmljfclaaDoor
open Go.RowKit
def clqL (f : Nat → Nat → Nat → List Nat) (H : List Nat) (c : Nat) : List Nat → Nat → Nat → List Nat
  | [], _, _ => []
  | v :: t, o, x => f (c ||| bit v) (o &&& H.getD v 0) (x &&& H.getD v 0) ++ clqL f H c t (andN o (bit v)) (x ||| bit v)
/-- The greatest cliques that have all of c, others of o alone, and to which none of x can be put. -/
def clqF (H : List Nat) : Nat → Nat → Nat → Nat → List Nat
  | 0, _, _, _ => []
  | n + 1, c, o, x => if o = 0 then (if x = 0 then [c] else []) else clqL (clqF H n) H c (bitsN o) o x
def clqs (H : List Nat) : List Nat := clqF H 33 0 (firstN H.length) 0
def LtW (x y : Nat) : Prop := cmpL (bitsI x) (bitsI y) < 0
theorem cmpL_pre (p a b : List Int) : cmpL (p ++ a) (p ++ b) = cmpL a b := by
  induction p with
  | nil => rfl
  | cons x p ih => rw [List.cons_append, List.cons_append, cmpL, if_neg (by omega), if_neg (by omega), ih]
theorem or_bitC {p v i : Nat} : (p ||| bit v).testBit i = true ↔ p.testBit i = true ∨ i = v := by
  rw [Nat.testBit_or, testBit_bit, Bool.or_eq_true, decide_eq_true_eq]
  exact ⟨fun h => h.imp_right Eq.symm, fun h => h.imp_right Eq.symm⟩
theorem or_ltC {c v : Nat} (hc : c < 4294967296) (hv : v < 32) : c ||| bit v < 4294967296 := Nat.or_lt_two_pow (n := 32) hc (bit_lt hv)
theorem bits_snocC {c v : Nat} (hc : c < 4294967296) (hv : v < 32) (h : ∀ i, c.testBit i = true → i < v) : bitsI (c ||| bit v) = bitsI c ++ [(v : Int)] := by
  refine sorted_ext (bitsI_sorted _) ?_ fun y => ?_
  · rw [List.pairwise_append]
    refine ⟨bitsI_sorted c, by simp, fun a ha b hb => ?_⟩
    rw [List.mem_singleton] at hb
    subst hb
    have := (mem_bitsI hc).1 ha
    have := h _ this.2
    omega
  · rw [mem_bitsI (or_ltC hc hv), List.mem_append, List.mem_singleton, mem_bitsI hc, or_bitC]
    constructor
    · rintro ⟨h1, h2 | h2⟩
      · exact .inl ⟨h1, h2⟩
      · exact .inr (by omega)
    · rintro (⟨h1, h2⟩ | rfl)
      · exact ⟨h1, .inl h2⟩
      · exact ⟨by omega, .inr (by omega)⟩
theorem bits_tailC {o v : Nat} {t : List Nat} (ho : o < 4294967296) (h : bitsN o = v :: t) : bitsN (andN o (bit v)) = t := by
  have hv : o.testBit v = true := (mem_bitsN ho).1 (by rw [h]; simp)
  have hv32 := bit_lt_of (n := 32) ho hv
  have hs := bitsN_sorted o
  rw [h] at hs
  have e : bitsN (andN o (bit v)) = (bitsN o).filter fun i => !decide (i = v) := by
    unfold bitsN
    rw [List.filter_filter]
    apply List.filter_congr
    intro x _
    rw [testBit_andN ho (bit_lt hv32), testBit_bit, Bool.and_comm]
    congr 2
    rw [decide_eq_decide]
    exact eq_comm
  rw [e, h, List.filter_cons_of_neg (by simp)]
  rw [List.filter_eq_self]
  intro x hx
  have := List.rel_of_pairwise_cons hs hx
  simp; omega
theorem LtW.asym (x y : Nat) (h : LtW x y) : ¬ LtW y x := fun h2 => by
  unfold LtW at h h2
  rw [cmpL_swap] at h2
  omega
theorem and_ltC {o m : Nat} (ho : o < 4294967296) : o &&& m < 4294967296 := Nat.lt_of_le_of_lt Nat.and_le_left ho
theorem clqL_sorted {H : List Nat} {f : Nat → Nat → Nat → List Nat} {c : Nat} (hc : c < 4294967296) (hf : ∀ c o x, c < 4294967296 → o < 4294967296 → (∀ i j, c.testBit i = true → o.testBit j = true → i < j) → (f c o x).Pairwise LtW ∧ ∀ r ∈ f c o x, ∃ s, bitsI r = bitsI c ++ s) (hirr : ∀ v, (H.getD v 0).testBit v = false) :
    ∀ (l : List Nat) (o x : Nat), o < 4294967296 → bitsN o = l → (∀ i j, c.testBit i = true → o.testBit j = true → i < j) → (clqL f H c l o x).Pairwise LtW ∧ ∀ r ∈ clqL f H c l o x, ∃ v ∈ l, ∃ s, bitsI r = bitsI c ++ (v : Int) :: s
  | [], o, x, _, _, _ => ⟨by simp [clqL], fun r hr => by simp [clqL] at hr⟩
  | v :: t, o, x, ho, hl, hb => by
    have hv : o.testBit v = true := (mem_bitsN ho).1 (by rw [hl]; simp)
    have hv32 := bit_lt_of (n := 32) ho hv
    have ht := bits_tailC ho hl
    have hlo : ∀ j, o.testBit j = true → v ≤ j := fun j hj => by
      have hm := (mem_bitsN ho).2 hj
      rw [hl] at hm
      have hs := bitsN_sorted o
      rw [hl] at hs
      rcases List.mem_cons.1 hm with e | hm
      · omega
      · have := List.rel_of_pairwise_cons hs hm; omega
    have hsn := bits_snocC hc hv32 (fun i hi => hb i v hi hv)
    obtain ⟨g1, g2⟩ := hf (c ||| bit v) (o &&& H.getD v 0) (x &&& H.getD v 0) (or_ltC hc hv32) (and_ltC ho) (fun i j hi hj => by
      rw [Nat.testBit_and, Bool.and_eq_true] at hj
      rcases or_bitC.1 hi with hi | rfl
      · exact hb i j hi hj.1
      · have := hlo j hj.1
        refine Nat.lt_of_le_of_ne this fun e => ?_
        subst e
        rw [hirr] at hj; cases hj.2)
    obtain ⟨k1, k2⟩ := clqL_sorted hc hf hirr t (andN o (bit v)) (x ||| bit v) (Nat.lt_of_le_of_lt (andN_le _ _) ho) ht (fun i j hi hj => by
      rw [testBit_andN ho (bit_lt hv32), Bool.and_eq_true] at hj
      exact hb i j hi hj.1)
    rw [clqL]
    have hs := bitsN_sorted o
    rw [hl] at hs
    refine ⟨List.pairwise_append.2 ⟨g1, k1, fun r hr q hq => ?_⟩, fun r hr => ?_⟩
    · obtain ⟨s, e1⟩ := g2 r hr
      obtain ⟨w, hw, s2, e2⟩ := k2 q hq
      have := List.rel_of_pairwise_cons hs hw
      unfold LtW
      rw [e1, e2, hsn, List.append_assoc, cmpL_pre, List.singleton_append, cmpL, if_pos (by omega)]
      omega
    · rcases List.mem_append.1 hr with hr | hr
      · obtain ⟨s, e1⟩ := g2 r hr
        exact ⟨v, by simp, s, by rw [e1, hsn, List.append_assoc]; rfl⟩
      · obtain ⟨w, hw, s, e⟩ := k2 r hr
        exact ⟨w, by simp [hw], s, e⟩
theorem clqF_sorted {H : List Nat} (hirr : ∀ v, (H.getD v 0).testBit v = false) : ∀ (n c o x : Nat), c < 4294967296 → o < 4294967296 → (∀ i j, c.testBit i = true → o.testBit j = true → i < j) → (clqF H n c o x).Pairwise LtW ∧ ∀ r ∈ clqF H n c o x, ∃ s, bitsI r = bitsI c ++ s
  | 0, c, o, x, _, _, _ => ⟨by simp [clqF], fun r hr => by simp [clqF] at hr⟩
  | n + 1, c, o, x, hc, ho, hb => by
    rw [clqF]
    split
    · split
      · exact ⟨by simp, fun r hr => by rw [List.mem_singleton] at hr; subst hr; exact ⟨[], by simp⟩⟩
      · exact ⟨by simp, fun r hr => by simp at hr⟩
    · obtain ⟨h1, h2⟩ := clqL_sorted hc (clqF_sorted hirr n) hirr (bitsN o) o x ho rfl hb
      exact ⟨h1, fun r hr => by obtain ⟨v, _, s, e⟩ := h2 r hr; exact ⟨_, e⟩⟩
/-- A greatest clique of the first k. -/
structure MaxC (H : List Nat) (k r : Nat) : Prop where
  cl : CliqN H r
  lt : ∀ i, r.testBit i = true → i < k
  max : ∀ v, v < k → (∀ u, r.testBit u = true → (H.getD u 0).testBit v = true) → False
structure CXI (H : List Nat) (k c o x : Nat) : Prop where
  cl : CliqN H c
  clt : ∀ i, c.testBit i = true → i < k
  olt : ∀ i, o.testBit i = true → i < k
  xlt : ∀ i, x.testBit i = true → i < k
  all : ∀ v, v < k → (o.testBit v = true ∨ x.testBit v = true ↔ ∀ u, c.testBit u = true → (H.getD u 0).testBit v = true)
theorem CXI.go {H : List Nat} {k c o x v : Nat} (h : CXI H k c o x) (hs : ∀ x y, (H.getD x 0).testBit y = true → (H.getD y 0).testBit x = true) (hv : o.testBit v = true) : CXI H k (c ||| bit v) (o &&& H.getD v 0) (x &&& H.getD v 0) := by
  have hvk := h.olt v hv
  have hvc := (h.all v hvk).1 (.inl hv)
  refine ⟨fun a b ha hb hne => ?_, fun i hi => ?_, fun i hi => ?_, fun i hi => ?_, fun w hw => ?_⟩
  · rcases or_bitC.1 ha with ha | rfl
    · rcases or_bitC.1 hb with hb | hb
      · exact h.cl a b ha hb hne
      · rw [hb]; exact hvc a ha
    · rcases or_bitC.1 hb with hb | hb
      · exact hs _ _ (hvc b hb)
      · exact absurd hb.symm hne
  · rcases or_bitC.1 hi with hi | rfl
    · exact h.clt i hi
    · exact hvk
  · rw [Nat.testBit_and, Bool.and_eq_true] at hi; exact h.olt i hi.1
  · rw [Nat.testBit_and, Bool.and_eq_true] at hi; exact h.xlt i hi.1
  · rw [Nat.testBit_and, Nat.testBit_and, Bool.and_eq_true, Bool.and_eq_true, ← or_and_right, h.all w hw]
    constructor
    · rintro ⟨h1, h2⟩ u hu
      rcases or_bitC.1 hu with hu | rfl
      · exact h1 u hu
      · exact h2
    · intro h1
      exact ⟨fun u hu => h1 u (or_bitC.2 (.inl hu)), h1 v (or_bitC.2 (.inr rfl))⟩
theorem CXI.next {H : List Nat} {k c o x v : Nat} (h : CXI H k c o x) (ho : o < 4294967296) (hv : o.testBit v = true) : CXI H k c (andN o (bit v)) (x ||| bit v) := by
  have hv32 := bit_lt_of (n := 32) ho hv
  have hb : ∀ i, (andN o (bit v)).testBit i = true ↔ o.testBit i = true ∧ i ≠ v := fun i => by
    rw [testBit_andN ho (bit_lt hv32), testBit_bit, Bool.and_eq_true, Bool.not_eq_true', decide_eq_false_iff_not]
    exact ⟨fun h => ⟨h.1, fun e => h.2 e.symm⟩, fun h => ⟨h.1, fun e => h.2 e.symm⟩⟩
  refine ⟨h.cl, h.clt, fun i hi => h.olt i ((hb i).1 hi).1, fun i hi => ?_, fun w hw => ?_⟩
  · rcases or_bitC.1 hi with hi | rfl
    · exact h.xlt i hi
    · exact h.olt _ hv
  · rw [← h.all w hw, hb, or_bitC]
    constructor
    · rintro (⟨h1, _⟩ | h1 | rfl)
      · exact .inl h1
      · exact .inr h1
      · exact .inl hv
    · rintro (h1 | h1)
      · by_cases e : w = v
        · exact .inr (.inr e)
        · exact .inl ⟨h1, e⟩
      · exact .inr (.inl h1)
theorem clqL_max {H : List Nat} {k : Nat} (hs : ∀ x y, (H.getD x 0).testBit y = true → (H.getD y 0).testBit x = true) {f : Nat → Nat → Nat → List Nat} {c : Nat} (hf : ∀ c o x, CXI H k c o x → o < 4294967296 → ∀ r ∈ f c o x, MaxC H k r) : ∀ (l : List Nat) (o x : Nat), o < 4294967296 → bitsN o = l → CXI H k c o x → ∀ r ∈ clqL f H c l o x, MaxC H k r
  | [], _, _, _, _, _, r, hr => by simp [clqL] at hr
  | v :: t, o, x, ho, hl, hi, r, hr => by
    have hv : o.testBit v = true := (mem_bitsN ho).1 (by rw [hl]; simp)
    rw [clqL] at hr
    rcases List.mem_append.1 hr with hr | hr
    · exact hf _ _ _ (hi.go hs hv) (and_ltC ho) r hr
    · exact clqL_max hs hf t _ _ (Nat.lt_of_le_of_lt (andN_le _ _) ho) (bits_tailC ho hl) (hi.next ho hv) r hr
theorem clqF_max {H : List Nat} {k : Nat} (hs : ∀ x y, (H.getD x 0).testBit y = true → (H.getD y 0).testBit x = true) : ∀ (n c o x : Nat), CXI H k c o x → o < 4294967296 → ∀ r ∈ clqF H n c o x, MaxC H k r
  | 0, _, _, _, _, _, r, hr => by simp [clqF] at hr
  | n + 1, c, o, x, hi, ho, r, hr => by
    rw [clqF] at hr
    split at hr
    case isTrue h0 =>
      split at hr
      case isTrue h1 =>
        rw [List.mem_singleton] at hr
        subst hr
        refine ⟨hi.cl, hi.clt, fun v hv h => ?_⟩
        have := (hi.all v hv).2 h
        rw [h0, h1, Nat.zero_testBit] at this
        rcases this with h | h <;> cases h
      case isFalse => simp at hr
    case isFalse => exact clqL_max hs (clqF_max hs n) (bitsN o) o x ho rfl hi r hr
theorem CXI.start (H : List Nat) : CXI H H.length 0 (firstN H.length) 0 where
  cl := fun x y hx => by rw [Nat.zero_testBit] at hx; cases hx
  clt := fun i hi => by rw [Nat.zero_testBit] at hi; cases hi
  olt := fun i hi => by rw [testBit_firstN, decide_eq_true_eq] at hi; exact hi
  xlt := fun i hi => by rw [Nat.zero_testBit] at hi; cases hi
  all := fun v hv => Iff.intro (fun _ u hu => by rw [Nat.zero_testBit] at hu; cases hu) (fun _ => Or.inl (by rw [testBit_firstN, decide_eq_true_eq]; exact hv))
theorem len_parts (p : Nat → Bool) : ∀ L : List Nat, L.length = (L.filter fun m => p m).length + (L.filter fun m => !p m).length
  | [] => rfl
  | m :: L => by
    have := len_parts p L
    cases hmv : p m
    · rw [List.filter_cons_of_neg (by simp [hmv]), List.filter_cons_of_pos (by simp [hmv])]; simp only [List.length_cons]; omega
    · rw [List.filter_cons_of_pos (by simp [hmv]), List.filter_cons_of_neg (by simp [hmv])]; simp only [List.length_cons]; omega
/-- Along an order of elimination there are no more greatest cliques than vertices. -/
theorem max_count {H : List Nat} {k : Nat} (hk : 0 < k) (hk16 : k ≤ 16) (hH : ∀ v, H.getD v 0 < 4294967296) (hs : ∀ x y, (H.getD x 0).testBit y = true → (H.getD y 0).testBit x = true) :
    ∀ {n left : Nat} {out r : List Nat}, left < 4294967296 → (∀ i, left.testBit i = true → i < k) → popN left ≤ n → peoF H n left out = some r → ∀ L : List Nat, L.Nodup → (∀ m ∈ L, MaxC H k m ∧ ∀ i, m.testBit i = true → left.testBit i = true) → L.length ≤ popN left
  | n, left, out, r, hl, hlk, hp, h, L, hn, hL => by
    by_cases h0 : left = 0
    · have : L = [] := by
        cases L with
        | nil => rfl
        | cons m L =>
          obtain ⟨hm, hsub⟩ := hL m (by simp)
          exact absurd (fun u hu => by have := hsub u hu; rw [h0, Nat.zero_testBit] at this; cases this) (fun h => hm.max 0 hk h)
      rw [this]; simp
    · cases n with
      | zero => exact absurd ((popN_zero hl).1 (by omega)) h0
      | succ n =>
        rw [peoF, if_neg h0] at h
        cases hf : (bitsN left).find? (simpB H left) with
        | none => rw [hf] at h; cases h
        | some v =>
          rw [hf] at h
          have hv := (mem_bitsN hl).1 (List.mem_of_find?_eq_some hf)
          have hsi := List.find?_some hf
          have hv32 := bit_lt_of (n := 32) hl hv
          have hd := pop_drop hl hv
          have hcl : CliqN H (H.getD v 0 &&& left) := (miss_zero (Nat.lt_of_le_of_lt Nat.and_le_right hl) hH (fun x y _ _ => hs x y)).1 (by simpa [simpB] using hsi)
          -- a greatest clique with v is v and its neighbours
          have hone : ∀ m ∈ L, m.testBit v = true → m = (H.getD v 0 &&& left) ||| bit v := fun m hm hmv => by
            obtain ⟨hM, hsub⟩ := hL m hm
            apply nat_ext
            intro i
            rw [Bool.eq_iff_iff, or_bitC, Nat.testBit_and, Bool.and_eq_true]
            constructor
            · intro hi
              by_cases e : i = v
              · exact .inr e
              · exact .inl ⟨hM.cl v i hmv hi (fun e2 => e e2.symm), hsub i hi⟩
            · rintro (⟨h1, h2⟩ | rfl)
              · apply Classical.byContradiction
                intro hno
                have hik := hlk i h2
                refine hM.max i hik fun u hu => ?_
                by_cases e : u = v
                · subst e; exact h1
                · refine hcl u i ?_ ?_ (fun e2 => by subst e2; exact hno hu)
                  · rw [Nat.testBit_and, hM.cl v u hmv hu (fun e2 => e e2.symm), hsub u hu]; rfl
                  · rw [Nat.testBit_and, h1, h2]; rfl
              · exact hmv
          have hrest := max_count hk hk16 hH hs (Nat.lt_of_le_of_lt (andN_le _ _) hl) (fun i hi => hlk i (by rw [testBit_andN hl (bit_lt hv32), Bool.and_eq_true] at hi; exact hi.1)) (by omega) h (L.filter fun m => !m.testBit v) (hn.sublist List.filter_sublist) (fun m hm => by
            rw [List.mem_filter] at hm
            obtain ⟨hM, hsub⟩ := hL m hm.1
            refine ⟨hM, fun i hi => ?_⟩
            rw [testBit_andN hl (bit_lt hv32), hsub i hi, testBit_bit]
            have hne : ¬ v = i := fun e => by subst e; rw [hi] at hm; simp at hm
            simp [hne])
          have hsplit : L.length ≤ (L.filter fun m => !m.testBit v).length + 1 := by
            have h1 : (L.filter fun m => m.testBit v).length ≤ 1 := by
              have hnf := hn.sublist (List.filter_sublist (p := fun m => m.testBit v) (l := L))
              generalize hF : L.filter (fun m => m.testBit v) = F at hnf
              match F, hF, hnf with
              | [], _, _ => simp
              | [_], _, _ => simp
              | p :: q :: r, hF, hnf =>
                have hp := List.mem_filter.1 (show p ∈ L.filter (fun m => m.testBit v) by rw [hF]; simp)
                have hq := List.mem_filter.1 (show q ∈ L.filter (fun m => m.testBit v) by rw [hF]; simp)
                have e := (hone p hp.1 hp.2).trans (hone q hq.1 hq.2).symm
                subst e
                simp at hnf
            have h2 := len_parts (fun m => m.testBit v) L
            omega
          omega
theorem popN_firstN {n : Nat} (h : n ≤ 16) : popN (firstN n) ≤ n := by
  unfold popN bitsN
  rw [show (List.range 32).filter (firstN n).testBit = (List.range 32).filter fun i => decide (i < n) from List.filter_congr fun i _ => testBit_firstN n i]
  have : ∀ k, ((List.range k).filter fun i => decide (i < n)).length ≤ n := by
    intro k
    induction k with
    | zero => simp
    | succ k ih =>
      rw [List.range_succ, List.filter_append, List.length_append]
      by_cases h : k < n
      · have h2 : ((List.range k).filter fun i => decide (i < n)).length ≤ k := Nat.le_trans (List.length_filter_le _ _) (by simp)
        simp [h]; omega
      · simp [h]; omega
  exact this 32
theorem clqs_facts {H : List Nat} (h1 : 0 < H.length) (h16 : H.length ≤ 16) (hH : ∀ v, H.getD v 0 < 4294967296) (hs : ∀ x y, (H.getD x 0).testBit y = true → (H.getD y 0).testBit x = true) (hirr : ∀ v, (H.getD v 0).testBit v = false) :
    (clqs H).Pairwise LtW ∧ (clqs H).Nodup ∧ (∀ r ∈ clqs H, MaxC H H.length r) ∧ (peo H ≠ none → (clqs H).length ≤ H.length) := by
  have hf : firstN H.length < 4294967296 := by have := firstN_lt h16; omega
  have a1 := clqF_sorted hirr 33 0 (firstN H.length) 0 (by omega) hf (fun i j hi => by rw [Nat.zero_testBit] at hi; cases hi)
  have a2 := clqF_max hs 33 0 (firstN H.length) 0 (CXI.start H) hf
  have a3 : (clqs H).Nodup := List.Pairwise.imp (S := fun x y => x ≠ y) (fun {x y} h e => by subst e; exact LtW.asym _ _ h h) a1.1
  refine ⟨a1.1, a3, a2, fun hp => ?_⟩
  obtain ⟨r, hr⟩ := Option.ne_none_iff_exists'.1 hp
  have h := max_count h1 h16 hH hs hf (fun i hi => by rw [testBit_firstN, decide_eq_true_eq] at hi; exact hi) (popN_firstN h16) hr (clqs H) a3 (fun m hm => ⟨a2 m hm, fun i hi => by rw [testBit_firstN, decide_eq_true_eq]; exact (a2 m hm).lt i hi⟩)
  exact Nat.le_trans h (popN_firstN h16)
/-- All that some cliques have. -/
def unionN (cs : List Nat) (s : Nat) : Nat := (bitsN s).foldl (fun m i => m ||| cs.getD i 0) 0
/-- What is in some cliques and in others. -/
def openN (cs : List Nat) (s : Nat) : Nat := unionN cs s &&& unionN cs (andN (firstN cs.length) s)
def fitC (cs : List Nat) (s k : Nat) : Bool := decide (andN (openN cs s) (cs.getD k 0) = 0)
def lineF (cs : List Nat) : Nat → Nat → Option (List Nat)
  | 0, s => if s = firstN cs.length then some [] else none
  | n + 1, s => if s = firstN cs.length then some [] else tryL (fun k => (lineF cs n (s ||| bit k)).map (k :: ·)) ((bitsN (andN (firstN cs.length) s)).filter (fitC cs s))
/-- How to go on behind some cliques, the least way. -/
def lineG (cs : List Nat) (s : Nat) : Option (List Nat) := lineF cs (cs.length - popN s) s
theorem foldl_orC (cs : List Nat) : ∀ (l : List Nat) (m i : Nat), (l.foldl (fun m i => m ||| cs.getD i 0) m).testBit i = true ↔ m.testBit i = true ∨ ∃ k ∈ l, (cs.getD k 0).testBit i = true
  | [], m, i => by simp
  | k :: l, m, i => by
    rw [List.foldl_cons, foldl_orC cs l, Nat.testBit_or, Bool.or_eq_true]
    simp only [List.mem_cons, exists_eq_or_imp, or_assoc]
theorem testBit_unionN {cs : List Nat} {s i : Nat} (hs : s < 4294967296) : (unionN cs s).testBit i = true ↔ ∃ k, s.testBit k = true ∧ (cs.getD k 0).testBit i = true := by
  unfold unionN
  rw [foldl_orC]
  simp only [Nat.zero_testBit, Bool.false_eq_true, false_or, mem_bitsN hs]
theorem unionN_lt {cs : List Nat} {s n : Nat} (h : ∀ k, cs.getD k 0 < 2 ^ n) : unionN cs s < 2 ^ n := by
  unfold unionN
  have : ∀ (l : List Nat) (m : Nat), m < 2 ^ n → l.foldl (fun m i => m ||| cs.getD i 0) m < 2 ^ n := by
    intro l
    induction l with
    | nil => intro m hm; exact hm
    | cons k l ih => intro m hm; exact ih _ (Nat.or_lt_two_pow hm (h k))
  exact this _ _ (Nat.two_pow_pos n)
theorem bit_addC {i k : Nat} (hk : k < bit i) (j : Nat) : (bit i + k).testBit j = true ↔ k.testBit j = true ∨ j = i := by
  have h : bit i + k = k ||| bit i := by
    rw [Nat.add_comm]
    have := Nat.two_pow_add_eq_or_of_lt (b := k) (i := i) hk 1
    rw [Nat.mul_one] at this
    rw [show bit i = 2 ^ i from rfl, Nat.add_comm, this, Nat.or_comm]
  rw [h, or_bitC]
/-- The table doubles. -/
theorem union_pow {cs : List Nat} {i k : Nat} (hi : i < 31) (hk : k < bit i) : unionN cs (bit i + k) = unionN cs k ||| cs.getD i 0 := by
  have hb : bit i < 2147483648 + 1 := by
    have : bit i ≤ bit 31 := Nat.pow_le_pow_right (by omega) (by omega)
    have e : bit 31 = 2147483648 := by decide
    omega
  have hb2 : bit i ≤ 1073741824 := by
    have : bit i ≤ bit 30 := Nat.pow_le_pow_right (by omega) (by omega)
    have e : bit 30 = 1073741824 := by decide
    omega
  apply nat_ext
  intro j
  rw [Bool.eq_iff_iff, testBit_unionN (by omega), Nat.testBit_or, Bool.or_eq_true, testBit_unionN (by omega)]
  simp only [bit_addC hk]
  constructor
  · rintro ⟨a, h1 | rfl, h2⟩
    · exact .inl ⟨a, h1, h2⟩
    · exact .inr h2
  · rintro (⟨a, h1, h2⟩ | h2)
    · exact ⟨a, .inl h1, h2⟩
    · exact ⟨i, .inr rfl, h2⟩
theorem union_zero (cs : List Nat) : unionN cs 0 = 0 := by
  have : bitsN 0 = [] := by
    rw [List.eq_nil_iff_forall_not_mem]
    intro x hx
    have := (mem_bitsN (m := 0) (by omega)).1 hx
    rw [Nat.zero_testBit] at this; cases this
  simp [unionN, this]
theorem leftC {cs : List Nat} {s : Nat} (hm : cs.length ≤ 16) (hs : s < 2 ^ cs.length) (i : Nat) : (andN (firstN cs.length) s).testBit i = true ↔ i < cs.length ∧ s.testBit i = false := by
  have hp := pow_le16 hm
  have hf := firstN_lt hm
  rw [testBit_andN (by omega) (by omega), testBit_firstN, Bool.and_eq_true, Bool.not_eq_true', decide_eq_true_eq]
theorem left_ltC {cs : List Nat} {s : Nat} (hm : cs.length ≤ 16) : andN (firstN cs.length) s < 4294967296 := Nat.lt_of_le_of_lt (andN_le _ _) (by have := firstN_lt hm; omega)
theorem mem_leftC {cs : List Nat} {s : Nat} (hm : cs.length ≤ 16) (hs : s < 2 ^ cs.length) (i : Nat) : i ∈ bitsN (andN (firstN cs.length) s) ↔ i < cs.length ∧ s.testBit i = false := by
  rw [mem_bitsN (left_ltC hm), leftC hm hs]
theorem more_lt {cs : List Nat} {s : Nat} (hs : s < 2 ^ cs.length) {k : Nat} (hk : k < cs.length) : s ||| bit k < 2 ^ cs.length := Nat.or_lt_two_pow hs (Nat.pow_lt_pow_right (by omega) hk)
theorem pop_lt {cs : List Nat} {s : Nat} (hm : cs.length ≤ 16) (hs : s < 2 ^ cs.length) (hne : s ≠ firstN cs.length) : popN s < cs.length := by
  have hp := pow_le16 hm
  have hf := firstN_lt hm
  obtain ⟨i, hi, hsi⟩ : ∃ i, i < cs.length ∧ s.testBit i = false := by
    apply Classical.byContradiction
    intro hno
    apply hne
    apply nat_ext
    intro i
    rw [testBit_firstN]
    by_cases h : i < cs.length
    · cases hc : s.testBit i
      · exact absurd ⟨i, h, hc⟩ hno
      · simp [h]
    · rw [Nat.testBit_lt_two_pow (Nat.lt_of_lt_of_le hs (Nat.pow_le_pow_right (by omega) (by omega)))]; simp [h]
  have h1 := popN_lt (a := s) (b := firstN cs.length) (i := i) (by omega) (fun j hj => by rw [testBit_firstN, decide_eq_true_eq]; exact bit_lt_of hs hj) (by rw [testBit_firstN, decide_eq_true_eq]; exact hi) hsi
  have h2 := popN_firstN hm
  omega
theorem lineG_step {cs : List Nat} {s : Nat} (hm : cs.length ≤ 16) (hs : s < 2 ^ cs.length) (hne : s ≠ firstN cs.length) : lineG cs s = tryL (fun k => (lineG cs (s ||| bit k)).map (k :: ·)) ((bitsN (andN (firstN cs.length) s)).filter (fitC cs s)) := by
  have hp := pow_le16 hm
  have h1 := pop_lt hm hs hne
  obtain ⟨n, hn⟩ : ∃ n, cs.length - popN s = n + 1 := ⟨cs.length - popN s - 1, by omega⟩
  unfold lineG
  rw [hn, lineF, if_neg hne]
  have key : ∀ l : List Nat, (∀ k ∈ l, k < cs.length ∧ s.testBit k = false) → tryL (fun k => (lineF cs n (s ||| bit k)).map (k :: ·)) l = tryL (fun k => (lineF cs (cs.length - popN (s ||| bit k)) (s ||| bit k)).map (k :: ·)) l := by
    intro l
    induction l with
    | nil => intro _; rfl
    | cons k l ih =>
      intro hl
      have hk := hl k (by simp)
      have hpk := popN_add (m := s) (x := k) (by omega) (by omega) hk.2
      rw [tryL, tryL, ih fun x hx => hl x (by simp [hx])]
      rw [show cs.length - popN (s ||| bit k) = n by omega]
  exact key _ fun k hk => (mem_leftC hm hs k).1 (List.mem_filter.1 hk).1
theorem lineG_all (cs : List Nat) : lineG cs (firstN cs.length) = some [] := by
  unfold lineG
  cases h : cs.length - popN (firstN cs.length) <;> rw [lineF, if_pos rfl]
def canB (cs : List Nat) (s : Nat) : Bool := (lineG cs s).isSome
theorem try_isSome {f : Nat → Option (List Nat)} : ∀ {l : List Nat}, (tryL f l).isSome = true ↔ ∃ k ∈ l, (f k).isSome = true
  | [] => by simp [tryL]
  | k :: l => by
    rw [tryL]
    cases h : f k with
    | some q => simp [h]
    | none =>
      simp only [try_isSome (l := l), List.mem_cons, exists_eq_or_imp, h]
      simp
theorem canB_all (cs : List Nat) : canB cs (firstN cs.length) = true := by unfold canB; rw [lineG_all]; rfl
theorem canB_iff {cs : List Nat} {s : Nat} (hm : cs.length ≤ 16) (hs : s < 2 ^ cs.length) (hne : s ≠ firstN cs.length) : canB cs s = true ↔ ∃ k, k < cs.length ∧ s.testBit k = false ∧ fitC cs s k = true ∧ canB cs (s ||| bit k) = true := by
  unfold canB
  rw [lineG_step hm hs hne, try_isSome]
  constructor
  · rintro ⟨k, hk, h⟩
    rw [List.mem_filter, mem_leftC hm hs] at hk
    exact ⟨k, hk.1.1, hk.1.2, hk.2, by simpa using h⟩
  · rintro ⟨k, h1, h2, h3, h4⟩
    exact ⟨k, List.mem_filter.2 ⟨(mem_leftC hm hs k).2 ⟨h1, h2⟩, h3⟩, by simpa using h4⟩
/-- The first that fits, and from which it goes on, is the next one. -/
theorem lineG_next {cs : List Nat} {s k : Nat} {r : List Nat} (hm : cs.length ≤ 16) (hs : s < 2 ^ cs.length) (hne : s ≠ firstN cs.length) (hr : lineG cs s = some r) (hk : k < cs.length) (h1 : s.testBit k = false) (h2 : fitC cs s k = true) (h3 : canB cs (s ||| bit k) = true)
    (hb : ∀ j, j < k → s.testBit j = false → fitC cs s j = true → canB cs (s ||| bit j) = false) : ∃ r', r = k :: r' ∧ lineG cs (s ||| bit k) = some r' := by
  rw [lineG_step hm hs hne] at hr
  have hsrt : ((bitsN (andN (firstN cs.length) s)).filter (fitC cs s)).Pairwise (· < ·) := (bitsN_sorted _).filter _
  obtain ⟨v, hv, h4, h5⟩ := try_some hsrt hr
  rw [List.mem_filter, mem_leftC hm hs] at hv
  have hkm : k ∈ (bitsN (andN (firstN cs.length) s)).filter (fitC cs s) := List.mem_filter.2 ⟨(mem_leftC hm hs k).2 ⟨hk, h1⟩, h2⟩
  have e : v = k := by
    rcases Nat.lt_trichotomy v k with h | h | h
    · have := hb v h hv.1.2 hv.2
      unfold canB at this
      cases hx : lineG cs (s ||| bit v) with
      | none => rw [hx] at h4; cases h4
      | some q => rw [hx] at this; cases this
    · exact h
    · have := h5 k hkm h
      unfold canB at h3
      cases hx : lineG cs (s ||| bit k) with
      | none => rw [hx] at h3; cases h3
      | some q => rw [hx] at this; cases this
  subst e
  cases hx : lineG cs (s ||| bit v) with
  | none => rw [hx] at h4; cases h4
  | some q =>
    rw [hx] at h4
    simp only [Option.map_some, Option.some.injEq] at h4
    exact ⟨q, h4.symm, rfl⟩
theorem try_mem {f : Nat → Option (List Nat)} {q : List Nat} : ∀ {l : List Nat}, tryL f l = some q → ∃ k ∈ l, f k = some q
  | [], h => by cases h
  | k :: l, h => by
    rw [tryL] at h
    split at h
    · rename_i e; exact ⟨k, by simp, by rw [e]; exact h⟩
    · obtain ⟨v, hv, h2⟩ := try_mem h; exact ⟨v, by simp [hv], h2⟩
theorem lineF_facts {cs : List Nat} (hm : cs.length ≤ 16) : ∀ (n s : Nat) (r : List Nat), s < 2 ^ cs.length → lineF cs n s = some r → r.length ≤ n ∧ ∀ k ∈ r, k < cs.length
  | 0, s, r, _, h => by
    rw [lineF] at h
    split at h
    · cases h; exact ⟨by simp, fun k hk => by simp at hk⟩
    · cases h
  | n + 1, s, r, hs, h => by
    rw [lineF] at h
    split at h
    · cases h; exact ⟨by simp, fun k hk => by simp at hk⟩
    · obtain ⟨k, hk, h2⟩ := try_mem h
      rw [List.mem_filter, mem_leftC hm hs] at hk
      cases hx : lineF cs n (s ||| bit k) with
      | none => rw [hx] at h2; cases h2
      | some q =>
        rw [hx] at h2
        simp only [Option.map_some, Option.some.injEq] at h2
        subst h2
        obtain ⟨h3, h4⟩ := lineF_facts hm n _ q (more_lt hs hk.1.1) hx
        exact ⟨by simp; omega, fun j hj => by
          rcases List.mem_cons.1 hj with rfl | hj
          · exact hk.1.1
          · exact h4 j hj⟩
end Go.Proofs.YtpdlcnpmljfclaaDoor
