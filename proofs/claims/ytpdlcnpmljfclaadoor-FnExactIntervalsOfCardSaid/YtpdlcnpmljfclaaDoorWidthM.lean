/- Widths after sets that are gone: plain facts. -/
import Derived.Test.YtpdlcnpmljfclaaDoorReachM
namespace Go.Proofs.YtpdlcnpmljfclaaDoor
open Go.RowKit
def orN (a : List Nat) (l : List Nat) : Nat := l.foldl (fun s u => s ||| a.getD u 0) 0
theorem orN_snoc (a : List Nat) (l : List Nat) (x : Nat) : orN a (l ++ [x]) = orN a l ||| a.getD x 0 := by simp [orN]
theorem testBit_orF (a : List Nat) : ∀ (l : List Nat) (s i : Nat), (l.foldl (fun s u => s ||| a.getD u 0) s).testBit i = true ↔ s.testBit i = true ∨ ∃ u ∈ l, (a.getD u 0).testBit i = true
  | [], s, i => by simp
  | x :: l, s, i => by
    rw [List.foldl_cons, testBit_orF a l, Nat.testBit_or]
    simp only [Bool.or_eq_true, List.mem_cons, exists_eq_or_imp, or_assoc]
theorem testBit_orN {a : List Nat} {l : List Nat} {i : Nat} : (orN a l).testBit i = true ↔ ∃ u ∈ l, (a.getD u 0).testBit i = true := by
  unfold orN; rw [testBit_orF]; simp
theorem getD_ltN {a : List Nat} {n : Nat} (h : ∀ m ∈ a, m < 2 ^ n) (u : Nat) : a.getD u 0 < 2 ^ n := by
  by_cases hu : u < a.length
  · have : a.getD u 0 = a[u] := by simp [hu]
    rw [this]; exact h _ (List.getElem_mem hu)
  · have : a.getD u 0 = 0 := by rw [List.getD_eq_getElem?_getD, List.getElem?_eq_none (by omega)]; rfl
    rw [this]; exact Nat.two_pow_pos n
theorem orN_lt {a : List Nat} {l : List Nat} {n : Nat} (h : ∀ m ∈ a, m < 2 ^ n) : orN a l < 2 ^ n := by
  apply lt_bits
  intro i hi
  obtain ⟨u, _, hb⟩ := testBit_orN.1 hi
  exact bit_lt_of (getD_ltN h u) hb
/-- What v sees behind those that are gone. -/
noncomputable def behindN (a : List Nat) (gone v : Nat) : Nat := andN (andN (orN a (bitsN (reachN a (gone ||| bit v) v))) gone) (bit v)
/-- What the widths rest on: words of n bits. -/
structure WideI (a : List Nat) (n : Nat) : Prop where
  len : a.length = n
  le : n ≤ 16
  lt : ∀ m ∈ a, m < 2 ^ n
theorem pow16_lt {n : Nat} (h : n ≤ 16) : 2 ^ n < 4294967296 := Nat.lt_of_le_of_lt (Nat.pow_le_pow_right (by omega) h) (by decide)
theorem WideI.lt32 {a : List Nat} {n : Nat} (h : WideI a n) : ∀ m ∈ a, m < 4294967296 := fun m hm => by have := h.lt m hm; have := pow16_lt h.le; omega
theorem WideI.or_lt {a : List Nat} {n gone v : Nat} (h : WideI a n) (hg : gone < 2 ^ n) (hv : v < n) : gone ||| bit v < 2 ^ n := by
  apply lt_bits
  intro i hi
  rw [Nat.testBit_or, Bool.or_eq_true] at hi
  rcases hi with hi | hi
  · exact bit_lt_of hg hi
  · rw [testBit_bit] at hi
    have : v = i := by simpa using hi
    omega
theorem testBit_behindN {a : List Nat} {n gone v : Nat} (h : WideI a n) (hg : gone < 2 ^ n) (hv : v < n) (i : Nat) :
    (behindN a gone v).testBit i = true ↔ (∃ u, (reachN a (gone ||| bit v) v).testBit u = true ∧ (a.getD u 0).testBit i = true) ∧ gone.testBit i = false ∧ v ≠ i := by
  have h16 := h.le
  have hp := pow16_lt h16
  have ho : orN a (bitsN (reachN a (gone ||| bit v) v)) < 4294967296 := Nat.lt_trans (orN_lt h.lt) hp
  have hg32 : gone < 4294967296 := by omega
  unfold behindN
  rw [testBit_andN (Nat.lt_of_le_of_lt (andN_le _ _) ho) (bit_lt (by omega)), testBit_andN ho hg32, testBit_bit]
  simp only [Bool.and_eq_true, Bool.not_eq_true', decide_eq_false_iff_not, testBit_orN, mem_bitsN (reachN_lt _ _ _), and_assoc, ne_eq]
theorem behindN_lt {a : List Nat} {n gone v : Nat} (h : WideI a n) : behindN a gone v < 2 ^ n :=
  Nat.lt_of_le_of_lt (andN_le _ _) (Nat.lt_of_le_of_lt (andN_le _ _) (orN_lt h.lt))
theorem popN_pow {m n : Nat} (hn : n ≤ 32) (hm : m < 2 ^ n) : popN m ≤ n := by
  have h1 : popN m ≤ ((List.range 32).filter fun i => decide (i < n)).length := by
    have h3 : popN m ≤ popN (2 ^ n - 1) := popN_le (Nat.lt_of_lt_of_le hm (Nat.pow_le_pow_right (by omega) hn)) (by have : 2 ^ n ≤ 2 ^ 32 := Nat.pow_le_pow_right (by omega) hn; have := Nat.two_pow_pos n; omega) fun i hi => by
      rw [Nat.testBit_two_pow_sub_one]; simpa using bit_lt_of hm hi
    refine Nat.le_trans h3 (Nat.le_of_eq ?_)
    unfold popN bitsN
    congr 1
    apply List.filter_congr
    intro i _
    rw [Nat.testBit_two_pow_sub_one]
  have h2 : ∀ k, ((List.range k).filter fun i => decide (i < n)).length ≤ n := by
    intro k
    induction k with
    | zero => simp
    | succ k ih =>
      rw [List.range_succ, List.filter_append, List.length_append]
      by_cases hk : k < n
      · have h3 : ((List.range k).filter fun i => decide (i < n)).length ≤ k := by
          have := List.length_filter_le (fun i => decide (i < n)) (List.range k); simpa using this
        simp only [List.filter_cons, List.filter_nil, hk, decide_true, if_true, List.length_cons, List.length_nil]; omega
      · simpa [hk] using ih
  exact Nat.le_trans h1 (h2 32)
/-- Those that are not gone. -/
def leftL (n gone : Nat) : List Nat := (List.range n).filter fun v => !gone.testBit v
theorem mem_leftL {n gone v : Nat} : v ∈ leftL n gone ↔ v < n ∧ gone.testBit v = false := by simp [leftL]
theorem leftL_succ (n gone : Nat) : leftL (n + 1) gone = leftL n gone ++ if gone.testBit n = true then [] else [n] := by
  unfold leftL
  rw [List.range_succ, List.filter_append]
  by_cases h : gone.testBit n = true <;> simp [h]
theorem filter_less {p : Nat → Bool} {v : Nat} : ∀ {l : List Nat}, l.Nodup → v ∈ l → p v = true → (l.filter fun x => p x && !decide (v = x)).length + 1 = (l.filter p).length
  | [], _, hm, _ => by cases hm
  | x :: l, hn, hm, hp => by
    obtain ⟨h1, h2⟩ := List.nodup_cons.1 hn
    by_cases e : v = x
    · subst e
      have : (l.filter fun x => p x && !decide (v = x)) = l.filter p := List.filter_congr fun y hy => by
        have : ¬ v = y := fun e => h1 (e ▸ hy)
        simp [this]
      simp [List.filter_cons, hp, this]
    · have hm2 : v ∈ l := by
        rcases List.mem_cons.1 hm with h | h
        · exact absurd h e
        · exact h
      have ih := filter_less h2 hm2 hp
      by_cases hx : p x = true
      · simp only [List.filter_cons, hx, e, decide_false, Bool.not_false, Bool.and_self, if_true, List.length_cons]; omega
      · simp only [List.filter_cons, hx, Bool.false_and, if_false, Bool.false_eq_true]; omega
theorem leftL_next {n gone v : Nat} (hv : v < n) (hg : gone.testBit v = false) : (leftL n (gone ||| bit v)).length + 1 = (leftL n gone).length := by
  unfold leftL
  rw [← filter_less (p := fun v => !gone.testBit v) (v := v) List.nodup_range (List.mem_range.2 hv) (by simp [hg])]
  congr 2
  apply List.filter_congr
  intro x _
  rw [Nat.testBit_or, testBit_bit, Bool.not_or]
noncomputable def widthF (a : List Nat) (n : Nat) : Nat → Nat → Nat
  | 0, _ => 0
  | f + 1, gone => ((leftL n gone).map fun v => max (popN (behindN a gone v)) (widthF a n f (gone ||| bit v))).foldl min 16
/-- The least width of taking away what is not gone. -/
noncomputable def widthN (a : List Nat) (n gone : Nat) : Nat := widthF a n (leftL n gone).length gone
noncomputable def costN (a : List Nat) (n gone v : Nat) : Nat := max (popN (behindN a gone v)) (widthN a n (gone ||| bit v))
theorem widthN_all {a : List Nat} {n gone : Nat} (h : leftL n gone = []) : widthN a n gone = 0 := by unfold widthN; rw [h]; rfl
theorem widthN_step {a : List Nat} {n gone : Nat} (h : leftL n gone ≠ []) : widthN a n gone = ((leftL n gone).map (costN a n gone)).foldl min 16 := by
  obtain ⟨f, hf⟩ : ∃ f, (leftL n gone).length = f + 1 := ⟨(leftL n gone).length - 1, by
    have : (leftL n gone).length ≠ 0 := fun e => h (List.length_eq_zero_iff.1 e)
    omega⟩
  unfold widthN
  rw [hf, widthF]
  congr 1
  apply List.map_congr_left
  intro v hv
  obtain ⟨h1, h2⟩ := mem_leftL.1 hv
  have := leftL_next h1 h2
  unfold costN widthN
  rw [show (leftL n (gone ||| bit v)).length = f by omega]
theorem foldMin_le : ∀ (l : List Nat) (s : Nat), l.foldl min s ≤ s
  | [], s => by simp
  | x :: l, s => Nat.le_trans (foldMin_le l (min s x)) (Nat.min_le_left _ _)
theorem widthN_le (a : List Nat) (n gone : Nat) : widthN a n gone ≤ 16 := by
  by_cases h : leftL n gone = []
  · rw [widthN_all h]; omega
  · rw [widthN_step h]; exact foldMin_le _ _
theorem costN_le {a : List Nat} {n gone v : Nat} (h : WideI a n) : costN a n gone v ≤ 16 := by
  have h16 := h.le
  have := popN_pow (by omega) (behindN_lt (gone := gone) (v := v) h)
  have := widthN_le a n (gone ||| bit v)
  unfold costN; omega
def bestI (l : List Nat) : Int := if l = [] then -1 else (l.foldl min 16 : Nat)
theorem bestI_snoc {l : List Nat} {x : Nat} (hx : x ≤ 16) : bestI (l ++ [x]) = if bestI l < 0 ∨ (x : Int) < bestI l then (x : Int) else bestI l := by
  unfold bestI
  rw [if_neg (by simp), List.foldl_append]
  simp only [List.foldl_cons, List.foldl_nil]
  by_cases h : l = []
  · subst h
    simp only [if_true, List.foldl_nil]
    rw [if_pos (by omega)]; omega
  · rw [if_neg h]
    have := foldMin_le l 16
    split <;> omega
theorem bestI_bound (l : List Nat) : -1 ≤ bestI l ∧ bestI l ≤ 16 := by
  unfold bestI
  have := foldMin_le l 16
  split <;> omega
theorem bestI_width {a : List Nat} {n gone : Nat} : max (bestI ((leftL n gone).map (costN a n gone))) 0 = (widthN a n gone : Int) := by
  by_cases h : leftL n gone = []
  · rw [widthN_all h, h]
    show max (-1 : Int) 0 = ((0 : Nat) : Int)
    decide
  · rw [widthN_step h]
    unfold bestI
    rw [if_neg (by simpa using h)]; omega
theorem leftL_bits {n gone : Nat} (hn : n ≤ 16) (hg : gone < 4294967296) : bitsI (andN (firstN n) gone) = natsI (leftL n gone) := by
  have hf : firstN n < 4294967296 := by have := firstN_lt hn; omega
  have hA : andN (firstN n) gone < 4294967296 := Nat.lt_of_le_of_lt (andN_le _ _) hf
  have hs : (natsI (leftL n gone)).Pairwise (· < ·) := by
    unfold natsI leftL
    rw [List.pairwise_map]
    exact (List.pairwise_lt_range.filter _).imp (fun h => by omega)
  refine sorted_ext (bitsI_sorted _) hs fun x => ?_
  rw [mem_bitsI hA, testBit_andN hf hg]
  unfold natsI
  simp only [List.mem_map, mem_leftL, Bool.and_eq_true, Bool.not_eq_true']
  constructor
  · rintro ⟨h1, h2, h3⟩
    have h4 : firstN n < 2 ^ n := by unfold firstN; have := Nat.two_pow_pos n; omega
    exact ⟨x.toNat, ⟨bit_lt_of h4 h2, h3⟩, by omega⟩
  · rintro ⟨u, ⟨h1, h2⟩, h3⟩
    subst h3
    refine ⟨by omega, ?_, by simpa using h2⟩
    rw [testBit_firstN]; simpa using h1
theorem left_nil {n gone : Nat} (hn : n ≤ 16) (hg : gone < 2 ^ n) : leftL n gone = [] ↔ gone = firstN n := by
  constructor
  · intro h
    apply nat_ext
    intro i
    rw [testBit_firstN]
    by_cases hi : i < n
    · have : ¬ i ∈ leftL n gone := by rw [h]; simp
      rw [mem_leftL] at this
      simp only [hi, true_and, Bool.not_eq_false] at this
      simp [this, hi]
    · cases hb : gone.testBit i
      · simp [hi]
      · exact absurd (bit_lt_of hg hb) hi
  · rintro rfl
    rw [List.eq_nil_iff_forall_not_mem]
    intro v hv
    obtain ⟨h1, h2⟩ := mem_leftL.1 hv
    rw [testBit_firstN] at h2
    simp [h1] at h2
/-- The reference's search: met are the L (as a word M), the first i of which are done; of the next one's row T is done; O are out. -/
structure BJ (a : List Nat) (gone v n : Nat) (L : List Nat) (M i : Nat) (T : List Nat) (O : Nat) : Prop where
  mem : ∀ u, u ∈ L ↔ M.testBit u = true
  pop : L.length = popN M
  lt : M < 2 ^ n
  reach : ReachI a (gone ||| bit v) v M
  done : ∀ x ∈ L.take i, ∀ u, (gone ||| bit v).testBit u = true → (a.getD x 0).testBit u = true → M.testBit u = true
  part : ∀ u ∈ T, (gone ||| bit v).testBit u = true → M.testBit u = true
  out : ∀ u, O.testBit u = true ↔ ((∃ x ∈ L.take i, (a.getD x 0).testBit u = true) ∨ u ∈ T) ∧ gone.testBit u = false ∧ v ≠ u
  ilt : i ≤ L.length
  olt : O < 2 ^ n
theorem BJ.start {a : List Nat} {gone v n : Nat} (h : WideI a n) (hg : gone < 2 ^ n) (hv : v < n) : BJ a gone v n [v] (bit v) 0 [] 0 := by
  have h16 := h.le
  have hw := Nat.lt_trans (h.or_lt hg hv) (pow16_lt h16)
  refine ⟨fun u => ?_, ?_, ?_, ReachI.start hw (by omega), fun x hx => (by simp at hx), fun u hu => (by cases hu), fun u => (by simp), (by simp), Nat.two_pow_pos n⟩
  · rw [testBit_bit]; simp [eq_comm]
  · have : bitsI (bit v) = [(v : Int)] := by
      have hs : [(v : Int)].Pairwise (· < ·) := by simp
      refine sorted_ext (bitsI_sorted _) hs fun x => ?_
      rw [mem_bitsI (bit_lt (by omega)), testBit_bit]
      simp only [decide_eq_true_eq, List.mem_singleton]; omega
    have h2 : popN (bit v) = (bitsI (bit v)).length := by simp [popN, bitsI]
    rw [h2, this]; rfl
  · apply lt_bits
    intro i hi
    rw [testBit_bit] at hi
    have : v = i := by simpa using hi
    omega
theorem BJ.len {a : List Nat} {gone v n : Nat} {L : List Nat} {M i : Nat} {T : List Nat} {O : Nat} (h : BJ a gone v n L M i T O) (hn : n ≤ 16) : L.length ≤ n := by
  rw [h.pop]; exact popN_pow (by omega) h.lt
theorem BJ.end_ {a : List Nat} {gone v n : Nat} {L : List Nat} {M i : Nat} {O : Nat} (hI : WideI a n) (hg : gone < 2 ^ n) (hv : v < n) (h : BJ a gone v n L M i [] O) (hi : L.length ≤ i) : O = behindN a gone v := by
  have h16 := hI.le
  have hw := Nat.lt_trans (hI.or_lt hg hv) (pow16_lt h16)
  have ht : L.take i = L := List.take_of_length_le hi
  have hd := h.done
  have ho := h.out
  rw [ht] at hd ho
  have hM := h.reach.done hw (by omega) (fun x hx u hu hb => hd x ((h.mem x).2 hx) u hu hb)
  apply nat_ext
  intro u
  rw [Bool.eq_iff_iff, ho, testBit_behindN hI hg hv, ← hM]
  constructor
  · rintro ⟨h1 | h1, h2⟩
    · obtain ⟨x, hx, hb⟩ := h1
      exact ⟨⟨x, (h.mem x).1 hx, hb⟩, h2⟩
    · cases h1
  · rintro ⟨⟨x, hx, hb⟩, h2⟩
    exact ⟨.inl ⟨x, (h.mem x).2 hx, hb⟩, h2⟩
theorem BJ.close {a : List Nat} {gone v n : Nat} {L : List Nat} {M i : Nat} {T : List Nat} {O : Nat} (h : BJ a gone v n L M i T O) (hi : i < L.length) (hT : ∀ u, u ∈ T ↔ (a.getD L[i] 0).testBit u = true) : BJ a gone v n L M (i + 1) [] O := by
  have ht : L.take (i + 1) = L.take i ++ [L[i]] := List.take_succ_eq_append_getElem hi
  refine ⟨h.mem, h.pop, h.lt, h.reach, fun x hx u hu hb => ?_, fun u hu => (by cases hu), fun u => ?_, hi, h.olt⟩
  · rw [ht, List.mem_append, List.mem_singleton] at hx
    rcases hx with hx | rfl
    · exact h.done x hx u hu hb
    · exact h.part u ((hT u).2 hb) hu
  · rw [h.out u, ht]
    constructor
    · rintro ⟨h1 | h1, h2⟩
      · obtain ⟨x, hx, hb⟩ := h1
        exact ⟨.inl ⟨x, List.mem_append_left _ hx, hb⟩, h2⟩
      · exact ⟨.inl ⟨_, List.mem_append_right _ (List.mem_singleton.2 rfl), (hT u).1 h1⟩, h2⟩
    · rintro ⟨h1 | h1, h2⟩
      · obtain ⟨x, hx, hb⟩ := h1
        rw [List.mem_append, List.mem_singleton] at hx
        rcases hx with hx | rfl
        · exact ⟨.inl ⟨x, hx, hb⟩, h2⟩
        · exact ⟨.inr ((hT u).2 hb), h2⟩
      · cases h1
/-- u is gone and was met. -/
theorem BJ.met {a : List Nat} {gone v n : Nat} {L : List Nat} {M i : Nat} {T : List Nat} {O u : Nat} (h : BJ a gone v n L M i T O) (hu : gone.testBit u = true) (hM : M.testBit u = true) : BJ a gone v n L M i (T ++ [u]) O := by
  refine ⟨h.mem, h.pop, h.lt, h.reach, h.done, fun x hx hw => ?_, fun x => ?_, h.ilt, h.olt⟩
  · rw [List.mem_append, List.mem_singleton] at hx
    rcases hx with hx | rfl
    · exact h.part x hx hw
    · exact hM
  · rw [h.out x, List.mem_append, List.mem_singleton]
    constructor
    · rintro ⟨h1 | h1, h2⟩
      · exact ⟨.inl h1, h2⟩
      · exact ⟨.inr (.inl h1), h2⟩
    · rintro ⟨h1 | h1 | rfl, h2⟩
      · exact ⟨.inl h1, h2⟩
      · exact ⟨.inr h1, h2⟩
      · rw [hu] at h2; cases h2.1
/-- u is gone and new. -/
theorem BJ.new {a : List Nat} {gone v n : Nat} {L : List Nat} {M i : Nat} {T : List Nat} {O u : Nat} (hI : WideI a n) (hg : gone < 2 ^ n) (hv : v < n) (h : BJ a gone v n L M i T O) (hi : i < L.length) (hu : gone.testBit u = true) (hb : (a.getD L[i] 0).testBit u = true) (hM : M.testBit u = false)
    (hadd : popN (M ||| bit u) = popN M + 1) : BJ a gone v n (L ++ [u]) (M ||| bit u) i (T ++ [u]) O := by
  have h16 := hI.le
  have hw := Nat.lt_trans (hI.or_lt hg hv) (pow16_lt h16)
  have hwu : (gone ||| bit v).testBit u = true := by rw [Nat.testBit_or, hu]; rfl
  have hlt := h.ilt
  have ht : (L ++ [u]).take i = L.take i := by rw [List.take_append_of_le_length (by omega)]
  have hin := fun x (hx : M.testBit x = true) => show (M ||| bit u).testBit x = true by rw [Nat.testBit_or, hx]; rfl
  refine ⟨fun x => ?_, by rw [List.length_append, List.length_singleton, hadd, h.pop], hI.or_lt h.lt (bit_lt_of hg hu), h.reach.step hw (by omega) ((h.mem _).1 (List.getElem_mem hi)) hwu hb, fun x hx y hy hb => ?_, fun x hx hy => ?_, fun x => ?_, by rw [List.length_append]; omega, h.olt⟩
  · rw [List.mem_append, List.mem_singleton, h.mem, Nat.testBit_or, testBit_bit, Bool.or_eq_true, decide_eq_true_eq]
    constructor
    · rintro (h | h); exact .inl h; exact .inr h.symm
    · rintro (h | h); exact .inl h; exact .inr h.symm
  · rw [ht] at hx
    exact hin y (h.done x hx y hy hb)
  · rw [List.mem_append, List.mem_singleton] at hx
    rcases hx with hx | rfl
    · exact hin x (h.part x hx hy)
    · rw [Nat.testBit_or, testBit_bit]; simp
  · rw [ht, h.out x, List.mem_append, List.mem_singleton]
    constructor
    · rintro ⟨h1 | h1, h2⟩
      · exact ⟨.inl h1, h2⟩
      · exact ⟨.inr (.inl h1), h2⟩
    · rintro ⟨h1 | h1 | rfl, h2⟩
      · exact ⟨.inl h1, h2⟩
      · exact ⟨.inr h1, h2⟩
      · rw [hu] at h2; cases h2.1
/-- u is v itself. -/
theorem BJ.self {a : List Nat} {gone v n : Nat} {L : List Nat} {M i : Nat} {T : List Nat} {O : Nat} (h : BJ a gone v n L M i T O) : BJ a gone v n L M i (T ++ [v]) O := by
  refine ⟨h.mem, h.pop, h.lt, h.reach, h.done, fun x hx hw => ?_, fun x => ?_, h.ilt, h.olt⟩
  · rw [List.mem_append, List.mem_singleton] at hx
    rcases hx with hx | rfl
    · exact h.part x hx hw
    · exact h.reach.1
  · rw [h.out x, List.mem_append, List.mem_singleton]
    constructor
    · rintro ⟨h1 | h1, h2⟩
      · exact ⟨.inl h1, h2⟩
      · exact ⟨.inr (.inl h1), h2⟩
    · rintro ⟨h1 | h1 | rfl, h2⟩
      · exact ⟨.inl h1, h2⟩
      · exact ⟨.inr h1, h2⟩
      · exact absurd rfl h2.2
/-- u is not gone: it is out. -/
theorem BJ.put {a : List Nat} {gone v n : Nat} {L : List Nat} {M i : Nat} {T : List Nat} {O u : Nat} (hI : WideI a n) (hu : u < n) (h : BJ a gone v n L M i T O) (hg : gone.testBit u = false) (hne : v ≠ u) : BJ a gone v n L M i (T ++ [u]) (O ||| bit u) := by
  refine ⟨h.mem, h.pop, h.lt, h.reach, h.done, fun x hx hw => ?_, fun x => ?_, h.ilt, hI.or_lt h.olt hu⟩
  · rw [List.mem_append, List.mem_singleton] at hx
    rcases hx with hx | rfl
    · exact h.part x hx hw
    · rw [Nat.testBit_or, hg, testBit_bit] at hw
      simp [hne] at hw
  · rw [Nat.testBit_or, testBit_bit, Bool.or_eq_true, h.out x, List.mem_append, List.mem_singleton, decide_eq_true_eq]
    constructor
    · rintro (⟨h1 | h1, h2⟩ | rfl)
      · exact ⟨.inl h1, h2⟩
      · exact ⟨.inr (.inl h1), h2⟩
      · exact ⟨.inr (.inr rfl), hg, hne⟩
    · rintro ⟨h1 | h1 | rfl, h2⟩
      · exact .inl ⟨.inl h1, h2⟩
      · exact .inl ⟨.inr h1, h2⟩
      · exact .inr rfl
end Go.Proofs.YtpdlcnpmljfclaaDoor
