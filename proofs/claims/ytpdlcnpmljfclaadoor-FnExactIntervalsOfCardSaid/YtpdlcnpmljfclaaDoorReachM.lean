/- What can be reached inside a set: plain facts on words as sets. -/
import Derived.Test.YtpdlcnpmljfclaaDoorPrimeM
namespace Go.Proofs.YtpdlcnpmljfclaaDoor
open Go.RowKit
/-- Closed under steps that stay in wi. -/
def ClosedN (a : List Nat) (wi M : Nat) : Prop := ∀ x, M.testBit x = true → ∀ u, wi.testBit u = true → (a.getD x 0).testBit u = true → M.testBit u = true
def InAll (a : List Nat) (wi v x : Nat) : Prop := ∀ M, ClosedN a wi M → M.testBit v = true → M.testBit x = true
open Classical in
/-- What v reaches inside wi. -/
noncomputable def reachN (a : List Nat) (wi v : Nat) : Nat := maskL ((rangeI 32).filter fun x => decide (InAll a wi v x.toNat))
theorem full32 (i : Nat) (h : i < 32) : (4294967295 : Nat).testBit i = true := by
  have : (4294967295 : Nat) = 2 ^ 32 - 1 := by decide
  rw [this, Nat.testBit_two_pow_sub_one]; simpa using h
theorem full32_ge (i : Nat) (h : ¬ i < 32) : (4294967295 : Nat).testBit i = false := by
  have : (4294967295 : Nat) = 2 ^ 32 - 1 := by decide
  rw [this, Nat.testBit_two_pow_sub_one]; simpa using h
theorem bit_lt_of {m n i : Nat} (hm : m < 2 ^ n) (h : m.testBit i = true) : i < n := by
  apply Nat.lt_of_not_le
  intro hn
  rw [Nat.testBit_lt_two_pow (Nat.lt_of_lt_of_le hm (Nat.pow_le_pow_right (by omega) hn))] at h
  cases h
theorem inAll_lt {a : List Nat} {wi v x : Nat} (hw : wi < 4294967296) (hv : v < 32) (h : InAll a wi v x) : x < 32 := by
  have := h 4294967295 (fun x _ u hu _ => full32 u (bit_lt_of (n := 32) hw hu)) (full32 v hv)
  apply Decidable.byContradiction
  intro h2
  rw [full32_ge x h2] at this; cases this
theorem testBit_reachN {a : List Nat} {wi v : Nat} (hw : wi < 4294967296) (hv : v < 32) (i : Nat) : (reachN a wi v).testBit i = true ↔ InAll a wi v i := by
  unfold reachN
  rw [testBit_maskL (fun x hx => (mem_rangeI.1 (List.mem_filter.1 hx).1).1), decide_eq_true_eq, List.mem_filter, mem_rangeI]
  constructor
  · rintro ⟨-, h⟩; simpa using h
  · intro h
    have := inAll_lt hw hv h
    exact ⟨by omega, by simpa using h⟩
theorem reachN_lt (a : List Nat) (wi v : Nat) : reachN a wi v < 4294967296 := maskL_lt32 fun x hx => by have := mem_rangeI.1 (List.mem_filter.1 hx).1; omega
theorem reach_start {a : List Nat} {wi v : Nat} (hw : wi < 4294967296) (hv : v < 32) : (reachN a wi v).testBit v = true := (testBit_reachN hw hv v).2 fun _ _ h => h
theorem reach_closed {a : List Nat} {wi v : Nat} (hw : wi < 4294967296) (hv : v < 32) : ClosedN a wi (reachN a wi v) := fun x hx u hu hb =>
  (testBit_reachN hw hv u).2 fun M hM hMv => hM x ((testBit_reachN hw hv x).1 hx M hM hMv) u hu hb
theorem reach_least {a : List Nat} {wi v M : Nat} (hw : wi < 4294967296) (hv : v < 32) (hM : ClosedN a wi M) (hMv : M.testBit v = true) {i : Nat} (h : (reachN a wi v).testBit i = true) : M.testBit i = true :=
  (testBit_reachN hw hv i).1 h M hM hMv
/-- Reached so far. -/
def ReachI (a : List Nat) (wi v M : Nat) : Prop := M.testBit v = true ∧ ∀ i, M.testBit i = true → (reachN a wi v).testBit i = true
theorem ReachI.start {a : List Nat} {wi v : Nat} (hw : wi < 4294967296) (hv : v < 32) : ReachI a wi v (bit v) :=
  ⟨by rw [testBit_bit]; simp, fun i hi => by rw [testBit_bit] at hi; have : v = i := by simpa using hi
                                             subst this; exact reach_start hw hv⟩
theorem ReachI.done {a : List Nat} {wi v M : Nat} (hw : wi < 4294967296) (hv : v < 32) (h : ReachI a wi v M) (hc : ClosedN a wi M) : M = reachN a wi v := by
  apply nat_ext
  intro i
  rw [Bool.eq_iff_iff]
  exact ⟨h.2 i, fun hi => reach_least hw hv hc h.1 hi⟩
theorem ReachI.step {a : List Nat} {wi v M x u : Nat} (hw : wi < 4294967296) (hv : v < 32) (h : ReachI a wi v M) (hx : M.testBit x = true) (hu : wi.testBit u = true) (hb : (a.getD x 0).testBit u = true) : ReachI a wi v (M ||| bit u) := by
  refine ⟨by rw [Nat.testBit_or, h.1]; rfl, fun i hi => ?_⟩
  rw [Nat.testBit_or, testBit_bit, Bool.or_eq_true] at hi
  rcases hi with hi | hi
  · exact h.2 i hi
  · have : u = i := by simpa using hi
    subst this
    exact reach_closed hw hv x (h.2 x hx) u hu hb
/-- One round of the program's search: all neighbours of the first k. -/
def growN (a : List Nat) (wi : Nat) (l : List Int) (s : Nat) : Nat := l.foldl (fun m u => m ||| (a.getD u.toNat 0 &&& wi)) s
theorem growN_snoc (a : List Nat) (wi : Nat) (l : List Int) (x : Int) (s : Nat) : growN a wi (l ++ [x]) s = growN a wi l s ||| (a.getD x.toNat 0 &&& wi) := by simp [growN]
theorem growN_take {a : List Nat} {wi s k : Nat} {l : List Int} (hk : k < l.length) : growN a wi (l.take (k + 1)) s = growN a wi (l.take k) s ||| (a.getD (l[k]).toNat 0 &&& wi) := by
  rw [List.take_succ_eq_append_getElem hk, growN_snoc]
theorem testBit_growN (a : List Nat) (wi : Nat) : ∀ (l : List Int) (s i : Nat), (growN a wi l s).testBit i = true ↔ s.testBit i = true ∨ ∃ x ∈ l, (a.getD x.toNat 0).testBit i = true ∧ wi.testBit i = true
  | [], s, i => by simp [growN]
  | x :: l, s, i => by
    have := testBit_growN a wi l (s ||| (a.getD x.toNat 0 &&& wi)) i
    rw [show growN a wi (x :: l) s = growN a wi l (s ||| (a.getD x.toNat 0 &&& wi)) from rfl, this, Nat.testBit_or, Nat.testBit_and]
    simp only [Bool.or_eq_true, Bool.and_eq_true, List.mem_cons, exists_eq_or_imp, or_assoc]
theorem growN_lt {a : List Nat} {wi s : Nat} {l : List Int} {n : Nat} (hs : s < 2 ^ n) (hw : wi < 2 ^ n) : growN a wi l s < 2 ^ n := by
  apply lt_bits
  intro i hi
  rcases (testBit_growN a wi l s i).1 hi with h | ⟨x, _, _, h⟩
  · exact bit_lt_of hs h
  · exact bit_lt_of hw h
theorem grow_le {a : List Nat} {wi s : Nat} {l : List Int} : s ≤ growN a wi l s := by
  apply Nat.le_of_lt_succ
  apply Nat.lt_of_le_of_lt (m := s &&& growN a wi l s)
  · apply Nat.le_of_eq
    apply nat_ext
    intro i
    rw [Nat.testBit_and]
    cases h : s.testBit i
    · rfl
    · rw [(testBit_growN a wi l s i).2 (.inl h)]; rfl
  · exact Nat.lt_succ_of_le Nat.and_le_right
theorem ReachI.grow {a : List Nat} {wi v M : Nat} (hw : wi < 4294967296) (hv : v < 32) (hM : M < 4294967296) (h : ReachI a wi v M) : ReachI a wi v (growN a wi (bitsI M) M) := by
  refine ⟨(testBit_growN _ _ _ _ _).2 (.inl h.1), fun i hi => ?_⟩
  rcases (testBit_growN _ _ _ _ _).1 hi with h1 | ⟨x, hx, h1, h2⟩
  · exact h.2 i h1
  · exact reach_closed hw hv x.toNat (h.2 _ ((mem_bitsI hM).1 hx).2) i h2 h1
theorem grow_done {a : List Nat} {wi M : Nat} (hM : M < 4294967296) (h : growN a wi (bitsI M) M = M) : ClosedN a wi M := fun x hx u hu hb => by
  rw [← h]
  refine (testBit_growN _ _ _ _ _).2 (.inr ⟨(x : Int), (mem_bitsI hM).2 ⟨by omega, by simpa using hx⟩, by simpa using hb, hu⟩)
/-- Steps lead both ways between vertices of wi. -/
def SymN (a : List Nat) (wi : Nat) : Prop := ∀ x y, wi.testBit x = true → wi.testBit y = true → (a.getD x 0).testBit y = true → (a.getD y 0).testBit x = true
theorem reach_sub {a : List Nat} {wi v : Nat} (hw : wi < 4294967296) (hv : wi.testBit v = true) {i : Nat} (h : (reachN a wi v).testBit i = true) : wi.testBit i = true :=
  reach_least hw (bit_lt_of (n := 32) hw hv) (fun _ _ _ hu _ => hu) hv h
/-- Inside what is left of wi behind a closed part nothing else is reached. -/
theorem reach_left {a : List Nat} {wi D v : Nat} (hw : wi < 4294967296) (hD : D < 4294967296) (hs : SymN a wi) (hc : ClosedN a wi D) (hDw : ∀ i, D.testBit i = true → wi.testBit i = true) (hv : (andN wi D).testBit v = true) :
    reachN a (andN wi D) v = reachN a wi v := by
  have hl : andN wi D < 4294967296 := Nat.lt_of_le_of_lt (andN_le _ _) hw
  have hb := fun i => testBit_andN hw hD i
  rw [hb] at hv
  simp only [Bool.and_eq_true, Bool.not_eq_true'] at hv
  have hv32 := bit_lt_of (n := 32) hw hv.1
  have hvl : (andN wi D).testBit v = true := by rw [hb]; simp [hv]
  apply nat_ext
  intro i
  rw [Bool.eq_iff_iff]
  constructor
  · refine reach_least hl hv32 (fun x hx u hu h => ?_) (reach_start hw hv32)
    rw [hb] at hu
    simp only [Bool.and_eq_true] at hu
    exact reach_closed hw hv32 x hx u hu.1 h
  · refine reach_least hw hv32 (fun x hx u hu h => ?_) (reach_start hl hv32)
    have hx2 := reach_sub hl hvl hx
    rw [hb] at hx2
    simp only [Bool.and_eq_true, Bool.not_eq_true'] at hx2
    refine reach_closed hl hv32 x hx u ?_ h
    rw [hb, hu]
    simp only [Bool.true_and, Bool.not_eq_true']
    cases hDu : D.testBit u
    · rfl
    · have := hc u hDu x hx2.1 (hs x u hx2.1 hu h)
      rw [this] at hx2; cases hx2.2
/-- The parts, in the order of their least vertices. -/
noncomputable def partsF (a : List Nat) : Nat → Nat → List Nat
  | 0, _ => []
  | n + 1, wi => if wi = 0 then [] else reachN a wi (Lib.ctz 32 wi) :: partsF a n (andN wi (reachN a wi (Lib.ctz 32 wi)))
noncomputable def partsN (a : List Nat) (wi : Nat) : List Nat := partsF a 33 wi
theorem ctz_bit {m : Nat} (h0 : m ≠ 0) (hm : m < 4294967296) : m.testBit (Lib.ctz 32 m) = true := by
  have := ctz_head h0 hm
  have h2 : (Lib.ctz 32 m : Int) ∈ bitsI m := List.mem_of_mem_head? this
  simpa using ((mem_bitsI hm).1 h2).2
theorem ctz_least {m i : Nat} (h0 : m ≠ 0) (hm : m < 4294967296) (h : m.testBit i = true) : Lib.ctz 32 m ≤ i := by
  have h1 := ctz_head h0 hm
  have h2 : (i : Int) ∈ bitsI m := (mem_bitsI hm).2 ⟨by omega, by simpa using h⟩
  have h3 := bitsI_sorted m
  cases hb : bitsI m with
  | nil => rw [hb] at h2; cases h2
  | cons x l =>
    rw [hb] at h1 h2 h3
    simp only [List.head?_cons, Option.some.injEq] at h1
    rcases List.mem_cons.1 h2 with h4 | h4
    · omega
    · have := List.rel_of_pairwise_cons h3 h4; omega
def popN (m : Nat) : Nat := (bitsN m).length
theorem popN_le {a b : Nat} (ha : a < 4294967296) (hb : b < 4294967296) (h : ∀ i, a.testBit i = true → b.testBit i = true) : popN a ≤ popN b := by
  unfold popN bitsN
  rw [← List.countP_eq_length_filter, ← List.countP_eq_length_filter]
  exact List.countP_mono_left fun x _ hx => h x hx
theorem popN_lt {a b i : Nat} (hb : b < 4294967296) (h : ∀ i, a.testBit i = true → b.testBit i = true) (h1 : b.testBit i = true) (h2 : a.testBit i = false) : popN a < popN b := by
  unfold popN bitsN
  have hs : ((List.range 32).filter a.testBit) = ((List.range 32).filter b.testBit).filter a.testBit := by
    rw [List.filter_filter]
    apply List.filter_congr
    intro x _
    cases hx : a.testBit x
    · rfl
    · rw [h x hx]; rfl
  rw [hs]
  refine Nat.lt_of_le_of_ne (List.length_filter_le _ _) fun e => ?_
  have := List.length_filter_eq_length_iff.1 e i (List.mem_filter.2 ⟨List.mem_range.2 (bit_lt_of (n := 32) hb h1), h1⟩)
  rw [h2] at this; cases this
theorem popN_32 (m : Nat) : popN m ≤ 32 := bitsN_len m
theorem popN_zero {m : Nat} (hm : m < 4294967296) : popN m = 0 ↔ m = 0 := by
  rw [← bitsI_nil hm]
  unfold popN bitsI
  simp
theorem partsF_enough {a : List Nat} : ∀ {n k wi : Nat}, wi < 4294967296 → popN wi < n → popN wi < k → partsF a n wi = partsF a k wi
  | 0, _, _, _, h, _ => by omega
  | _, 0, _, _, _, h => by omega
  | n + 1, k + 1, wi, hw, h1, h2 => by
    rw [partsF, partsF]
    by_cases h0 : wi = 0
    · rw [if_pos h0, if_pos h0]
    · rw [if_neg h0, if_neg h0]
      have hc := ctz_bit h0 hw
      have hr := reachN_lt a wi (Lib.ctz 32 wi)
      have hlt : popN (andN wi (reachN a wi (Lib.ctz 32 wi))) < popN wi := popN_lt hw (fun i hi => by rw [testBit_andN hw hr] at hi; simp only [Bool.and_eq_true] at hi; exact hi.1) hc (by
        rw [testBit_andN hw hr, reach_start hw (bit_lt_of (n := 32) hw hc)]; simp)
      rw [partsF_enough (n := n) (k := k) (Nat.lt_of_le_of_lt (andN_le _ _) hw) (by omega) (by omega)]
theorem partsN_zero (a : List Nat) : partsN a 0 = [] := by rw [partsN, partsF, if_pos rfl]
theorem partsN_step {a : List Nat} {wi : Nat} (hw : wi < 4294967296) (h0 : wi ≠ 0) : partsN a wi = reachN a wi (Lib.ctz 32 wi) :: partsN a (andN wi (reachN a wi (Lib.ctz 32 wi))) := by
  unfold partsN
  rw [partsF, if_neg h0]
  have hc := ctz_bit h0 hw
  have hr := reachN_lt a wi (Lib.ctz 32 wi)
  have hlt : popN (andN wi (reachN a wi (Lib.ctz 32 wi))) < popN wi := popN_lt hw (fun i hi => by rw [testBit_andN hw hr] at hi; simp only [Bool.and_eq_true] at hi; exact hi.1) hc (by
    rw [testBit_andN hw hr, reach_start hw (bit_lt_of (n := 32) hw hc)]; simp)
  have := popN_32 wi
  rw [partsF_enough (n := 32) (k := 33) (Nat.lt_of_le_of_lt (andN_le _ _) hw) (by omega) (by omega)]
theorem andN_andN {a b c : Nat} (ha : a < 4294967296) (hb : b < 4294967296) (hc : c < 4294967296) : andN (andN a b) c = andN a (b ||| c) := by
  apply nat_ext
  intro i
  rw [testBit_andN (Nat.lt_of_le_of_lt (andN_le _ _) ha) hc, testBit_andN ha hb, testBit_andN ha (Nat.or_lt_two_pow (n := 32) hb hc), Nat.testBit_or, Bool.not_or, Bool.and_assoc]
theorem andN_zero_iff {a b : Nat} (ha : a < 4294967296) (hb : b < 4294967296) : andN a b = 0 ↔ ∀ i, a.testBit i = true → b.testBit i = true := by
  constructor
  · intro h i hi
    have := testBit_andN ha hb i
    rw [h, Nat.zero_testBit, hi] at this
    simpa using this.symm
  · intro h
    apply nat_ext
    intro i
    rw [testBit_andN ha hb, Nat.zero_testBit]
    cases hi : a.testBit i
    · rfl
    · rw [h i hi]; rfl
/-- One part alone, said as the program says it. -/
theorem parts_one {a : List Nat} {wi : Nat} (hw : wi < 4294967296) (h0 : wi ≠ 0) : (partsN a wi).length = 1 ↔ reachN a wi (Lib.ctz 32 wi) = wi := by
  have hr := reachN_lt a wi (Lib.ctz 32 wi)
  have hc := ctz_bit h0 hw
  rw [partsN_step hw h0, List.length_cons]
  have hz : andN wi (reachN a wi (Lib.ctz 32 wi)) = 0 ↔ reachN a wi (Lib.ctz 32 wi) = wi := by
    rw [andN_zero_iff hw hr]
    constructor
    · intro h
      apply nat_ext
      intro i
      rw [Bool.eq_iff_iff]
      exact ⟨reach_sub hw hc, h i⟩
    · intro h i hi; rw [h]; exact hi
  rw [← hz]
  constructor
  · intro h
    apply Decidable.byContradiction
    intro h1
    rw [partsN_step (Nat.lt_of_le_of_lt (andN_le _ _) hw) h1] at h
    simp at h
  · intro h; rw [h, partsN_zero]; rfl
/-- The reference's parts so far: done is their union. -/
structure PartsI (a : List Nat) (wi : Nat) (out : List Nat) (D : Nat) : Prop where
  lt : D < 4294967296
  sub : ∀ i, D.testBit i = true → wi.testBit i = true
  closed : ClosedN a wi D
  rest : out ++ partsN a (andN wi D) = partsN a wi
theorem PartsI.start {a : List Nat} {wi : Nat} (hw : wi < 4294967296) : PartsI a wi [] 0 := by
  refine ⟨by omega, (fun i h => by rw [Nat.zero_testBit] at h; cases h), (fun x h => by rw [Nat.zero_testBit] at h; cases h), ?_⟩
  have : andN wi 0 = wi := by
    apply nat_ext; intro i
    rw [testBit_andN hw (by omega), Nat.zero_testBit]; simp
  rw [this]; rfl
theorem PartsI.next {a : List Nat} {wi D v : Nat} {out : List Nat} (hw : wi < 4294967296) (hs : SymN a wi) (h : PartsI a wi out D) (hv : wi.testBit v = true) (hvD : D.testBit v = false) (hl : ∀ i, wi.testBit i = true → i < v → D.testBit i = true) :
    PartsI a wi (out ++ [reachN a wi v]) (D ||| reachN a wi v) := by
  have hr := reachN_lt a wi v
  have hv32 := bit_lt_of (n := 32) hw hv
  have hA : andN wi D < 4294967296 := Nat.lt_of_le_of_lt (andN_le _ _) hw
  have hvA : (andN wi D).testBit v = true := by rw [testBit_andN hw h.lt, hv, hvD]; rfl
  have hA0 : andN wi D ≠ 0 := fun e => by rw [e, Nat.zero_testBit] at hvA; cases hvA
  have hctz : Lib.ctz 32 (andN wi D) = v := by
    refine Nat.le_antisymm (ctz_least hA0 hA hvA) ?_
    apply Nat.le_of_not_lt
    intro hlt
    have hc := ctz_bit hA0 hA
    rw [testBit_andN hw h.lt, Bool.and_eq_true, Bool.not_eq_true'] at hc
    rw [hl _ hc.1 hlt] at hc; cases hc.2
  refine ⟨Nat.or_lt_two_pow (n := 32) h.lt hr, fun i hi => ?_, fun x hx u hu hb => ?_, ?_⟩
  · rw [Nat.testBit_or, Bool.or_eq_true] at hi
    rcases hi with hi | hi
    · exact h.sub i hi
    · exact reach_sub hw hv hi
  · rw [Nat.testBit_or, Bool.or_eq_true] at hx ⊢
    rcases hx with hx | hx
    · exact .inl (h.closed x hx u hu hb)
    · exact .inr (reach_closed hw hv32 x hx u hu hb)
  · rw [← h.rest, partsN_step hA hA0, hctz, reach_left hw h.lt hs h.closed h.sub hvA, andN_andN hw h.lt hr]
    simp
theorem PartsI.done {a : List Nat} {wi D : Nat} {out : List Nat} (hw : wi < 4294967296) (h : PartsI a wi out D) (ha : ∀ i, wi.testBit i = true → D.testBit i = true) : out = partsN a wi := by
  have := h.rest
  rw [(andN_zero_iff hw h.lt).2 ha, partsN_zero, List.append_nil] at this
  exact this
theorem partsF_lt {a : List Nat} : ∀ {n wi x : Nat}, x ∈ partsF a n wi → x < 4294967296
  | 0, _, _, h => by simp [partsF] at h
  | n + 1, wi, x, h => by
    rw [partsF] at h
    split at h
    · cases h
    · rcases List.mem_cons.1 h with h | h
      · rw [h]; exact reachN_lt _ _ _
      · exact partsF_lt h
theorem partsN_lt {a : List Nat} {wi x : Nat} (h : x ∈ partsN a wi) : x < 4294967296 := partsF_lt h
theorem partsF_len {a : List Nat} : ∀ (n wi : Nat), (partsF a n wi).length ≤ n
  | 0, _ => Nat.le_refl _
  | n + 1, wi => by
    rw [partsF]; split
    · exact Nat.zero_le _
    · rw [List.length_cons]; have := partsF_len (a := a) n (andN wi (reachN a wi (Lib.ctz 32 wi))); omega
theorem partsN_len (a : List Nat) (wi : Nat) : (partsN a wi).length ≤ 33 := partsF_len _ _
/-- The steps of a graph, or of its complement. -/
def complN (a : List Nat) : List Nat := (List.range a.length).map fun v => andN (andN (firstN a.length) (a.getD v 0)) (bit v)
def adjN (a : List Nat) (turned : Bool) : List Nat := if turned then complN a else a
theorem nets_bit2 {g : List (List Int)} (hg : GOk g) {v : Nat} (hv : v < g.length) (j : Nat) : ((netsL g).getD v 0).testBit j = decide ((j : Int) ∈ g.getD v []) := by
  rw [netsL_get hv, testBit_maskL (fun x hx => (hg.ge hv x hx).1)]
  simp [hv]
theorem adj_bit {g : List (List Int)} (hg : GOk g) {v u : Nat} (hv : v < g.length) (hu : u < g.length) (t : Bool) : ((adjN (netsL g) t).getD v 0).testBit u = (decide (u ≠ v) && (decide ((u : Int) ∈ g.getD v []) != t)) := by
  have h1 := nets_bit2 hg hv u
  have hir : ¬ ((v : Int) ∈ g.getD v []) := by
    have := hg.irrefl v hv
    simpa [hv] using this
  cases t
  · simp only [adjN, Bool.false_eq_true, if_false, h1]
    by_cases e : u = v
    · subst e; simp only [hir, decide_false, Bool.and_false, ne_eq, not_true_eq_false, Bool.false_and]
    · simp [e]
  · simp only [adjN, if_true, complN, netsL_len]
    have hl : ((netsL g).getD v 0) < 4294967296 := by
      rw [netsL_get hv]; exact maskL_lt32 (hg.ge32 hv)
    have hf : firstN g.length < 4294967296 := by have := firstN_lt hg.hi; omega
    have e : (List.map (fun v => andN (andN (firstN g.length) ((netsL g).getD v 0)) (bit v)) (List.range g.length)).getD v 0 = andN (andN (firstN g.length) ((netsL g).getD v 0)) (bit v) := by simp [hv]
    have h16 := hg.hi
    rw [e, testBit_andN (Nat.lt_of_le_of_lt (andN_le _ _) hf) (bit_lt (by omega)), testBit_andN hf hl, h1, testBit_firstN, testBit_bit]
    by_cases e2 : u = v
    · subst e2; simp
    · have : ¬ v = u := fun h => e2 h.symm
      simp [hu, e2, this]
theorem adj_sym {g : List (List Int)} (hg : GOk g) {wi : Nat} (hw : wi < 2 ^ g.length) (t : Bool) : SymN (adjN (netsL g) t) wi := fun x y hx hy h => by
  have hxl := bit_lt_of hw hx
  have hyl := bit_lt_of hw hy
  rw [adj_bit hg hxl hyl] at h
  rw [adj_bit hg hyl hxl]
  have h2 : decide ((x : Int) ∈ g.getD y []) = decide ((y : Int) ∈ g.getD x []) := by
    rw [decide_eq_decide]
    have e1 : g.getD x [] = g[x] := by simp [hxl]
    have e2 : g.getD y [] = g[y] := by simp [hyl]
    constructor
    · intro h3
      rw [e2] at h3
      have := hg.symm y hyl _ h3; simpa using this
    · intro h3
      rw [e1] at h3
      have := hg.symm x hxl _ h3; simpa using this
  rw [h2]
  simp only [Bool.and_eq_true, decide_eq_true_eq] at h ⊢
  exact ⟨fun e => h.1 e.symm, h.2⟩
end Go.Proofs.YtpdlcnpmljfclaaDoor
