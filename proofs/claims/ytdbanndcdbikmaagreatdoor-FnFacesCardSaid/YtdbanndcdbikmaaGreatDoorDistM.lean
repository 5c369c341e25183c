/- Distances inside a set: layers and a queue say the same; plain facts. -/
import Derived.Test.YtdbanndcdbikmaaGreatDoorMod3
namespace Go.Proofs.YtdbanndcdbikmaaGreatDoor
open Go.RowKit

theorem sorted_ext : ∀ {l1 l2 : List Int}, l1.Pairwise (· < ·) → l2.Pairwise (· < ·) → (∀ x, x ∈ l1 ↔ x ∈ l2) → l1 = l2
  | [], [], _, _, _ => rfl
  | [], b :: l2, _, _, h => by have := (h b).2 (by simp); simp at this
  | a :: l1, [], _, _, h => by have := (h a).1 (by simp); simp at this
  | a :: l1, b :: l2, h1, h2, h => by
    rw [List.pairwise_cons] at h1 h2
    have e : a = b := by
      have ha := (h a).1 (by simp)
      have hb := (h b).2 (by simp)
      simp only [List.mem_cons] at ha hb
      rcases ha with ha | ha
      · exact ha
      · rcases hb with hb | hb
        · exact hb.symm
        · have x1 := h1.1 b hb; have x2 := h2.1 a ha; omega
    subst e
    congr 1
    refine sorted_ext h1.2 h2.2 fun x => ?_
    have hx := h x
    simp only [List.mem_cons] at hx
    constructor
    · intro hm
      rcases hx.1 (.inr hm) with e | hm'
      · have := h1.1 x hm; omega
      · exact hm'
    · intro hm
      rcases hx.2 (.inr hm) with e | hm'
      · have := h2.1 x hm; omega
      · exact hm'
theorem bitsI_sorted (m : Nat) : (bitsI m).Pairwise (· < ·) := by
  unfold bitsI
  rw [List.pairwise_map]
  exact (bitsN_sorted m).imp fun h => by omega
theorem rise_sorted {s : List Int} {n : Int} (h : Rise s n) : s.Pairwise (· < ·) := by
  rw [List.pairwise_iff_getElem]
  intro i j hi hj hij
  exact (h j hj hj).2.2 i hij
theorem maskL_lt32 {l : List Int} (h : ∀ x ∈ l, 0 ≤ x ∧ x < 32) : maskL l < 4294967296 := by
  have := maskL_lt (xs := l) (n := 32) h; simpa using this
theorem bitsI_maskL {l : List Int} (h1 : l.Pairwise (· < ·)) (h2 : ∀ x ∈ l, 0 ≤ x ∧ x < 32) : bitsI (maskL l) = l := by
  refine sorted_ext (bitsI_sorted _) h1 fun x => ?_
  rw [mem_bitsI (maskL_lt32 h2)]
  constructor
  · rintro ⟨h0, hb⟩
    rw [testBit_maskL (fun v hv => (h2 v hv).1)] at hb
    have : ((x.toNat : Nat) : Int) = x := by omega
    rw [this] at hb; simpa using hb
  · intro hx
    have := h2 x hx
    refine ⟨this.1, ?_⟩
    rw [testBit_maskL (fun v hv => (h2 v hv).1)]
    have : ((x.toNat : Nat) : Int) = x := by omega
    rw [this]; simpa using hx
theorem bitsI_nil {m : Nat} (hm : m < 4294967296) : bitsI m = [] ↔ m = 0 := by
  constructor
  · intro h
    by_cases h0 : m = 0
    · exact h0
    · rw [bitsI_step h0 hm] at h; cases h
  · rintro rfl; simp [bitsI, bitsN_zero]
theorem ctz_head {m : Nat} (h0 : m ≠ 0) (hm : m < 4294967296) : (bitsI m).head? = some (Lib.ctz 32 m : Int) := by
  rw [bitsI_step h0 hm]; rfl
theorem nat_ext {a b : Nat} (h : ∀ i, a.testBit i = b.testBit i) : a = b := Nat.eq_of_testBit_eq h

/-! What splits a set: by lists and by words. -/

theorem netsL_len (g : List (List Int)) : (netsL g).length = g.length := by simp [netsL]
theorem nodup_lenA {α : Type} [DecidableEq α] : ∀ {l E : List α}, l.Nodup → (∀ x ∈ l, x ∈ E) → l.length ≤ E.length
  | [], _, _, _ => Nat.zero_le _
  | x :: l, E, hn, hs => by
    obtain ⟨h1, h2⟩ := List.nodup_cons.1 hn
    have hx := hs x (by simp)
    have := nodup_lenA (l := l) (E := E.erase x) h2 (fun y hy => by
      rw [List.mem_erase_of_ne (fun e => h1 (by rw [← e]; exact hy))]
      exact hs y (by simp [hy]))
    rw [List.length_erase_of_mem hx] at this
    have := List.length_pos_of_mem hx
    simp; omega
/-- One vertex's turn: the row's vertices, each once, the first one first. -/
structure TurnOk (row t : List Int) : Prop where
  len : t.length = row.length
  first : 0 < t.length → t.getD 0 0 = row.getD 0 0
  all : ∀ k, k < t.length → t.getD k 0 ∈ row ∧ t.getD k 0 ∉ t.take k
structure AroundP (g r : List (List Int)) : Prop where
  gok : GOk g
  len : r.length = g.length
  turn : ∀ v, v < g.length → TurnOk (g.getD v []) (r.getD v [])
open Classical in
noncomputable def aroundB (g r : List (List Int)) : Bool := decide (AroundP g r)
theorem around_true {g r : List (List Int)} (h : AroundP g r) : aroundB g r = true := by simp [aroundB, h]
theorem around_false {g r : List (List Int)} (h : ¬ AroundP g r) : aroundB g r = false := by simp [aroundB, h]
theorem around_iff {g r : List (List Int)} : aroundB g r = true ↔ AroundP g r := by simp [aroundB]
theorem nodup_takeA {xs : List Int} : xs.Nodup ↔ ∀ i, i < xs.length → xs.getD i 0 ∉ xs.take i := by
  rw [List.Nodup, List.pairwise_iff_getElem]
  have e : ∀ i (h : i < xs.length), xs.getD i 0 = xs[i] := fun i h => by simp [h]
  constructor
  · intro h i hi hm
    rw [e i hi] at hm
    obtain ⟨j, hj, e⟩ := List.getElem_of_mem hm
    rw [List.length_take] at hj
    rw [List.getElem_take] at e
    exact h j i (by omega) hi (by omega) e
  · intro h i j hi hj hij e2
    refine h j hj ?_
    rw [e j hj, ← e2]
    exact List.mem_iff_getElem.2 ⟨i, by rw [List.length_take]; omega, by rw [List.getElem_take]⟩
/-- Strictly rising lists with the same members are the same. -/
theorem sorted_same : ∀ {a b : List Int}, a.Pairwise (· < ·) → b.Pairwise (· < ·) → (∀ x, x ∈ a ↔ x ∈ b) → a = b := fun ha hb h => sorted_ext ha hb h
theorem turn_sorted {row t s : List Int} (hrow : row.Pairwise (· < ·)) (hs : s.Pairwise (· ≤ ·)) (hp : s.Perm t) : s = row ↔ (t.length = row.length ∧ t.Nodup ∧ ∀ x ∈ t, x ∈ row) := by
  have hrn : row.Nodup := hrow.imp fun h => by omega
  constructor
  · rintro rfl
    exact ⟨hp.length_eq.symm, hp.nodup_iff.1 hrn, fun x hx => hp.mem_iff.2 hx⟩
  · rintro ⟨h1, h2, h3⟩
    have hback : ∀ x ∈ row, x ∈ t := fun x hx => Classical.byContradiction fun hn => by
      have := nodup_lenA (l := t) (E := row.erase x) h2 (fun y hy => by
        rw [List.mem_erase_of_ne (fun e => hn (by rw [← e]; exact hy))]
        exact h3 y hy)
      rw [List.length_erase_of_mem hx] at this
      have := List.length_pos_of_mem hx
      omega
    have hsn : s.Nodup := hp.nodup_iff.2 h2
    refine sorted_same ?_ hrow (fun x => ⟨fun hx => h3 x (hp.mem_iff.1 hx), fun hx => hp.mem_iff.2 (hback x hx)⟩)
    exact (List.pairwise_and_iff.2 ⟨hs, hsn⟩).imp fun h => by omega
theorem turn_iff {row t s : List Int} (hrow : row.Pairwise (· < ·)) (hs : s.Pairwise (· ≤ ·)) (hp : s.Perm t) : TurnOk row t ↔ (s = row ∧ (0 < t.length → t.getD 0 0 = row.getD 0 0)) := by
  rw [turn_sorted hrow hs hp]
  have e : ∀ i (h : i < t.length), t.getD i 0 = t[i] := fun i h => by simp [h]
  constructor
  · intro h
    refine ⟨⟨h.len, nodup_takeA.2 fun i hi => (h.all i hi).2, fun x hx => ?_⟩, h.first⟩
    obtain ⟨i, hi, rfl⟩ := List.getElem_of_mem hx
    rw [← e i hi]; exact (h.all i hi).1
  · rintro ⟨⟨h1, h2, h3⟩, h4⟩
    exact ⟨h1, h4, fun k hk => ⟨by rw [e k hk]; exact h3 _ (List.getElem_mem hk), nodup_takeA.1 h2 k hk⟩⟩

/-- A set that nothing outside of it splits. -/
def IsMod (g : List (List Int)) (M : List Int) : Prop := Rise M g.length ∧ ∀ v ∈ rangeI g.length, splitAtB g M v = false
open Classical in
/-- The least module that holds a set. -/
noncomputable def closL (g : List (List Int)) (s : List Int) : List Int := (rangeI g.length).filter fun x => decide (∀ M, IsMod g M → (∀ y ∈ s, y ∈ M) → x ∈ M)
/-- What is reached from a set so far. -/
structure Reach (g : List (List Int)) (s out : List Int) : Prop where
  rise : Rise out g.length
  sub : ∀ x ∈ s, x ∈ out
  least : ∀ M, IsMod g M → (∀ y ∈ s, y ∈ M) → ∀ x ∈ out, x ∈ M
/-- With one more, rising. -/
def intoL (l : List Int) (k : Nat) (x : Int) : List Int := l.take k ++ x :: l.drop k
theorem mem_intoL {l : List Int} {k : Nat} {x y : Int} : y ∈ intoL l k x ↔ y = x ∨ y ∈ l := by
  unfold intoL
  have e : y ∈ l ↔ y ∈ l.take k ++ l.drop k := by rw [List.take_append_drop]
  rw [e]
  simp only [List.mem_append, List.mem_cons]
  constructor
  · rintro (h | h | h) <;> simp [h]
  · rintro (h | h | h) <;> simp [h]
theorem intoL_sorted {l : List Int} {k : Nat} {x : Int} (hs : l.Pairwise (· < ·)) (h1 : ∀ y ∈ l.take k, y < x) (h2 : ∀ y ∈ l.drop k, x < y) : (intoL l k x).Pairwise (· < ·) := by
  unfold intoL
  rw [List.pairwise_append]
  rw [← List.take_append_drop k l, List.pairwise_append] at hs
  refine ⟨hs.1, List.pairwise_cons.2 ⟨h2, hs.2.1⟩, fun a ha b hb => ?_⟩
  rcases List.mem_cons.1 hb with rfl | hb
  · exact h1 a ha
  · exact hs.2.2 a ha b hb
theorem intoL_len (l : List Int) (k : Nat) (x : Int) : (intoL l k x).length = l.length + 1 := by
  have : (intoL l k x).length = (l.take k ++ l.drop k).length + 1 := by unfold intoL; simp only [List.length_append, List.length_cons]; omega
  rw [this, List.take_append_drop]

/-- Is a pair in a module that is not all? -/
noncomputable def badB (g : List (List Int)) (u v : Nat) : Bool := decide ((closL g [(u : Int), v]).length < g.length)
noncomputable def primeB (g : List (List Int)) : Bool := gokB g && decide (4 ≤ g.length) && !((List.range g.length).any fun v => (List.range v).any fun u => badB g u v)
/-- The union of a set and of what splits it. -/
def moreL (g : List (List Int)) (s : List Int) : List Int := (rangeI g.length).filter fun x => decide (x ∈ s) || splitAtB g s x

/-- The set of the vertices of a path. -/
def maskN (p : List Nat) : Nat := p.foldl (fun m a => m ||| bit a) 0
theorem testBit_foldN (p : List Nat) (m i : Nat) : (p.foldl (fun m a => m ||| bit a) m).testBit i = (m.testBit i || decide (i ∈ p)) := by
  induction p generalizing m with
  | nil => simp
  | cons a p ih =>
    rw [List.foldl_cons, ih, Nat.testBit_or, testBit_bit, Bool.or_assoc]
    congr 1
    by_cases h1 : a = i
    · subst h1; simp
    · have : ¬ i = a := fun h => h1 h.symm
      simp [h1, this]
theorem testBit_maskN (p : List Nat) (i : Nat) : (maskN p).testBit i = decide (i ∈ p) := by rw [maskN, testBit_foldN]; simp
/-- Does a vertex fit behind a path: as the pattern's next vertex? -/
def fitTo (H Q : List Nat) (p : List Nat) (v k : Nat) : Bool := (List.range k).all fun j => (H.getD v 0).testBit (p.getD j 0) == (Q.getD p.length 0).testBit j
def okB (H Q : List Nat) (p : List Nat) (v : Nat) : Bool := !decide (v ∈ p) && fitTo H Q p v p.length
variable {σ : Type}
def loopS (f : Nat → σ → σ × Bool) : List Nat → σ → σ × Bool
  | [], s => (s, false)
  | v :: vs, s => if (f v s).2 = true then ((f v s).1, true) else loopS f vs (f v s).1
def srchF (H Q : List Nat) (ef : List Nat → σ → σ × Bool) : Nat → List Nat → σ → σ × Bool
  | 0, p, s => ef p s
  | d + 1, p, s => loopS (fun v s => if okB H Q p v = true then srchF H Q ef d (p ++ [v]) s else (s, false)) (List.range H.length) s
def fitEf (p : List Nat) (_ : Option (List Nat)) : Option (List Nat) × Bool := (some p, true)
/-- A path of different vertices. -/
def GP (n : Nat) (p : List Nat) : Prop := (∀ a ∈ p, a < n) ∧ p.Nodup
/-- Closed under steps that stay in wi. -/
def ClosedN (a : List Nat) (wi M : Nat) : Prop := ∀ x, M.testBit x = true → ∀ u, wi.testBit u = true → (a.getD x 0).testBit u = true → M.testBit u = true
def InAll (a : List Nat) (wi v x : Nat) : Prop := ∀ M, ClosedN a wi M → M.testBit v = true → M.testBit x = true
open Classical in
/-- What v reaches inside wi. -/
noncomputable def reachN (a : List Nat) (wi v : Nat) : Nat := maskL ((rangeI 32).filter fun x => decide (InAll a wi v x.toNat))
theorem full32 (i : Nat) (h : i < 32) : (4294967295 : Nat).testBit i = true := by
  have : (4294967295 : Nat) = 2 ^ 32 - 1 := by decide
  rw [this, Nat.testBit_two_pow_sub_one]; simpa using h
theorem full32_ge (i : Nat) (h : ¬ i < 32) : (4294967295 : Nat).testBit i = false := by
  have : (4294967295 : Nat) = 2 ^ 32 - 1 := by decide
  rw [this, Nat.testBit_two_pow_sub_one]; simpa using h
theorem bit_lt_of {m n i : Nat} (hm : m < 2 ^ n) (h : m.testBit i = true) : i < n := by
  apply Nat.lt_of_not_le
  intro hn
  rw [Nat.testBit_lt_two_pow (Nat.lt_of_lt_of_le hm (Nat.pow_le_pow_right (by omega) hn))] at h
  cases h
theorem inAll_lt {a : List Nat} {wi v x : Nat} (hw : wi < 4294967296) (hv : v < 32) (h : InAll a wi v x) : x < 32 := by
  have := h 4294967295 (fun x _ u hu _ => full32 u (bit_lt_of (n := 32) hw hu)) (full32 v hv)
  apply Decidable.byContradiction
  intro h2
  rw [full32_ge x h2] at this; cases this
theorem testBit_reachN {a : List Nat} {wi v : Nat} (hw : wi < 4294967296) (hv : v < 32) (i : Nat) : (reachN a wi v).testBit i = true ↔ InAll a wi v i := by
  unfold reachN
  rw [testBit_maskL (fun x hx => (mem_rangeI.1 (List.mem_filter.1 hx).1).1), decide_eq_true_eq, List.mem_filter, mem_rangeI]
  constructor
  · rintro ⟨-, h⟩; simpa using h
  · intro h
    have := inAll_lt hw hv h
    exact ⟨by omega, by simpa using h⟩
theorem reachN_lt (a : List Nat) (wi v : Nat) : reachN a wi v < 4294967296 := maskL_lt32 fun x hx => by have := mem_rangeI.1 (List.mem_filter.1 hx).1; omega
theorem reach_start {a : List Nat} {wi v : Nat} (hw : wi < 4294967296) (hv : v < 32) : (reachN a wi v).testBit v = true := (testBit_reachN hw hv v).2 fun _ _ h => h
theorem reach_closed {a : List Nat} {wi v : Nat} (hw : wi < 4294967296) (hv : v < 32) : ClosedN a wi (reachN a wi v) := fun x hx u hu hb =>
  (testBit_reachN hw hv u).2 fun M hM hMv => hM x ((testBit_reachN hw hv x).1 hx M hM hMv) u hu hb
theorem reach_least {a : List Nat} {wi v M : Nat} (hw : wi < 4294967296) (hv : v < 32) (hM : ClosedN a wi M) (hMv : M.testBit v = true) {i : Nat} (h : (reachN a wi v).testBit i = true) : M.testBit i = true :=
  (testBit_reachN hw hv i).1 h M hM hMv
/-- Reached so far. -/
def ReachI (a : List Nat) (wi v M : Nat) : Prop := M.testBit v = true ∧ ∀ i, M.testBit i = true → (reachN a wi v).testBit i = true
theorem ReachI.start {a : List Nat} {wi v : Nat} (hw : wi < 4294967296) (hv : v < 32) : ReachI a wi v (bit v) :=
  ⟨by rw [testBit_bit]; simp, fun i hi => by rw [testBit_bit] at hi; have : v = i := by simpa using hi
                                             subst this; exact reach_start hw hv⟩
theorem ReachI.done {a : List Nat} {wi v M : Nat} (hw : wi < 4294967296) (hv : v < 32) (h : ReachI a wi v M) (hc : ClosedN a wi M) : M = reachN a wi v := by
  apply nat_ext
  intro i
  rw [Bool.eq_iff_iff]
  exact ⟨h.2 i, fun hi => reach_least hw hv hc h.1 hi⟩
/-- One round of the program's search: all neighbours of the first k. -/
def growN (a : List Nat) (wi : Nat) (l : List Int) (s : Nat) : Nat := l.foldl (fun m u => m ||| (a.getD u.toNat 0 &&& wi)) s
theorem growN_snoc (a : List Nat) (wi : Nat) (l : List Int) (x : Int) (s : Nat) : growN a wi (l ++ [x]) s = growN a wi l s ||| (a.getD x.toNat 0 &&& wi) := by simp [growN]
theorem growN_take {a : List Nat} {wi s k : Nat} {l : List Int} (hk : k < l.length) : growN a wi (l.take (k + 1)) s = growN a wi (l.take k) s ||| (a.getD (l[k]).toNat 0 &&& wi) := by
  rw [List.take_succ_eq_append_getElem hk, growN_snoc]
theorem testBit_growN (a : List Nat) (wi : Nat) : ∀ (l : List Int) (s i : Nat), (growN a wi l s).testBit i = true ↔ s.testBit i = true ∨ ∃ x ∈ l, (a.getD x.toNat 0).testBit i = true ∧ wi.testBit i = true
  | [], s, i => by simp [growN]
  | x :: l, s, i => by
    have := testBit_growN a wi l (s ||| (a.getD x.toNat 0 &&& wi)) i
    rw [show growN a wi (x :: l) s = growN a wi l (s ||| (a.getD x.toNat 0 &&& wi)) from rfl, this, Nat.testBit_or, Nat.testBit_and]
    simp only [Bool.or_eq_true, Bool.and_eq_true, List.mem_cons, exists_eq_or_imp, or_assoc]
theorem growN_lt {a : List Nat} {wi s : Nat} {l : List Int} {n : Nat} (hs : s < 2 ^ n) (hw : wi < 2 ^ n) : growN a wi l s < 2 ^ n := by
  apply lt_bits
  intro i hi
  rcases (testBit_growN a wi l s i).1 hi with h | ⟨x, _, _, h⟩
  · exact bit_lt_of hs h
  · exact bit_lt_of hw h
theorem grow_le {a : List Nat} {wi s : Nat} {l : List Int} : s ≤ growN a wi l s := by
  apply Nat.le_of_lt_succ
  apply Nat.lt_of_le_of_lt (m := s &&& growN a wi l s)
  · apply Nat.le_of_eq
    apply nat_ext
    intro i
    rw [Nat.testBit_and]
    cases h : s.testBit i
    · rfl
    · rw [(testBit_growN a wi l s i).2 (.inl h)]; rfl
  · exact Nat.lt_succ_of_le Nat.and_le_right
theorem ReachI.grow {a : List Nat} {wi v M : Nat} (hw : wi < 4294967296) (hv : v < 32) (hM : M < 4294967296) (h : ReachI a wi v M) : ReachI a wi v (growN a wi (bitsI M) M) := by
  refine ⟨(testBit_growN _ _ _ _ _).2 (.inl h.1), fun i hi => ?_⟩
  rcases (testBit_growN _ _ _ _ _).1 hi with h1 | ⟨x, hx, h1, h2⟩
  · exact h.2 i h1
  · exact reach_closed hw hv x.toNat (h.2 _ ((mem_bitsI hM).1 hx).2) i h2 h1
theorem grow_done {a : List Nat} {wi M : Nat} (hM : M < 4294967296) (h : growN a wi (bitsI M) M = M) : ClosedN a wi M := fun x hx u hu hb => by
  rw [← h]
  refine (testBit_growN _ _ _ _ _).2 (.inr ⟨(x : Int), (mem_bitsI hM).2 ⟨by omega, by simpa using hx⟩, by simpa using hb, hu⟩)
/-- Steps lead both ways between vertices of wi. -/
def SymN (a : List Nat) (wi : Nat) : Prop := ∀ x y, wi.testBit x = true → wi.testBit y = true → (a.getD x 0).testBit y = true → (a.getD y 0).testBit x = true
theorem reach_sub {a : List Nat} {wi v : Nat} (hw : wi < 4294967296) (hv : wi.testBit v = true) {i : Nat} (h : (reachN a wi v).testBit i = true) : wi.testBit i = true :=
  reach_least hw (bit_lt_of (n := 32) hw hv) (fun _ _ _ hu _ => hu) hv h
/-- The parts, in the order of their least vertices. -/
noncomputable def partsF (a : List Nat) : Nat → Nat → List Nat
  | 0, _ => []
  | n + 1, wi => if wi = 0 then [] else reachN a wi (Lib.ctz 32 wi) :: partsF a n (andN wi (reachN a wi (Lib.ctz 32 wi)))
noncomputable def partsN (a : List Nat) (wi : Nat) : List Nat := partsF a 33 wi
theorem ctz_bit {m : Nat} (h0 : m ≠ 0) (hm : m < 4294967296) : m.testBit (Lib.ctz 32 m) = true := by
  have := ctz_head h0 hm
  have h2 : (Lib.ctz 32 m : Int) ∈ bitsI m := List.mem_of_mem_head? this
  simpa using ((mem_bitsI hm).1 h2).2
theorem ctz_least {m i : Nat} (h0 : m ≠ 0) (hm : m < 4294967296) (h : m.testBit i = true) : Lib.ctz 32 m ≤ i := by
  have h1 := ctz_head h0 hm
  have h2 : (i : Int) ∈ bitsI m := (mem_bitsI hm).2 ⟨by omega, by simpa using h⟩
  have h3 := bitsI_sorted m
  cases hb : bitsI m with
  | nil => rw [hb] at h2; cases h2
  | cons x l =>
    rw [hb] at h1 h2 h3
    simp only [List.head?_cons, Option.some.injEq] at h1
    rcases List.mem_cons.1 h2 with h4 | h4
    · omega
    · have := List.rel_of_pairwise_cons h3 h4; omega
def popN (m : Nat) : Nat := (bitsN m).length
theorem popN_lt {a b i : Nat} (hb : b < 4294967296) (h : ∀ i, a.testBit i = true → b.testBit i = true) (h1 : b.testBit i = true) (h2 : a.testBit i = false) : popN a < popN b := by
  unfold popN bitsN
  have hs : ((List.range 32).filter a.testBit) = ((List.range 32).filter b.testBit).filter a.testBit := by
    rw [List.filter_filter]
    apply List.filter_congr
    intro x _
    cases hx : a.testBit x
    · rfl
    · rw [h x hx]; rfl
  rw [hs]
  refine Nat.lt_of_le_of_ne (List.length_filter_le _ _) fun e => ?_
  have := List.length_filter_eq_length_iff.1 e i (List.mem_filter.2 ⟨List.mem_range.2 (bit_lt_of (n := 32) hb h1), h1⟩)
  rw [h2] at this; cases this
theorem popN_32 (m : Nat) : popN m ≤ 32 := bitsN_len m
theorem popN_zero {m : Nat} (hm : m < 4294967296) : popN m = 0 ↔ m = 0 := by
  rw [← bitsI_nil hm]
  unfold popN bitsI
  simp
theorem partsF_enough {a : List Nat} : ∀ {n k wi : Nat}, wi < 4294967296 → popN wi < n → popN wi < k → partsF a n wi = partsF a k wi
  | 0, _, _, _, h, _ => by omega
  | _, 0, _, _, _, h => by omega
  | n + 1, k + 1, wi, hw, h1, h2 => by
    rw [partsF, partsF]
    by_cases h0 : wi = 0
    · rw [if_pos h0, if_pos h0]
    · rw [if_neg h0, if_neg h0]
      have hc := ctz_bit h0 hw
      have hr := reachN_lt a wi (Lib.ctz 32 wi)
      have hlt : popN (andN wi (reachN a wi (Lib.ctz 32 wi))) < popN wi := popN_lt hw (fun i hi => by rw [testBit_andN hw hr] at hi; simp only [Bool.and_eq_true] at hi; exact hi.1) hc (by
        rw [testBit_andN hw hr, reach_start hw (bit_lt_of (n := 32) hw hc)]; simp)
      rw [partsF_enough (n := n) (k := k) (Nat.lt_of_le_of_lt (andN_le _ _) hw) (by omega) (by omega)]
theorem partsN_zero (a : List Nat) : partsN a 0 = [] := by rw [partsN, partsF, if_pos rfl]
theorem partsN_step {a : List Nat} {wi : Nat} (hw : wi < 4294967296) (h0 : wi ≠ 0) : partsN a wi = reachN a wi (Lib.ctz 32 wi) :: partsN a (andN wi (reachN a wi (Lib.ctz 32 wi))) := by
  unfold partsN
  rw [partsF, if_neg h0]
  have hc := ctz_bit h0 hw
  have hr := reachN_lt a wi (Lib.ctz 32 wi)
  have hlt : popN (andN wi (reachN a wi (Lib.ctz 32 wi))) < popN wi := popN_lt hw (fun i hi => by rw [testBit_andN hw hr] at hi; simp only [Bool.and_eq_true] at hi; exact hi.1) hc (by
    rw [testBit_andN hw hr, reach_start hw (bit_lt_of (n := 32) hw hc)]; simp)
  have := popN_32 wi
  rw [partsF_enough (n := 32) (k := 33) (Nat.lt_of_le_of_lt (andN_le _ _) hw) (by omega) (by omega)]
theorem andN_zero_iff {a b : Nat} (ha : a < 4294967296) (hb : b < 4294967296) : andN a b = 0 ↔ ∀ i, a.testBit i = true → b.testBit i = true := by
  constructor
  · intro h i hi
    have := testBit_andN ha hb i
    rw [h, Nat.zero_testBit, hi] at this
    simpa using this.symm
  · intro h
    apply nat_ext
    intro i
    rw [testBit_andN ha hb, Nat.zero_testBit]
    cases hi : a.testBit i
    · rfl
    · rw [h i hi]; rfl
/-- The reference's parts so far: done is their union. -/
structure PartsI (a : List Nat) (wi : Nat) (out : List Nat) (D : Nat) : Prop where
  lt : D < 4294967296
  sub : ∀ i, D.testBit i = true → wi.testBit i = true
  closed : ClosedN a wi D
  rest : out ++ partsN a (andN wi D) = partsN a wi
theorem partsF_len {a : List Nat} : ∀ (n wi : Nat), (partsF a n wi).length ≤ n
  | 0, _ => Nat.le_refl _
  | n + 1, wi => by
    rw [partsF]; split
    · exact Nat.zero_le _
    · rw [List.length_cons]; have := partsF_len (a := a) n (andN wi (reachN a wi (Lib.ctz 32 wi))); omega
theorem partsN_len (a : List Nat) (wi : Nat) : (partsN a wi).length ≤ 33 := partsF_len _ _
/-- The steps of a graph, or of its complement. -/
def complN (a : List Nat) : List Nat := (List.range a.length).map fun v => andN (andN (firstN a.length) (a.getD v 0)) (bit v)
def adjN (a : List Nat) (turned : Bool) : List Nat := if turned then complN a else a
theorem reach_eq {a : List Nat} {wi v x : Nat} (hw : wi < 4294967296) (hs : SymN a wi) (hv : wi.testBit v = true) (hx : (reachN a wi v).testBit x = true) : reachN a wi x = reachN a wi v := by
  have hv32 := bit_lt_of (n := 32) hw hv
  have hxw := reach_sub hw hv hx
  have hx32 := bit_lt_of (n := 32) hw hxw
  have h1 : ∀ i, (reachN a wi x).testBit i = true → (reachN a wi v).testBit i = true := fun i => reach_least hw hx32 (reach_closed hw hv32) hx
  have hvx : (reachN a wi x).testBit v = true := by
    apply Classical.byContradiction
    intro hno
    have hR := reachN_lt a wi v
    have hC := reachN_lt a wi x
    have h2 := reach_least (M := andN (reachN a wi v) (reachN a wi x)) hw hv32 (fun y hy u hu hb => ?_) ?_ hx
    · rw [testBit_andN hR hC, reach_start hw hx32] at h2
      simp at h2
    · rw [testBit_andN hR hC] at hy ⊢
      simp only [Bool.and_eq_true, Bool.not_eq_true'] at hy ⊢
      refine ⟨reach_closed hw hv32 y hy.1 u hu hb, ?_⟩
      cases hcu : (reachN a wi x).testBit u
      · rfl
      · have hyw := reach_sub hw hv hy.1
        have := reach_closed hw hx32 u hcu y hyw (hs y u hyw hu hb)
        rw [this] at hy; cases hy.2
    · rw [testBit_andN hR hC, reach_start hw hv32]
      simpa using hno
  apply nat_ext
  intro i
  rw [Bool.eq_iff_iff]
  exact ⟨h1 i, fun hi => reach_least hw hv32 (reach_closed hw hx32) hvx hi⟩
theorem net_bit {g : List (List Int)} (hg : GOk g) {u v : Nat} : ((netsL g).getD u 0).testBit v = true ↔ u < g.length ∧ (v : Int) ∈ g.getD u [] := by
  by_cases hu : u < g.length
  · have e : (netsL g).getD u 0 = maskL g[u] := by simp [netsL, hu]
    have e2 : g.getD u [] = g[u] := by simp [hu]
    rw [e, e2, testBit_maskL (fun x hx => (hg.ge32 hu x hx).1), decide_eq_true_eq]
    exact ⟨fun h => ⟨hu, h⟩, fun h => h.2⟩
  · have e : (netsL g).getD u 0 = 0 := by simp [netsL, hu]
    rw [e, Nat.zero_testBit]
    exact ⟨(fun h => by cases h), fun h => absurd h.1 hu⟩
theorem net_sym {g : List (List Int)} (hg : GOk g) {u v : Nat} (h : ((netsL g).getD u 0).testBit v = true) : u < g.length ∧ v < g.length ∧ u ≠ v ∧ ((netsL g).getD v 0).testBit u = true := by
  obtain ⟨hu, hm⟩ := (net_bit hg).1 h
  have e2 : g.getD u [] = g[u] := by simp [hu]
  have hm' := hm
  rw [e2] at hm'
  obtain ⟨i, hi, e⟩ := List.getElem_of_mem hm'
  have hr := hg.rise u hu i hi hi
  have hv : v < g.length := by omega
  have hs := hg.symm u hu v hm'
  rw [Int.toNat_natCast] at hs
  refine ⟨hu, hv, fun e3 => ?_, (net_bit hg).2 ⟨hv, hs⟩⟩
  subst e3
  exact hg.irrefl u hu hm'
theorem net_lt {g : List (List Int)} (hg : GOk g) (u : Nat) : (netsL g).getD u 0 < 2 ^ g.length := lt_bits fun i hi => (net_sym hg hi).2.1
theorem net_lt32 {g : List (List Int)} (hg : GOk g) (u : Nat) : (netsL g).getD u 0 < 4294967296 := Nat.lt_of_lt_of_le (net_lt hg u) (Nat.le_trans (Nat.pow_le_pow_right (by omega) hg.hi) (by decide))
theorem net_irr {g : List (List Int)} (hg : GOk g) (u : Nat) : ((netsL g).getD u 0).testBit u = false := by
  cases h : ((netsL g).getD u 0).testBit u with
  | false => rfl
  | true => exact absurd rfl (net_sym hg h).2.2.1
theorem row_bits {g : List (List Int)} (hg : GOk g) {k : Nat} (hk : k < g.length) : g[k] = bitsI ((netsL g).getD k 0) := by
  have e : (netsL g).getD k 0 = maskL g[k] := by simp [netsL, hk]
  rw [e, bitsI_maskL (rise_sorted (hg.rise k hk)) (hg.ge32 hk)]
theorem bits_nats (m : Nat) : bitsI m = natsI (bitsN m) := by simp [bitsI, natsI]
def orN (a : List Nat) (l : List Nat) : Nat := l.foldl (fun s u => s ||| a.getD u 0) 0
/-- What v sees behind those that are gone. -/
noncomputable def behindN (a : List Nat) (gone v : Nat) : Nat := andN (andN (orN a (bitsN (reachN a (gone ||| bit v) v))) gone) (bit v)
/-- What the widths rest on: words of n bits. -/
structure WideI (a : List Nat) (n : Nat) : Prop where
  len : a.length = n
  le : n ≤ 16
  lt : ∀ m ∈ a, m < 2 ^ n
theorem pow16_lt {n : Nat} (h : n ≤ 16) : 2 ^ n < 4294967296 := Nat.lt_of_le_of_lt (Nat.pow_le_pow_right (by omega) h) (by decide)
/-- Those that are not gone. -/
def leftL (n gone : Nat) : List Nat := (List.range n).filter fun v => !gone.testBit v
noncomputable def widthF (a : List Nat) (n : Nat) : Nat → Nat → Nat
  | 0, _ => 0
  | f + 1, gone => ((leftL n gone).map fun v => max (popN (behindN a gone v)) (widthF a n f (gone ||| bit v))).foldl min 16
/-- The least width of taking away what is not gone. -/
noncomputable def widthN (a : List Nat) (n gone : Nat) : Nat := widthF a n (leftL n gone).length gone
noncomputable def costN (a : List Nat) (n gone v : Nat) : Nat := max (popN (behindN a gone v)) (widthN a n (gone ||| bit v))
def bestI (l : List Nat) : Int := if l = [] then -1 else (l.foldl min 16 : Nat)
/-- The reference's search: met are the L (as a word M), the first i of which are done; of the next one's row T is done; O are out. -/
structure BJ (a : List Nat) (gone v n : Nat) (L : List Nat) (M i : Nat) (T : List Nat) (O : Nat) : Prop where
  mem : ∀ u, u ∈ L ↔ M.testBit u = true
  pop : L.length = popN M
  lt : M < 2 ^ n
  reach : ReachI a (gone ||| bit v) v M
  done : ∀ x ∈ L.take i, ∀ u, (gone ||| bit v).testBit u = true → (a.getD x 0).testBit u = true → M.testBit u = true
  part : ∀ u ∈ T, (gone ||| bit v).testBit u = true → M.testBit u = true
  out : ∀ u, O.testBit u = true ↔ ((∃ x ∈ L.take i, (a.getD x 0).testBit u = true) ∨ u ∈ T) ∧ gone.testBit u = false ∧ v ≠ u
  ilt : i ≤ L.length
  olt : O < 2 ^ n
/-- What is at most so far from v along vertices of wi. -/
def ballN (a : List Nat) (wi v : Nat) : Nat → Nat
  | 0 => bit v
  | k + 1 => ballN a wi v k ||| (orN a (bitsN (ballN a wi v k)) &&& wi)
structure DistI (a : List Nat) (wi v n : Nat) : Prop where
  wide : WideI a n
  wi : wi < 2 ^ n
  v : v < n
/-- D are the distances; -1 where there is no path. -/
def IsDist (a : List Nat) (wi v n : Nat) (D : Nat → Int) : Prop := ∀ u, u < n → (D u = -1 ∧ ∀ k, (ballN a wi v k).testBit u = false) ∨ ∃ k : Nat, D u = k ∧ (ballN a wi v k).testBit u = true ∧ ∀ j, j < k → (ballN a wi v j).testBit u = false
/-- Right as far as k steps. -/
def PartD (a : List Nat) (wi v n k : Nat) (D : Nat → Int) : Prop := ∀ u, u < n → (D u = -1 ∧ (ballN a wi v k).testBit u = false) ∨ ∃ j : Nat, j ≤ k ∧ D u = j ∧ (ballN a wi v j).testBit u = true ∧ ∀ i, i < j → (ballN a wi v i).testBit u = false
def LayI (a : List Nat) (wi v k L : Nat) : Prop := ∀ u, L.testBit u = true ↔ ((ballN a wi v k).testBit u = true ∧ ∀ i, i < k → (ballN a wi v i).testBit u = false)
/-- The reference's queue: Q1 stand d steps off, Q2 one more; x is being looked at, T of its row is done. -/
structure DP (a : List Nat) (wi v n : Nat) (D : Nat → Int) (M d x : Nat) (T Q1 Q2 : List Nat) : Prop where
  cor : ∀ u, u < n → (D u = -1 ∧ M.testBit u = false) ∨ (M.testBit u = true ∧ ∃ j : Nat, j ≤ d + 1 ∧ D u = j ∧ (ballN a wi v j).testBit u = true ∧ ∀ i, i < j → (ballN a wi v i).testBit u = false)
  lt : M < 2 ^ n
  q1 : ∀ y ∈ Q1, M.testBit y = true ∧ D y = d
  q2 : ∀ y ∈ Q2, M.testBit y = true ∧ D y = d + 1
  far : ∀ y, M.testBit y = true → D y = d + 1 → y ∈ Q2
  all : ∀ u, (ballN a wi v d).testBit u = true → M.testBit u = true
  done : ∀ y, M.testBit y = true → y ≠ x → y ∉ Q1 → y ∉ Q2 → ∀ u, wi.testBit u = true → (a.getD y 0).testBit u = true → M.testBit u = true
  part : ∀ u ∈ T, wi.testBit u = true → M.testBit u = true
  hx : M.testBit x = true ∧ D x = d
structure DQ (a : List Nat) (wi v n : Nat) (D : Nat → Int) (M d : Nat) (Q1 Q2 : List Nat) : Prop where
  cor : ∀ u, u < n → (D u = -1 ∧ M.testBit u = false) ∨ (M.testBit u = true ∧ ∃ j : Nat, j ≤ d + 1 ∧ D u = j ∧ (ballN a wi v j).testBit u = true ∧ ∀ i, i < j → (ballN a wi v i).testBit u = false)
  lt : M < 2 ^ n
  q1 : ∀ y ∈ Q1, M.testBit y = true ∧ D y = d
  q2 : ∀ y ∈ Q2, M.testBit y = true ∧ D y = d + 1
  far : ∀ y, M.testBit y = true → D y = d + 1 → y ∈ Q2
  all : ∀ u, (ballN a wi v d).testBit u = true → M.testBit u = true
  done : ∀ y, M.testBit y = true → y ∉ Q1 → y ∉ Q2 → ∀ u, wi.testBit u = true → (a.getD y 0).testBit u = true → M.testBit u = true
end Go.Proofs.YtdbanndcdbikmaaGreatDoor
