/- Trees of parts: the sets of the leaves; plain facts. -/
import Derived.Test.YtfccpencgengaaaDoorPartM
namespace Go.Proofs.YtfccpencgengaaaDoor
open Go.RowKit

def pop (m : Nat) : Nat := (bitsN m).length
theorem pop_I (m : Nat) : (bitsI m).length = pop m := by simp [bitsI, pop]
def mskF : Nat → List PNode → Nat → Nat
  | 0, _, _ => 0
  | f + 1, t, i => if (nd t i).kind = 1 then bit (nd t i).vertex.toNat else (nd t i).kids.foldl (fun m k => m ||| mskF f t k.toNat) 0
/-- A node's kids lie below it; a leaf's vertex is small. -/
def Down (t : List PNode) (i : Nat) : Prop := ((nd t i).kind = 1 → 0 ≤ (nd t i).vertex ∧ (nd t i).vertex ≤ 15) ∧ ((nd t i).kind ≠ 1 → 1 ≤ (nd t i).kids.length ∧ ∀ k ∈ (nd t i).kids, 0 ≤ k ∧ k < i)
theorem sok_down {t : List PNode} {i : Nat} (h : SOk t i) : Down t i := by
  rcases h with ⟨h1, h2, h3, h4⟩ | ⟨h1, h2, h3, h4, h5, h6⟩
  · exact ⟨fun _ => ⟨h3, h4⟩, fun h => absurd h1 h⟩
  · refine ⟨fun h => absurd h h1, fun _ => ⟨by omega, fun k hk => ?_⟩⟩
    rw [h6] at hk
    simp only [natsZ, List.mem_map] at hk
    obtain ⟨a, ha, rfl⟩ := hk
    have := openF_lt t i a (List.mem_of_mem_drop ha)
    omega
theorem foldl_congr' {α β : Type} {f g : β → α → β} : ∀ (l : List α) (b : β), (∀ x ∈ l, ∀ b, f b x = g b x) → l.foldl f b = l.foldl g b
  | [], _, _ => rfl
  | a :: l, b, h => by
    rw [List.foldl_cons, List.foldl_cons, h a (by simp)]
    exact foldl_congr' l _ (fun x hx b => h x (by simp [hx]) b)
theorem mskF_eq {t : List PNode} : ∀ (i f f' : Nat), i < f → i < f' → (∀ j, j ≤ i → Down t j) → mskF f t i = mskF f' t i := by
  intro i
  induction i using Nat.strongRecOn with
  | _ i ih =>
    intro f f' h1 h2 hd
    obtain ⟨f, rfl⟩ : ∃ k, f = k + 1 := ⟨f - 1, by omega⟩
    obtain ⟨f', rfl⟩ : ∃ k, f' = k + 1 := ⟨f' - 1, by omega⟩
    rw [mskF, mskF]
    by_cases hk : (nd t i).kind = 1
    · rw [if_pos hk, if_pos hk]
    · rw [if_neg hk, if_neg hk]
      refine foldl_congr' _ _ fun k hk2 b => ?_
      have := ((hd i (Nat.le_refl _)).2 hk).2 k hk2
      rw [ih k.toNat (by omega) f f' (by omega) (by omega) (fun j hj => hd j (by omega))]
def msk (t : List PNode) (i : Nat) : Nat := mskF t.length t i
theorem msk_leaf {t : List PNode} {i : Nat} (hi : i < t.length) (h : (nd t i).kind = 1) : msk t i = bit (nd t i).vertex.toNat := by
  obtain ⟨n, hn⟩ : ∃ n, t.length = n + 1 := ⟨t.length - 1, by omega⟩
  rw [msk, hn, mskF, if_pos h]
theorem msk_node {t : List PNode} {i : Nat} (hi : i < t.length) (hd : ∀ j, j ≤ i → Down t j) (h : (nd t i).kind ≠ 1) : msk t i = (nd t i).kids.foldl (fun m k => m ||| msk t k.toNat) 0 := by
  obtain ⟨n, hn⟩ : ∃ n, t.length = n + 1 := ⟨t.length - 1, by omega⟩
  rw [msk, hn, mskF, if_neg h]
  refine foldl_congr' _ _ fun k hk b => ?_
  have := ((hd i (Nat.le_refl _)).2 h).2 k hk
  rw [msk, mskF_eq k.toNat n t.length (by omega) (by omega) (fun j hj => hd j (by omega))]
theorem fold_or_testBit {α : Type} (g : α → Nat) (j : Nat) : ∀ (l : List α) (m : Nat), (l.foldl (fun m k => m ||| g k) m).testBit j = (m.testBit j || l.any fun k => (g k).testBit j)
  | [], m => by simp
  | a :: l, m => by rw [List.foldl_cons, fold_or_testBit g j l, Nat.testBit_or, List.any_cons, Bool.or_assoc]
theorem bits16 {m : Nat} (h : ∀ j, m.testBit j = true → j < 16) : m < 65536 := by
  have := Nat.lt_pow_two_of_testBit (n := 16) m (fun i hi => by
    by_cases hb : m.testBit i = true
    · have := h i hb; omega
    · simpa using hb)
  simpa using this
theorem bits16' {m : Nat} (h : m < 65536) : ∀ j, m.testBit j = true → j < 16 := by
  intro j hj
  apply Nat.lt_of_not_le
  intro hle
  have h2 : m < 2 ^ j := Nat.lt_of_lt_of_le h (by have := Nat.pow_le_pow_right (n := 2) (by decide) hle; simpa using this)
  rw [Nat.testBit_lt_two_pow h2] at hj; cases hj
theorem msk_facts {t : List PNode} : ∀ i, i < t.length → (∀ j, j ≤ i → Down t j) → msk t i < 65536 ∧ msk t i ≠ 0 := by
  intro i
  induction i using Nat.strongRecOn with
  | _ i ih =>
    intro hi hd
    by_cases hk : (nd t i).kind = 1
    · rw [msk_leaf hi hk]
      have := (hd i (Nat.le_refl _)).1 hk
      refine ⟨bits16 fun j hj => ?_, by have := bit_pos (nd t i).vertex.toNat; omega⟩
      rw [testBit_bit] at hj
      simp at hj; omega
    · have h2 := (hd i (Nat.le_refl _)).2 hk
      have hkid := fun k hk2 => ih k (by have := h2.2 k; omega)
      rw [msk_node hi hd hk]
      have hk3 : ∀ k ∈ (nd t i).kids, msk t k.toNat < 65536 ∧ msk t k.toNat ≠ 0 := fun k hk4 => by
        have := h2.2 k hk4
        exact ih k.toNat (by omega) (by omega) (fun j hj => hd j (by omega))
      constructor
      · refine bits16 fun j hj => ?_
        rw [fold_or_testBit] at hj
        simp only [Nat.zero_testBit, Bool.false_or, List.any_eq_true] at hj
        obtain ⟨k, hk4, hk5⟩ := hj
        exact bits16' (hk3 k hk4).1 j hk5
      · obtain ⟨k, hk4⟩ := List.exists_mem_of_length_pos (l := (nd t i).kids) (by omega)
        obtain ⟨j, hj⟩ := Nat.exists_testBit_of_ne_zero (hk3 k hk4).2
        intro h0
        have : ((nd t i).kids.foldl (fun m k => m ||| msk t k.toNat) 0).testBit j = true := by
          rw [fold_or_testBit]
          simp only [Nat.zero_testBit, Bool.false_or, List.any_eq_true]
          exact ⟨k, hk4, hj⟩
        rw [h0] at this; simp at this

/-- Sets one after the other, without a common member. -/
def Disj : List Nat → Nat → Prop
  | [], _ => True
  | m :: ms, s => s &&& m = 0 ∧ Disj ms (s ||| m)
theorem disj_snoc : ∀ (l : List Nat) (a s : Nat), Disj (l ++ [a]) s ↔ Disj l s ∧ (l.foldl (· ||| ·) s) &&& a = 0
  | [], a, s => by simp [Disj]
  | m :: l, a, s => by
    rw [List.cons_append, Disj, Disj, disj_snoc l a, List.foldl_cons, and_assoc]
theorem pop_or {a b : Nat} (ha : a < 65536) (hb : b < 65536) : pop (a ||| b) ≤ pop a + pop b ∧ (pop (a ||| b) = pop a + pop b ↔ a &&& b = 0) := by
  unfold pop bitsN
  have key : ∀ l : List Nat, (l.filter (a ||| b).testBit).length ≤ (l.filter a.testBit).length + (l.filter b.testBit).length ∧
      ((l.filter (a ||| b).testBit).length = (l.filter a.testBit).length + (l.filter b.testBit).length ↔ ∀ x ∈ l, (a &&& b).testBit x = false) := by
    intro l
    induction l with
    | nil => simp
    | cons x l ih =>
      simp only [List.filter_cons, Nat.testBit_or, Nat.testBit_and, List.mem_cons, forall_eq_or_imp]
      simp only [Nat.testBit_and] at ih
      obtain ⟨i1, i2⟩ := ih
      by_cases h1 : a.testBit x = true <;> by_cases h2 : b.testBit x = true
      · simp only [h1, h2, Bool.or_true, if_true, List.length_cons, Bool.and_true]
        refine ⟨by omega, ⟨fun h => by omega, fun h => by simp at h⟩⟩
      · have h2' : b.testBit x = false := by simpa using h2
        simp only [h1, h2', Bool.or_false, if_true, List.length_cons, Bool.and_false, Bool.false_eq_true, if_false, true_and]
        refine ⟨by omega, ?_⟩
        rw [← i2]; omega
      · have h1' : a.testBit x = false := by simpa using h1
        simp only [h1', h2, Bool.or_true, if_true, List.length_cons, Bool.false_and, Bool.false_eq_true, if_false, true_and]
        refine ⟨by omega, ?_⟩
        rw [← i2]; omega
      · have h1' : a.testBit x = false := by simpa using h1
        have h2' : b.testBit x = false := by simpa using h2
        simp only [h1', h2', Bool.or_false, Bool.false_and, Bool.false_eq_true, if_false, true_and]
        exact ⟨i1, i2⟩
  have := key (List.range 32)
  refine ⟨this.1, this.2.trans ⟨fun h => ?_, fun h => ?_⟩⟩
  · apply nat_ext
    intro i
    by_cases hi : i < 32
    · rw [h i (List.mem_range.2 hi)]; simp
    · have : ¬ a.testBit i = true := fun h => by have := bits16' ha i h; omega
      simp [Nat.testBit_and, this]
  · intro x _
    rw [h]; simp
theorem pop_bit {v : Nat} (hv : v < 16) : pop (bit v) = 1 := by
  have h0 : bit v ≠ 0 := by have := bit_pos v; omega
  have h1 : bit v < 4294967296 := bit_lt (by omega)
  have h2 : bitsN (bit v) = [v] := by
    have e : bitsN (bit v) = (List.range 32).filter fun i => decide (v = i) := by
      unfold bitsN; congr 1; funext i; exact testBit_bit v i
    have hs := bitsN_sorted (bit v)
    have hm : ∀ x, x ∈ bitsN (bit v) ↔ x = v := fun x => by
      rw [e, List.mem_filter, List.mem_range]; simp; omega
    cases h : bitsN (bit v) with
    | nil => have := (hm v).2 rfl; rw [h] at this; simp at this
    | cons a l =>
      have ha : a = v := (hm a).1 (by rw [h]; simp)
      cases l with
      | nil => rw [ha]
      | cons b l =>
        have hb : b = v := (hm b).1 (by rw [h]; simp)
        rw [h] at hs
        have := (List.pairwise_cons.1 hs).1 b (by simp)
        omega
  rw [pop, h2]; rfl
theorem pop_zero : pop 0 = 0 := by simp [pop, bitsN_zero]
theorem pop_le16 {m : Nat} (h : m < 65536) : pop m ≤ 16 := by
  have hsub : bitsN m = (List.range 16).filter m.testBit := by
    have hr : List.range 32 = List.range 16 ++ List.range' 16 16 := by decide
    unfold bitsN
    rw [hr, List.filter_append]
    have : (List.range' 16 16).filter m.testBit = [] := List.filter_eq_nil_iff.2 fun x hx => by
      have := List.mem_range'_1.1 hx
      intro hb; have := bits16' h x hb; omega
    rw [this, List.append_nil]
  rw [pop, hsub]
  have := List.length_filter_le m.testBit (List.range 16)
  simpa using this

/-! Leaves counted, by segments. -/
def cntK (t : List PNode) (lo hi : Nat) : Nat := ((List.range' lo (hi - lo)).filter fun i => decide ((nd t i).kind = 1)).length
theorem cntK_add (t : List PNode) {a b c : Nat} (h1 : a ≤ b) (h2 : b ≤ c) : cntK t a c = cntK t a b + cntK t b c := by
  unfold cntK
  have : List.range' a (c - a) = List.range' a (b - a) ++ List.range' b (c - b) := by
    have := List.range'_append_1 (s := a) (m := b - a) (n := c - b)
    rw [show a + (b - a) = b by omega, show b - a + (c - b) = c - a by omega] at this
    exact this.symm
  rw [this, List.filter_append, List.length_append]
theorem cntK_self (t : List PNode) (a : Nat) : cntK t a a = 0 := by simp [cntK]
theorem cntK_one (t : List PNode) (a : Nat) : cntK t a (a + 1) = if (nd t a).kind = 1 then 1 else 0 := by
  unfold cntK
  rw [show a + 1 - a = 1 by omega]
  by_cases h : (nd t a).kind = 1 <;> simp [h]
def DOk (t : List PNode) (i : Nat) : Prop := (nd t i).kind ≠ 1 → Disj ((nd t i).kids.map fun k => msk t k.toNat) 0
theorem prevI_ge (l : List Nat) : -1 ≤ prevI l := by unfold prevI; split <;> omega
theorem natsZ_map {t : List PNode} (ns : List Nat) : (natsZ ns).map (fun k => msk t k.toNat) = ns.map (msk t) := by
  simp [natsZ]
theorem natsZ_fold {t : List PNode} (ns : List Nat) (s : Nat) : (natsZ ns).foldl (fun m k => m ||| msk t k.toNat) s = (ns.map (msk t)).foldl (· ||| ·) s := by
  rw [List.foldl_map]; simp [natsZ, List.foldl_map]
theorem openF_gap {t : List PNode} {m : Nat} {l r : List Nat} {a : Nat} (h : openF t m = l ++ a :: r) : prevI l < a ∧ a < m := by
  have ha : a < m := openF_lt t m a (by rw [h]; simp)
  refine ⟨?_, ha⟩
  have h4 := openF_prefix t m l r a h
  unfold prevI
  split
  · rename_i b hb
    have hb2 : b ∈ l := List.mem_of_getLast? hb
    have h5 : openF t (a + 1) = (if (nd t a).kind = 1 then openF t a else (openF t a).take ((openF t a).length - (nd t a).kids.length)) ++ [a] := rfl
    rw [h4] at h5
    have h6 := (List.append_inj' h5 rfl).1
    rw [h6] at hb2
    have : b ∈ openF t a := by
      split at hb2
      · exact hb2
      · exact List.mem_of_mem_take hb2
    have := openF_lt t a b this; omega
  · omega
/-- What a node's segment counts. -/
def Cnt (t : List PNode) (lo hi : Nat) (m many : Nat) (P : Prop) : Prop := pop m ≤ cntK t lo hi ∧ (pop m = cntK t lo hi ↔ P ∧ ∀ j, lo ≤ j → j < hi → DOk t j) ∧ hi - lo + many ≤ 2 * cntK t lo hi
theorem cnt_kids {t : List PNode} {m : Nat} (hm : m ≤ t.length) (hd : ∀ j, j < m → Down t j) (ih : ∀ (l r : List Nat) (a : Nat), openF t m = l ++ a :: r → Cnt t (prevI l + 1).toNat (a + 1) (msk t a) 1 True) :
    ∀ (ks l r : List Nat), openF t m = l ++ ks ++ r → (ks.map (msk t)).foldl (· ||| ·) 0 < 65536 ∧ Cnt t (prevI l + 1).toNat (prevI (l ++ ks) + 1).toNat ((ks.map (msk t)).foldl (· ||| ·) 0) ks.length (Disj (ks.map (msk t)) 0) := by
  intro ks
  refine rev_ind (P := fun ks => ∀ (l r : List Nat), openF t m = l ++ ks ++ r → (ks.map (msk t)).foldl (· ||| ·) 0 < 65536 ∧ Cnt t (prevI l + 1).toNat (prevI (l ++ ks) + 1).toNat ((ks.map (msk t)).foldl (· ||| ·) 0) ks.length (Disj (ks.map (msk t)) 0)) ?_ ?_ ks
  · intro l r _
    simp only [List.map_nil, List.foldl_nil, List.append_nil, List.length_nil, Disj]
    refine ⟨by omega, ?_⟩
    unfold Cnt
    rw [cntK_self, pop_zero]
    exact ⟨Nat.le_refl _, ⟨fun _ => ⟨trivial, fun j h1 h2 => by omega⟩, fun _ => rfl⟩, by omega⟩
  · intro ks a ih2 l r h
    have h' : openF t m = (l ++ ks) ++ a :: r := by rw [h]; simp
    have hg := openF_gap h'
    obtain ⟨hlt, i1, i2, i3⟩ := ih2 l (a :: r) (by rw [h]; simp)
    obtain ⟨j1, j2, j3⟩ := ih (l ++ ks) r a h'
    have hmf := msk_facts (t := t) a (by omega) (fun j hj => hd j (by omega))
    have hp := prevI_ge l
    have hp2 := prevI_ge (l ++ ks)
    have hle : prevI l ≤ prevI (l ++ ks) := by
      by_cases hks : ks = []
      · subst hks; simp
      · have hdl := List.dropLast_concat_getLast hks
        have h3 : openF t m = (l ++ ks.dropLast) ++ ks.getLast hks :: (a :: r) := by
          rw [h']
          have : l ++ ks = l ++ ks.dropLast ++ [ks.getLast hks] := by rw [List.append_assoc, hdl]
          rw [this]; simp
        have e : prevI (l ++ ks) = ks.getLast hks := by
          have : l ++ ks = (l ++ ks.dropLast) ++ [ks.getLast hks] := by rw [List.append_assoc, hdl]
          rw [this, prevI_snoc]
        rw [e]
        -- the last of l lies below
        unfold prevI
        split
        · rename_i b hb
          obtain ⟨l1, hl1⟩ : ∃ l1, l = l1 ++ [b] := by
            obtain ⟨l1, hl1⟩ := List.getLast?_eq_some_iff.1 hb; exact ⟨l1, hl1⟩
          have hinc : ∀ (m : Nat), (openF t m).Pairwise (· < ·) := by
            intro m
            induction m with
            | zero => simp [openF]
            | succ m ih =>
              rw [openF, List.pairwise_append]
              refine ⟨?_, by simp, fun x hx y hy => ?_⟩
              · split
                · exact ih
                · exact ih.sublist (List.take_sublist _ _)
              · have hy : y = m := by simpa using hy
                rw [hy]
                have : x ∈ openF t m := by
                  split at hx
                  · exact hx
                  · exact List.mem_of_mem_take hx
                exact openF_lt t m x this
          have hpw := hinc m
          rw [h3, List.pairwise_append] at hpw
          have := hpw.2.2 b (by rw [hl1]; simp) (ks.getLast hks) (by simp)
          omega
        · omega
    have e1 : prevI (l ++ (ks ++ [a])) = a := by rw [← List.append_assoc, prevI_snoc]
    rw [e1, List.map_append, List.map_cons, List.map_nil, List.foldl_append, List.foldl_cons, List.foldl_nil, List.length_append]
    have e2 : ((a : Int) + 1).toNat = a + 1 := by omega
    rw [e2]
    have hsum := cntK_add t (a := (prevI l + 1).toNat) (b := (prevI (l ++ ks) + 1).toNat) (c := a + 1) (by omega) (by omega)
    have hpo := pop_or hlt hmf.1
    refine ⟨Nat.or_lt_two_pow (n := 16) hlt hmf.1, ?_, ?_, ?_⟩
    · omega
    · rw [disj_snoc]
      constructor
      · intro he
        have k1 : pop ((ks.map (msk t)).foldl (· ||| ·) 0) = cntK t (prevI l + 1).toNat (prevI (l ++ ks) + 1).toNat := by omega
        have k2 : pop (msk t a) = cntK t (prevI (l ++ ks) + 1).toNat (a + 1) := by omega
        have k3 := i2.1 k1
        have k4 := j2.1 k2
        refine ⟨⟨k3.1, hpo.2.1 (by omega)⟩, fun j h1 h2 => ?_⟩
        by_cases hj : j < (prevI (l ++ ks) + 1).toNat
        · exact k3.2 j h1 hj
        · exact k4.2 j (by omega) h2
      · rintro ⟨⟨k1, k2⟩, k3⟩
        have k4 := i2.2 ⟨k1, fun j h1 h2 => k3 j h1 (by omega)⟩
        have k5 := j2.2 ⟨trivial, fun j h1 h2 => k3 j (by omega) h2⟩
        have k6 := hpo.2.2 k2
        omega
    · simp only [List.length_cons, List.length_nil]
      omega
theorem cnt_node {t : List PNode} : ∀ i, i < t.length → (∀ j, j ≤ i → SOk t j) → ∀ l, openF t (i + 1) = l ++ [i] → Cnt t (prevI l + 1).toNat (i + 1) (msk t i) 1 True := by
  intro i
  induction i using Nat.strongRecOn with
  | _ i ih =>
    intro hi hok l hl
    have hd : ∀ j, j ≤ i → Down t j := fun j hj => sok_down (hok j hj)
    have hlast : prevI (openF t i) = (i : Int) - 1 := by
      cases i with
      | zero => simp [openF, prevI]
      | succ j => rw [openF, prevI_snoc]; omega
    have hl2 : openF t (i + 1) = (if (nd t i).kind = 1 then openF t i else (openF t i).take ((openF t i).length - (nd t i).kids.length)) ++ [i] := rfl
    rw [hl] at hl2
    have hl3 := (List.append_inj' hl2 rfl).1
    rcases hok i (Nat.le_refl _) with ⟨h1, h2, h3, h4⟩ | ⟨h1, h2, h3, h4, h5, h6⟩
    · rw [if_pos h1] at hl3
      subst hl3
      rw [hlast, msk_leaf hi h1]
      have e : ((i : Int) - 1 + 1).toNat = i := by omega
      rw [e]
      unfold Cnt
      rw [pop_bit (by omega), cntK_one, if_pos h1]
      exact ⟨Nat.le_refl _, ⟨fun _ => ⟨trivial, fun j g1 g2 h => by
        have e2 : j = i := by omega
        rw [e2] at h; exact absurd h1 h⟩, fun _ => rfl⟩, by omega⟩
    · rw [if_neg h1] at hl3
      have hks := cnt_kids (t := t) (m := i) (by omega) (fun j hj => hd j (by omega)) (fun l r a h => ih a (openF_gap h).2 (by have := (openF_gap h).2; omega) (fun j hj => hok j (by have := (openF_gap h).2; omega)) l (openF_prefix t i l r a h))
        ((openF t i).drop ((openF t i).length - (nd t i).kids.length)) l [] (by rw [hl3]; simp)
      rw [hl3, List.take_append_drop, hlast, ← hl3] at hks
      have e : ((i : Int) - 1 + 1).toNat = i := by omega
      rw [e] at hks
      obtain ⟨hlt, k1, k2, k3⟩ := hks
      have hf := natsZ_fold (t := t) ((openF t i).drop ((openF t i).length - (nd t i).kids.length)) 0
      rw [← h6, ← msk_node hi hd h1] at hf
      have hm := natsZ_map (t := t) ((openF t i).drop ((openF t i).length - (nd t i).kids.length))
      rw [← h6] at hm
      have hll : ((openF t i).drop ((openF t i).length - (nd t i).kids.length)).length = (nd t i).kids.length := by rw [List.length_drop]; omega
      rw [← hf] at k1 k2
      rw [← hm] at k2
      rw [hll] at k3
      have hp : prevI l < i := (openF_gap (t := t) (m := i + 1) (l := l) (r := []) (a := i) hl).1
      have hpg := prevI_ge l
      have hs := cntK_add t (a := (prevI l + 1).toNat) (b := i) (c := i + 1) (by omega) (by omega)
      rw [cntK_one, if_neg h1] at hs
      unfold Cnt
      refine ⟨by omega, ?_, by omega⟩
      rw [hs, Nat.add_zero, k2]
      constructor
      · rintro ⟨g1, g2⟩
        refine ⟨trivial, fun j h7 h8 => ?_⟩
        by_cases hj : j = i
        · subst hj; exact fun _ => g1
        · exact g2 j h7 (by omega)
      · rintro ⟨_, g⟩
        exact ⟨g i (by omega) (by omega) h1, fun j h7 h8 => g j h7 (by omega)⟩
end Go.Proofs.YtfccpencgengaaaDoor
