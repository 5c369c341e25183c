/- The order in which edges are put in; plain facts. -/
import Derived.Test.YtdbanndcdbikmaaGreatDoorFacM
import Derived.Test.YtdbanndcdbikmaaGreatDoorDistM
import Derived.Test.YtdbanndcdbikmaaGreatDoorReach2
namespace Go.Proofs.YtdbanndcdbikmaaGreatDoor
open Go.RowKit
def nextL (t : List (List Nat)) : List Nat := t.map fun l => maskL (natsI l)
def bigP (l : List Nat) : List Nat := l.filter fun m => decide (1 < popN m)
noncomputable def partP (a : List Nat) (wi : Nat) : Nat := (bigP (partsN a wi)).length
noncomputable def partV (a : List Nat) (wi : Nat) : Nat := ((bigP (partsN a wi)).map popN).sum
def sidesN (t : List (List Nat)) : Nat := (t.map List.length).sum
noncomputable def twiceI (t : List (List Nat)) : Int := 2 * (partP (nextL t) (firstN t.length) : Int) + ((sidesN t / 2 : Nat) : Int) - (partV (nextL t) (firstN t.length) : Int) - ((facesN t).length : Int)
theorem nextL_len (t : List (List Nat)) : (nextL t).length = t.length := by simp [nextL]
theorem natsI_range {t : List (List Nat)} (h : RotN t) (u : Nat) : ∀ x ∈ natsI (t.getD u []), 0 ≤ x ∧ x < 32 := fun x hx => by
  unfold natsI at hx
  obtain ⟨v, hv, rfl⟩ := List.mem_map.1 hx
  have := (h.sym u v hv).1
  have := h.le
  omega
theorem mask32G {s : List Int} (h : ∀ x ∈ s, 0 ≤ x ∧ x < 32) : maskL s < 4294967296 := by
  have := maskL_lt (xs := s) (n := 32) h; simpa using this
theorem nextL_lt {t : List (List Nat)} (h : RotN t) : ∀ m ∈ nextL t, m < 4294967296 := fun m hm => by
  obtain ⟨l, hl, rfl⟩ := List.mem_map.1 hm
  obtain ⟨i, hi, rfl⟩ := List.getElem_of_mem hl
  have := natsI_range h i
  have e : t.getD i [] = t[i] := by simp [hi]
  rw [e] at this
  exact mask32G this
theorem bigP_le (l : List Nat) : (bigP l).length ≤ l.length := List.length_filter_le _ _
theorem sum_le32 : ∀ l : List Nat, (l.map popN).sum ≤ 32 * l.length
  | [] => by simp
  | x :: l => by
    have := sum_le32 l
    have h := popN_32 x
    simp only [List.map_cons, List.sum_cons, List.length_cons]
    omega
theorem partP_le (a : List Nat) (wi : Nat) : partP a wi ≤ 33 := Nat.le_trans (bigP_le _) (partsN_len a wi)
theorem partV_le (a : List Nat) (wi : Nat) : partV a wi ≤ 1056 := by
  have h1 := sum_le32 (bigP (partsN a wi))
  have h2 := partP_le a wi
  unfold partP at h2
  unfold partV
  omega
theorem part_zero (a : List Nat) : partP a 0 = 0 ∧ partV a 0 = 0 := by simp [partP, partV, partsN_zero, bigP]
theorem part_step {a : List Nat} {wi : Nat} (hw : wi < 4294967296) (h0 : wi ≠ 0) :
    partP a wi = (if 1 < popN (reachN a wi (Lib.ctz 32 wi)) then 1 else 0) + partP a (andN wi (reachN a wi (Lib.ctz 32 wi))) ∧
    partV a wi = (if 1 < popN (reachN a wi (Lib.ctz 32 wi)) then popN (reachN a wi (Lib.ctz 32 wi)) else 0) + partV a (andN wi (reachN a wi (Lib.ctz 32 wi))) := by
  unfold partP partV
  rw [partsN_step hw h0]
  unfold bigP
  rw [List.filter_cons]
  by_cases h : 1 < popN (reachN a wi (Lib.ctz 32 wi))
  · simp [h]; omega
  · simp [h]
theorem sides_take {t : List (List Nat)} {k : Nat} (hk : k < t.length) : sidesN (t.take (k + 1)) = sidesN (t.take k) + t[k].length := by
  unfold sidesN
  rw [List.take_succ_eq_append_getElem hk, List.map_append, List.sum_append]; simp
theorem sides_le {t : List (List Nat)} (h : RotN t) : ∀ k, k ≤ t.length → sidesN (t.take k) ≤ 16 * k
  | 0, _ => by simp [sidesN]
  | k + 1, hk => by
    have ih := sides_le h k (by omega)
    have := rot_row h k
    have e : t.getD k [] = t[k] := by simp [show k < t.length by omega]
    rw [e] at this
    rw [sides_take (by omega)]
    omega
theorem darts_nodup (t : List (List Nat)) : (dartsN t).Nodup := by
  unfold dartsN
  rw [List.Nodup, List.pairwise_flatMap]
  refine ⟨fun u _ => ?_, ?_⟩
  · rw [List.pairwise_map]
    refine List.Pairwise.imp ?_ ((List.pairwise_lt_range (n := t.length)).filter _)
    intro a b hab e
    simp at e; omega
  · refine List.Pairwise.imp ?_ (List.pairwise_lt_range (n := t.length))
    intro a b hab x hx y hy e
    obtain ⟨_, _, rfl⟩ := List.mem_map.1 hx
    obtain ⟨_, _, rfl⟩ := List.mem_map.1 hy
    simp at e; omega
theorem swap_le {t : List (List Nat)} (h : RotN t) (p q : Dart → Bool) (hpq : ∀ x, p x = true → q (x.2, x.1) = true) : ((dartsN t).filter p).length ≤ ((dartsN t).filter q).length := by
  have hn : (((dartsN t).filter p).map fun x => (x.2, x.1)).Nodup := by
    rw [List.Nodup, List.pairwise_map]
    refine List.Pairwise.imp ?_ ((darts_nodup t).filter p)
    rintro ⟨a, b⟩ ⟨c, d⟩ hne e
    simp at e hne
    exact hne e.2 e.1
  have := nodup_lenA hn (E := (dartsN t).filter q) (fun y hy => by
    obtain ⟨x, hx, rfl⟩ := List.mem_map.1 hy
    obtain ⟨h1, h2⟩ := List.mem_filter.1 hx
    exact List.mem_filter.2 ⟨(mem_dartsN h).2 (h.sym _ _ ((mem_dartsN h).1 h1)).2, hpq x h2⟩)
  simpa using this
theorem darts_even {t : List (List Nat)} (h : RotN t) (hir : ∀ u, u ∉ t.getD u []) : (dartsN t).length = 2 * ((dartsN t).filter fun x => decide (x.1 < x.2)).length := by
  have e1 : ((dartsN t).filter fun x => decide (x.1 < x.2)).length = ((dartsN t).filter fun x => decide (x.2 < x.1)).length :=
    Nat.le_antisymm (swap_le h _ _ (fun x hx => by simpa using hx)) (swap_le h _ _ (fun x hx => by simpa using hx))
  have e2 : ((dartsN t).filter fun x => !decide (x.1 < x.2)) = (dartsN t).filter fun x => decide (x.2 < x.1) := by
    apply List.filter_congr
    rintro ⟨a, b⟩ hx
    have hD := (mem_dartsN h).1 hx
    have : a ≠ b := fun e => hir a (by subst e; exact hD)
    rw [Bool.eq_iff_iff]
    simp only [Bool.not_eq_true', decide_eq_false_iff_not, decide_eq_true_eq]
    omega
  have e3 : (dartsN t).length = ((dartsN t).filter fun x => decide (x.1 < x.2)).length + ((dartsN t).filter fun x => !decide (x.1 < x.2)).length := by
    have : ∀ l : List Dart, l.length = (l.filter fun x => decide (x.1 < x.2)).length + (l.filter fun x => !decide (x.1 < x.2)).length := fun l => by
      induction l with
      | nil => rfl
      | cons x l ih =>
        rw [List.filter_cons, List.filter_cons]
        by_cases h : x.1 < x.2
        · simp [h, ih]; omega
        · simp [h, ih]; omega
    exact this _
  rw [e2, ← e1] at e3
  omega
theorem sum_rows {t : List (List Nat)} (f : Nat → Nat) (hf : ∀ u, u < t.length → f u = (t.getD u []).length) : ((List.range t.length).map f).sum = sidesN t := by
  have e : (List.range t.length).map f = t.map List.length := by
    apply List.ext_getElem (by simp)
    intro i h1 h2
    have hi : i < t.length := by simpa using h1
    simp only [List.getElem_map, List.getElem_range]
    rw [hf i hi]
    simp [hi]
  rw [e]; rfl
theorem darts_sides {t : List (List Nat)} (h : RotN t) : (dartsN t).length = sidesN t := by
  unfold dartsN
  rw [List.length_flatMap]
  exact sum_rows _ (fun u hu => by rw [List.length_map, row_len h])
theorem pop_splitP {s r : Nat} (hs : s < 4294967296) (hr : r < 4294967296) (h : ∀ i, r.testBit i = true → s.testBit i = true) : popN s = popN r + popN (andN s r) := by
  have hA := Nat.lt_of_le_of_lt (andN_le s r) hs
  have hnd : ∀ m, (bitsN m).Nodup := fun m => (bitsN_sorted m).imp fun h => by omega
  have hcat : (bitsN r ++ bitsN (andN s r)).Nodup := by
    rw [List.nodup_append]
    refine ⟨hnd _, hnd _, fun a ha b hb e => ?_⟩
    subst e
    have h1 := (mem_bitsN hr).1 ha
    have h2 := (mem_bitsN hA).1 hb
    rw [testBit_andN hs hr, h1] at h2
    simp at h2
  have e1 := nodup_lenA hcat (E := bitsN s) (fun x hx => by
    rcases List.mem_append.1 hx with hx | hx
    · exact (mem_bitsN hs).2 (h x ((mem_bitsN hr).1 hx))
    · have := (mem_bitsN hA).1 hx
      rw [testBit_andN hs hr, Bool.and_eq_true] at this
      exact (mem_bitsN hs).2 this.1)
  have e2 := nodup_lenA (hnd s) (E := bitsN r ++ bitsN (andN s r)) (fun x hx => by
    have hx := (mem_bitsN hs).1 hx
    rw [List.mem_append]
    cases hb : r.testBit x
    · exact .inr ((mem_bitsN hA).2 (by rw [testBit_andN hs hr, hx, hb]; rfl))
    · exact .inl ((mem_bitsN hr).2 hb))
  rw [List.length_append] at e1 e2
  unfold popN
  omega
/-- The vertices with neighbours. -/
def fullQ (t : List (List Nat)) : Nat := maskN ((List.range t.length).filter fun v => decide (t.getD v [] ≠ []))
theorem testBit_fullQ {t : List (List Nat)} {v : Nat} : (fullQ t).testBit v = true ↔ v < t.length ∧ t.getD v [] ≠ [] := by
  unfold fullQ
  rw [testBit_maskN, decide_eq_true_eq, List.mem_filter, List.mem_range, decide_eq_true_eq]
theorem nextL_bit {t : List (List Nat)} (h : RotN t) {u v : Nat} : ((nextL t).getD u 0).testBit v = true ↔ v ∈ t.getD u [] := by
  by_cases hu : u < t.length
  · have e : (nextL t).getD u 0 = maskL (natsI (t.getD u [])) := by simp [nextL, hu]
    rw [e, testBit_maskL (fun x hx => (natsI_range h u x hx).1), decide_eq_true_eq]
    unfold natsI
    rw [List.mem_map]
    constructor
    · rintro ⟨w, hw, e⟩
      have : w = v := by omega
      subst this; exact hw
    · intro hv; exact ⟨v, hv, rfl⟩
  · have e : (nextL t).getD u 0 = 0 := by simp [nextL, show t.length ≤ u by omega]
    have e2 : t.getD u [] = [] := by simp [show t.length ≤ u by omega]
    rw [e, e2, Nat.zero_testBit]; simp
theorem pop_one_all {m c : Nat} (hm : m < 4294967296) (hc : m.testBit c = true) (h : ¬ 1 < popN m) {x : Nat} (hx : m.testBit x = true) : x = c := by
  apply Classical.byContradiction
  intro hne
  have hnd : [c, x].Nodup := by simp; exact fun e => hne e.symm
  have := nodup_lenA hnd (E := bitsN m) (fun y hy => by
    rcases List.mem_cons.1 hy with rfl | hy
    · exact (mem_bitsN hm).2 hc
    · simp at hy; subst hy; exact (mem_bitsN hm).2 hx)
  unfold popN at h
  simp at this; omega
theorem partV_full {t : List (List Nat)} (h : RotN t) (hir : ∀ u, u ∉ t.getD u []) : ∀ k wi, wi < k → wi < 2 ^ t.length → (∀ v u, wi.testBit v = true → u ∈ t.getD v [] → wi.testBit u = true) → partV (nextL t) wi = popN (wi &&& fullQ t)
  | 0, _, hk, _, _ => by omega
  | k + 1, wi, hk, hwn, hcl => by
    have hw : wi < 4294967296 := Nat.lt_trans hwn (pow16_lt h.le)
    by_cases h0 : wi = 0
    · subst h0
      rw [(part_zero _).2, Nat.zero_and]
      exact ((popN_zero (by omega)).2 rfl).symm
    have hs : SymN (nextL t) wi := fun x y _ _ hb => (nextL_bit h).2 (h.sym _ _ ((nextL_bit h).1 hb)).2
    have hc := ctz_bit h0 hw
    have hc32 := bit_lt_of (n := 32) hw hc
    rw [(part_step hw h0).2]
    have hless := parts_less (a := nextL t) hw h0
    have hstart := reach_start (a := nextL t) hw hc32
    have hsub := fun i (hi : (reachN (nextL t) wi (Lib.ctz 32 wi)).testBit i = true) => reach_sub hw hc hi
    have hclo := reach_closed (a := nextL t) hw hc32
    have heq := fun x (hx : (reachN (nextL t) wi (Lib.ctz 32 wi)).testBit x = true) => reach_eq hw hs hc hx
    have hP := reachN_lt (nextL t) wi (Lib.ctz 32 wi)
    generalize Lib.ctz 32 wi = c at *
    generalize hPe : reachN (nextL t) wi c = P at *
    have hA := Nat.lt_of_le_of_lt (andN_le wi P) hw
    have ih := partV_full h hir k (andN wi P) (by omega) (Nat.lt_of_le_of_lt (andN_le wi P) hwn) (fun v u hv hu => by
      rw [testBit_andN hw hP, Bool.and_eq_true] at hv ⊢
      refine ⟨hcl v u hv.1 hu, ?_⟩
      cases hb : P.testBit u
      · rfl
      · have := hclo u hb v hv.1 ((nextL_bit h).2 (h.sym v u hu).2)
        rw [this] at hv; simp at hv)
    rw [ih]
    have hF : ∀ m : Nat, m < 4294967296 → m &&& fullQ t < 4294967296 := fun m hm => Nat.lt_of_le_of_lt Nat.and_le_left hm
    have hsplit := pop_splitP (s := wi &&& fullQ t) (r := P &&& fullQ t) (hF _ hw) (hF _ hP) (fun i hi => by
      rw [Nat.testBit_and, Bool.and_eq_true] at hi ⊢
      exact ⟨hsub i hi.1, hi.2⟩)
    have e : andN (wi &&& fullQ t) (P &&& fullQ t) = andN wi P &&& fullQ t := by
      apply nat_ext
      intro i
      rw [testBit_andN (hF _ hw) (hF _ hP), Nat.testBit_and, Nat.testBit_and, Nat.testBit_and, testBit_andN hw hP]
      cases wi.testBit i <;> cases P.testBit i <;> cases (fullQ t).testBit i <;> rfl
    rw [e] at hsplit
    rw [hsplit]
    congr 1
    have hcn : c < t.length := bit_lt_of hwn hc
    by_cases hp : 1 < popN P
    · rw [if_pos hp]
      congr 1
      apply nat_ext
      intro i
      rw [Nat.testBit_and]
      cases hi : P.testBit i
      · rfl
      · rw [Bool.true_and]
        symm
        refine testBit_fullQ.2 ⟨bit_lt_of hwn (hsub i hi), fun he => ?_⟩
        have hone : ClosedN (nextL t) wi (bit i) := fun x hx u _ hb => by
          rw [testBit_bit, decide_eq_true_eq] at hx
          subst hx
          have := (nextL_bit h).1 hb
          rw [he] at this; simp at this
        have hi32 := bit_lt_of (n := 32) hP hi
        have hall : ∀ y, P.testBit y = true → y = i := fun y hy => by
          rw [← heq i hi] at hy
          have := reach_least hw hi32 hone (by rw [testBit_bit, decide_eq_true_eq]) hy
          rw [testBit_bit, decide_eq_true_eq] at this
          exact this.symm
        have hl := nodup_lenA (l := bitsN P) (E := [i]) ((bitsN_sorted P).imp fun h => by omega) (fun y hy => by rw [hall y ((mem_bitsN hP).1 hy)]; simp)
        unfold popN at hp
        simp at hl; omega
    · rw [if_neg hp]
      have hz : P &&& fullQ t = 0 := by
        apply nat_ext
        intro i
        rw [Nat.testBit_and, Nat.zero_testBit]
        cases hi : P.testBit i
        · rfl
        · rw [Bool.true_and]
          cases hq : (fullQ t).testBit i
          · rfl
          · exfalso
            obtain ⟨h1, h2⟩ := testBit_fullQ.1 hq
            obtain ⟨u, hu⟩ := List.exists_mem_of_ne_nil _ h2
            have hu2 := hclo i hi u (hcl i u (hsub i hi) hu) ((nextL_bit h).2 hu)
            exact hir i (by
              have := pop_one_all hP hi hp hu2
              rw [this] at hu; exact hu)
      rw [hz]
      exact ((popN_zero (by omega)).2 rfl).symm
/-- The turns as a permutation of sides. -/
def turnD (t : List (List Nat)) (x : Dart) : Dart := (x.1, nextIn (t.getD x.1 []) x.2)
theorem succ_turn (t : List (List Nat)) (x : Dart) : succD t x = turnD t (revD x) := rfl
theorem turn_permP {t : List (List Nat)} (h : RotN t) : PermF (dartsN t) (turnD t) := by
  refine ⟨fun x hx => ?_, fun x y hx hy e => ?_⟩
  · rw [mem_dartsN h] at hx ⊢
    exact nextIn_mem hx
  · rw [mem_dartsN h] at hx hy
    obtain ⟨x1, x2⟩ := x
    obtain ⟨y1, y2⟩ := y
    simp only [turnD, Prod.mk.injEq] at e
    obtain ⟨rfl, e⟩ := e
    exact congrArg (x1, ·) (nextIn_inj (h.nd _) hx hy e)
theorem succ_perm {t : List (List Nat)} (h : RotN t) : PermF (dartsN t) (succD t) :=
  ⟨fun x hx => (mem_dartsN h).2 (succ_isD h ((mem_dartsN h).1 hx)), fun x y hx hy e => succ_inj h ((mem_dartsN h).1 hx) ((mem_dartsN h).1 hy) e⟩
theorem itD_itF (t : List (List Nat)) : ∀ (k : Nat) (x : Dart), itD t k x = itF (succD t) k x
  | 0, _ => rfl
  | k + 1, x => by rw [itD, itF, itD_itF t k]
theorem leads_iff {t : List (List Nat)} {x y : Dart} : Leads t x y ↔ LeadF (succD t) x y := by
  unfold Leads LeadF
  simp only [itD_itF]
/-- The faces are the cycles. -/
theorem cyc_faces {t : List (List Nat)} (h : RotN t) : cycF (dartsN t) (succD t) = (facesN t).length := by
  obtain ⟨S, hS, e⟩ := faces_reps h
  rw [← e]
  refine cyc_eq (succ_perm h) ⟨fun s hs => (mem_dartsN h).2 (hS.all s hs), hS.apart.imp fun hn hc => hn (leads_iff.2 hc), fun y hy => ?_⟩
  obtain ⟨s, hs, hl⟩ := hS.cover y ((mem_dartsN h).1 hy)
  exact ⟨s, hs, leads_iff.1 hl⟩
theorem turn_it {t : List (List Nat)} (h : RotN t) {u : Nat} : ∀ (j : Nat) (hj : j < (t.getD u []).length) (h0 : 0 < (t.getD u []).length), itF (turnD t) j (u, (t.getD u [])[0]) = (u, (t.getD u [])[j])
  | 0, _, _ => rfl
  | j + 1, hj, h0 => by
    rw [itF_succ, turn_it h j (by omega) h0]
    simp only [turnD, Prod.mk.injEq, true_and]
    rw [nextIn_at (h.nd u) (show j < (t.getD u []).length by omega), Nat.mod_eq_of_lt hj, List.getD_eq_getElem?_getD, List.getElem?_eq_getElem hj]
    rfl
theorem cyc_turn {t : List (List Nat)} (h : RotN t) : cycF (dartsN t) (turnD t) = popN (fullQ t) := by
  have hfix : ∀ {x y : Dart}, LeadF (turnD t) x y → y.1 = x.1 := fun {x y} hl => LeadF.closed (f := turnD t) (C := fun z : Dart => z.1 = x.1) (fun z hz => hz) rfl hl
  have hlt : fullQ t < 4294967296 := by
    have : fullQ t < 2 ^ t.length := lt_bits fun i hi => (testBit_fullQ.1 hi).1
    exact Nat.lt_trans this (pow16_lt h.le)
  have hS : RepF (dartsN t) (turnD t) ((bitsN (fullQ t)).map fun u => (u, (t.getD u []).headD 0)) := by
    refine ⟨fun s hs => ?_, ?_, fun y hy => ?_⟩
    · obtain ⟨u, hu, rfl⟩ := List.mem_map.1 hs
      have := (testBit_fullQ.1 ((mem_bitsN hlt).1 hu)).2
      refine (mem_dartsN h).2 ?_
      show (t.getD u []).headD 0 ∈ t.getD u []
      generalize t.getD u [] = l at *
      cases l with
      | nil => exact absurd rfl this
      | cons a l => simp
    · rw [List.pairwise_map]
      refine (bitsN_sorted _).imp fun hlt hc => ?_
      have := hfix hc
      simp only at this
      omega
    · have hD : y.2 ∈ t.getD y.1 [] := (mem_dartsN h).1 hy
      have hy1 := h.lt hD
      have hne : t.getD y.1 [] ≠ [] := List.ne_nil_of_mem hD
      refine ⟨_, List.mem_map.2 ⟨y.1, (mem_bitsN hlt).2 (testBit_fullQ.2 ⟨hy1, hne⟩), rfl⟩, ?_⟩
      obtain ⟨j, hj, e⟩ := List.getElem_of_mem hD
      have h0 : 0 < (t.getD y.1 []).length := by omega
      refine ⟨j, ?_⟩
      have e0 : (t.getD y.1 []).headD 0 = (t.getD y.1 [])[0] := by
        generalize t.getD y.1 [] = l at *
        cases l with
        | nil => simp at h0
        | cons a l => rfl
      rw [e0, turn_it h j hj h0, e]
  rw [cyc_eq (turn_permP h) hS, List.length_map]
  rfl
/-- Turned round along some edges. -/
def somR (t : List (List Nat)) (L : List Dart) (x : Dart) : Dart := if x ∈ L ∨ revD x ∈ L then turnD t (revD x) else turnD t x
theorem revD_revD (x : Dart) : revD (revD x) = x := rfl
theorem som_cons (t : List (List Nat)) {e : Dart} {L : List Dart} (h1 : e ∉ L) (h2 : revD e ∉ L) : somR t (e :: L) = swapF e (revD e) (somR t L) := by
  funext x
  unfold swapF
  by_cases hx : x = e
  · subst hx
    rw [if_pos rfl]
    unfold somR
    rw [if_pos (.inl (by simp)), if_neg (by rw [revD_revD]; exact fun hc => hc.elim h2 h1)]
  · rw [if_neg hx]
    by_cases hx2 : x = revD e
    · subst hx2
      rw [if_pos rfl]
      unfold somR
      rw [if_pos (.inr (by rw [revD_revD]; simp)), if_neg (fun hc => hc.elim h1 h2), revD_revD]
    · rw [if_neg hx2]
      have hx3 : revD x ≠ e := fun hc => hx2 (by rw [← hc]; rfl)
      unfold somR
      simp only [List.mem_cons, hx, hx3, false_or]
theorem som_parity {t : List (List Nat)} (h : RotN t) : ∀ L : List Dart, L.Nodup → (∀ x ∈ L, x ∈ dartsN t ∧ x.1 < x.2) → PermF (dartsN t) (somR t L) ∧ (cycF (dartsN t) (somR t L) + L.length + cycF (dartsN t) (turnD t)) % 2 = 0
  | [], _, _ => by
    have e : somR t [] = turnD t := by funext x; simp [somR]
    rw [e]
    exact ⟨turn_permP h, by simp; omega⟩
  | e :: L, hn, hL => by
    obtain ⟨h1, h2⟩ := List.nodup_cons.1 hn
    obtain ⟨ih1, ih2⟩ := som_parity h L h2 (fun x hx => hL x (by simp [hx]))
    have he := hL e (by simp)
    have hr : revD e ∉ L := fun hc => by
      have := (hL (revD e) (by simp [hc])).2
      have := he.2
      simp only [revD] at *
      omega
    have hrD : revD e ∈ dartsN t := (mem_dartsN h).2 (h.sym _ _ ((mem_dartsN h).1 he.1)).2
    have hne : e ≠ revD e := fun hc => by
      have h3 := he.2
      have h4 := congrArg Prod.fst hc
      simp only [revD] at h4
      omega
    rw [som_cons t h1 hr]
    refine ⟨swap_perm ih1 he.1 hrD, ?_⟩
    rw [List.length_cons]
    by_cases hl : LeadF (somR t L) e (revD e)
    · have := (cyc_split ih1 he.1 hrD hne hl).1
      omega
    · have := (cyc_join ih1 he.1 hrD hl).1
      omega
theorem cyc_congr {α : Type} [DecidableEq α] {D : List α} {f g : α → α} (h : PermF D f) (he : ∀ x, x ∈ D → f x = g x) : cycF D g = cycF D f := by
  have hg : PermF D g := ⟨fun x hx => by rw [← he x hx]; exact h.maps x hx, fun x y hx hy e => h.inj x y hx hy (by rw [he x hx, he y hy]; exact e)⟩
  have hit : ∀ k x, x ∈ D → itF g k x = itF f k x := fun k x hx => by
    induction k with
    | zero => rfl
    | succ k ih => rw [itF_succ, itF_succ, ih, he _ (itF_in h hx k)]
  obtain ⟨S, hS⟩ := rep_ex h
  rw [cyc_eq h hS]
  refine cyc_eq hg ⟨hS.all, ?_, fun y hy => ?_⟩
  · refine List.Pairwise.imp_of_mem ?_ hS.apart
    rintro a b ha hb hn ⟨k, hk⟩
    exact hn ⟨k, by rw [← hit k a (hS.all a ha)]; exact hk⟩
  · obtain ⟨s, hs, k, hk⟩ := hS.cover y hy
    exact ⟨s, hs, k, by rw [hit k s (hS.all s hs)]; exact hk⟩
theorem twice_even {t : List (List Nat)} (h : RotN t) (hir : ∀ u, u ∉ t.getD u []) : twiceI t % 2 = 0 := by
  have hE : ∀ x ∈ (dartsN t).filter fun x => decide (x.1 < x.2), x ∈ dartsN t ∧ x.1 < x.2 := fun x hx => by
    obtain ⟨h1, h2⟩ := List.mem_filter.1 hx
    exact ⟨h1, of_decide_eq_true h2⟩
  have hp := som_parity h _ ((darts_nodup t).filter _) hE
  have hc : cycF (dartsN t) (succD t) = cycF (dartsN t) (somR t ((dartsN t).filter fun x => decide (x.1 < x.2))) := by
    refine cyc_congr hp.1 (fun x hx => ?_)
    have hxD := (mem_dartsN h).1 hx
    have hne : x.1 ≠ x.2 := fun e => hir x.2 (by have h3 : x.2 ∈ t.getD x.1 [] := hxD; rw [e] at h3; exact h3)
    unfold somR
    rw [if_pos, succ_turn]
    by_cases hlt : x.1 < x.2
    · exact .inl (List.mem_filter.2 ⟨hx, decide_eq_true hlt⟩)
    · exact .inr (List.mem_filter.2 ⟨(mem_dartsN h).2 (h.sym _ _ hxD).2, decide_eq_true (by simp only [revD]; omega)⟩)
  have hp2 := hp.2
  rw [← hc, cyc_faces h, cyc_turn h] at hp2
  have hs := darts_even h hir
  rw [darts_sides h] at hs
  have hV : partV (nextL t) (firstN t.length) = popN (fullQ t) := by
    have hf : firstN t.length < 2 ^ t.length := by unfold firstN; have := Nat.two_pow_pos t.length; omega
    rw [partV_full h hir _ _ (Nat.lt_succ_self _) hf (fun v u _ hu => by rw [testBit_firstN, decide_eq_true_eq]; exact (h.sym v u hu).1)]
    congr 1
    apply nat_ext
    intro i
    rw [Nat.testBit_and]
    cases hq : (fullQ t).testBit i
    · simp
    · rw [testBit_firstN, decide_eq_true (testBit_fullQ.1 hq).1]; rfl
  unfold twiceI
  rw [hV]
  have h2 : sidesN t / 2 = ((dartsN t).filter fun x => decide (x.1 < x.2)).length := by omega
  rw [h2]
  generalize ((dartsN t).filter fun x => decide (x.1 < x.2)).length = E at *
  generalize popN (fullQ t) = V at *
  generalize (facesN t).length = F at *
  omega
theorem perm_memD {α : Type} {D D' : List α} {f : α → α} (h : PermF D f) (he : ∀ x, x ∈ D' ↔ x ∈ D) : PermF D' f :=
  ⟨fun x hx => (he _).2 (h.maps x ((he x).1 hx)), fun x y hx hy e => h.inj x y ((he x).1 hx) ((he y).1 hy) e⟩
theorem cyc_memD {α : Type} [DecidableEq α] {D D' : List α} {f : α → α} (h : PermF D f) (he : ∀ x, x ∈ D' ↔ x ∈ D) : cycF D' f = cycF D f := by
  obtain ⟨S, hS⟩ := rep_ex h
  rw [cyc_eq h hS]
  exact cyc_eq (perm_memD h he) ⟨fun s hs => (he s).2 (hS.all s hs), hS.apart, fun y hy => hS.cover y ((he y).1 hy)⟩
theorem itF_congr {α : Type} {D : List α} {f g : α → α} (h : PermF D f) (he : ∀ x, x ∈ D → g x = f x) {x : α} (hx : x ∈ D) : ∀ k, itF g k x = itF f k x
  | 0 => rfl
  | k + 1 => by rw [itF_succ, itF_succ, itF_congr h he hx k, he _ (itF_in h hx k)]
theorem leadF_congr {α : Type} {D : List α} {f g : α → α} (h : PermF D f) (he : ∀ x, x ∈ D → g x = f x) {x y : α} (hx : x ∈ D) : LeadF g x y ↔ LeadF f x y := by
  unfold LeadF
  simp only [itF_congr h he hx]
theorem itF_fix {α : Type} {f : α → α} {x : α} (h : f x = x) : ∀ k, itF f k x = x
  | 0 => rfl
  | k + 1 => by rw [itF, h, itF_fix h k]
/-- One more element that stays where it is. -/
theorem cyc_fix {α : Type} [DecidableEq α] {D : List α} {f g : α → α} (h : PermF D f) {x : α} (hx : x ∉ D) (he : ∀ y, y ∈ D → g y = f y) (hg : g x = x) :
    PermF (x :: D) g ∧ cycF (x :: D) g = cycF D f + 1 := by
  have hp : PermF (x :: D) g := by
    refine ⟨fun y hy => ?_, fun y z hy hz e => ?_⟩
    · rcases List.mem_cons.1 hy with rfl | hy
      · rw [hg]; simp
      · rw [he y hy]; exact List.mem_cons_of_mem _ (h.maps y hy)
    · rcases List.mem_cons.1 hy with hy1 | hy1 <;> rcases List.mem_cons.1 hz with hz1 | hz1
      · rw [hy1, hz1]
      · rw [hy1, hg, he z hz1] at e; exact absurd (e ▸ h.maps z hz1) hx
      · rw [hz1, hg, he y hy1] at e; exact absurd (e ▸ h.maps y hy1) hx
      · rw [he y hy1, he z hz1] at e; exact h.inj y z hy1 hz1 e
  refine ⟨hp, ?_⟩
  obtain ⟨S, hS⟩ := rep_ex h
  rw [cyc_eq h hS]
  refine cyc_eq (S := x :: S) hp ⟨fun s hs => ?_, ?_, fun y hy => ?_⟩
  · rcases List.mem_cons.1 hs with rfl | hs
    · simp
    · exact List.mem_cons_of_mem _ (hS.all s hs)
  · rw [List.pairwise_cons]
    refine ⟨fun s hs hl => ?_, List.Pairwise.imp_of_mem ?_ hS.apart⟩
    · obtain ⟨k, e⟩ := hl
      rw [itF_fix hg] at e
      exact hx (e ▸ hS.all s hs)
    · intro a b ha _ hn hl
      exact hn ((leadF_congr h he (hS.all a ha)).1 hl)
  · rcases List.mem_cons.1 hy with rfl | hy
    · exact ⟨y, by simp, LeadF.refl _ _⟩
    · obtain ⟨s, hs, hl⟩ := hS.cover y hy
      exact ⟨s, by simp [hs], (leadF_congr h he (hS.all s hs)).2 hl⟩
theorem not_lead_fix {α : Type} {D : List α} {f : α → α} (h : PermF D f) {a x : α} (ha : a ∈ D) (hf : f x = x) (hne : a ≠ x) : ¬ LeadF f a x := fun hl => by
  obtain ⟨k, e⟩ := LeadF.symm h ha hl
  rw [itF_fix hf] at e
  exact hne e.symm
/-! The faces. -/
/-- The sides with two more that stay where they are. -/
def fixD (t : List (List Nat)) (x y : Dart) (z : Dart) : Dart := if z = x then x else if z = y then y else succD t z
theorem fix_cyc {t : List (List Nat)} (h : RotN t) {x y : Dart} (hx : x ∉ dartsN t) (hy : y ∉ dartsN t) (hne : x ≠ y) : PermF (x :: y :: dartsN t) (fixD t x y) ∧ cycF (x :: y :: dartsN t) (fixD t x y) = (facesN t).length + 2 := by
  have h0 := succ_perm h
  have h1 := cyc_fix (g := fun z => if z = y then y else succD t z) h0 hy (fun z hz => if_neg fun e : z = y => hy (e ▸ hz)) (if_pos rfl)
  have h2 := cyc_fix (x := x) (g := fixD t x y) h1.1 (by simp only [List.mem_cons, not_or]; exact ⟨hne, hx⟩) (fun z hz => by
    unfold fixD
    rw [if_neg]
    intro e
    subst e
    rcases List.mem_cons.1 hz with e | hz
    · exact hne e
    · exact hx hz) (by unfold fixD; rw [if_pos rfl])
  refine ⟨h2.1, ?_⟩
  rw [h2.2, h1.2, cyc_faces h]
theorem fix_x (t : List (List Nat)) (x y : Dart) : fixD t x y x = x := by rw [fixD, if_pos rfl]
theorem fix_y {t : List (List Nat)} {x y : Dart} : fixD t x y y = y := by
  unfold fixD
  split
  · rename_i h; rw [h]
  · rw [if_pos rfl]
theorem fix_o {t : List (List Nat)} {x y z : Dart} (h1 : z ≠ x) (h2 : z ≠ y) : fixD t x y z = succD t z := by rw [fixD, if_neg h1, if_neg h2]
/-- An edge put into a system. -/
structure StepC (t : List (List Nat)) (u v i k : Nat) : Prop where
  rot : RotN t
  irr : ∀ a, a ∉ t.getD a []
  hu : u < t.length
  hv : v < t.length
  ne : u ≠ v
  new : v ∉ t.getD u []
  hi : i < max 1 (t.getD u []).length
  hk : k < max 1 (t.getD v []).length
theorem StepC.new2 {t : List (List Nat)} {u v i k : Nat} (h : StepC t u v i k) : u ∉ t.getD v [] := fun hc => h.new (h.rot.sym _ _ hc).2
theorem StepC.rot2 {t : List (List Nat)} {u v i k : Nat} (h : StepC t u v i k) : RotN (stepE t u v i k) := step_rot h.rot h.hu h.hv h.ne h.new i k
theorem StepC.irr2 {t : List (List Nat)} {u v i k : Nat} (h : StepC t u v i k) : ∀ a, a ∉ (stepE t u v i k).getD a [] := fun a ha => by
  rw [step_mem h.hu h.hv h.ne] at ha
  rcases ha with ha | ⟨h1, h2⟩ | ⟨h1, h2⟩
  · exact h.irr a ha
  · exact h.ne (h1.symm.trans h2)
  · exact h.ne (h2.symm.trans h1)
theorem StepC.darts {t : List (List Nat)} {u v i k : Nat} (h : StepC t u v i k) (x : Dart) : x ∈ dartsN (stepE t u v i k) ↔ x ∈ (u, v) :: (v, u) :: dartsN t := by
  rw [mem_dartsN h.rot2, List.mem_cons, List.mem_cons, mem_dartsN h.rot]
  unfold IsD
  rw [step_mem h.hu h.hv h.ne]
  obtain ⟨a, b⟩ := x
  simp only [Prod.mk.injEq]
  constructor
  · rintro (h | h | h)
    · exact .inr (.inr h)
    · exact .inl h
    · exact .inr (.inl h)
  · rintro (h | h | h)
    · exact .inr (.inl h)
    · exact .inr (.inr h)
    · exact .inl h
theorem StepC.dx {t : List (List Nat)} {u v i k : Nat} (h : StepC t u v i k) : (u, v) ∉ dartsN t := fun hc => h.new ((mem_dartsN h.rot).1 hc)
theorem StepC.dy {t : List (List Nat)} {u v i k : Nat} (h : StepC t u v i k) : (v, u) ∉ dartsN t := fun hc => h.new2 ((mem_dartsN h.rot).1 hc)
theorem StepC.dne {t : List (List Nat)} {u v i k : Nat} (h : StepC t u v i k) : ((u, v) : Dart) ≠ (v, u) := fun e => h.ne (congrArg Prod.fst e)
/-- How many faces, by any map that is the way along the faces. -/
theorem StepC.faces {t : List (List Nat)} {u v i k : Nat} (h : StepC t u v i k) {f : Dart → Dart} (hp : PermF ((u, v) :: (v, u) :: dartsN t) f) (he : ∀ x, x ∈ (u, v) :: (v, u) :: dartsN t → f x = succD (stepE t u v i k) x) :
    (facesN (stepE t u v i k)).length = cycF ((u, v) :: (v, u) :: dartsN t) f := by
  rw [← cyc_faces h.rot2, ← cyc_congr hp he]
  exact (cyc_memD (perm_memD (succ_perm h.rot2) (fun x => (h.darts x).symm)) h.darts)
/-- Sides that do not end at the edge go on as before. -/
theorem StepC.same {t : List (List Nat)} {u v i k : Nat} (h : StepC t u v i k) {z : Dart} (hz : z ∈ dartsN t) (h1 : ∀ hi : i < (t.getD u []).length, z ≠ ((t.getD u [])[i], u)) (h2 : ∀ hk : k < (t.getD v []).length, z ≠ ((t.getD v [])[k], v)) : succD (stepE t u v i k) z = succD t z := by
  obtain ⟨p, q⟩ := z
  have hD : q ∈ t.getD p [] := (mem_dartsN h.rot).1 hz
  have hp := (h.rot.sym _ _ hD).2
  unfold succD
  simp only [Prod.mk.injEq, true_and]
  by_cases hqv : q = v
  · subst hqv
    have hl := List.length_pos_of_mem hp
    have hk : k < (t.getD q []).length := by have := h.hk; omega
    rw [step_v h.hu h.hv]
    exact insN_next3 (h.rot.nd q) h.new2 hk hp (fun e => h2 hk (by rw [e]))
  · by_cases hqu : q = u
    · subst hqu
      have hl := List.length_pos_of_mem hp
      have hi : i < (t.getD q []).length := by have := h.hi; omega
      rw [step_u h.hu h.hv h.ne]
      exact insN_next3 (h.rot.nd q) h.new hi hp (fun e => h1 hi (by rw [e]))
    · rw [step_o h.hu h.hv hqu hqv]
theorem next_single (u : Nat) : nextIn [u] u = u := by simp [nextIn]
theorem ins_nil (i u : Nat) : insN [] i u = [u] := by simp [insN]
theorem step_comm (t : List (List Nat)) {u v : Nat} (hne : u ≠ v) (i k : Nat) : stepE t u v i k = stepE t v u k i := by
  unfold stepE
  exact List.set_comm _ _ hne
theorem StepC.symm {t : List (List Nat)} {u v i k : Nat} (h : StepC t u v i k) : StepC t v u k i := ⟨h.rot, h.irr, h.hv, h.hu, fun e => h.ne e.symm, h.new2, h.hk, h.hi⟩
/-- Both ends are alone. -/
theorem StepC.both {t : List (List Nat)} {u v i k : Nat} (h : StepC t u v i k) (hu : t.getD u [] = []) (hv : t.getD v [] = []) : (facesN (stepE t u v i k)).length = (facesN t).length + 1 := by
  obtain ⟨h1, h2⟩ := fix_cyc h.rot h.dx h.dy h.dne
  have hx : ((u, v) : Dart) ∈ (u, v) :: (v, u) :: dartsN t := by simp
  have hy : ((v, u) : Dart) ∈ (u, v) :: (v, u) :: dartsN t := by simp
  have hn := not_lead_fix h1 hx fix_y h.dne
  have hj := (cyc_join h1 hx hy hn).1
  rw [h.faces (swap_perm h1 hx hy) (fun z hz => ?_)]
  · omega
  · have eu := step_u h.hu h.hv h.ne i k
    have ev := step_v (t := t) (u := u) (v := v) h.hu h.hv i k
    rw [hu, ins_nil] at eu
    rw [hv, ins_nil] at ev
    rcases List.mem_cons.1 hz with rfl | hz
    · rw [swap_a, fix_y]
      unfold succD
      simp only [ev, next_single]
    · rcases List.mem_cons.1 hz with rfl | hz
      · rw [swap_b, fix_x]
        unfold succD
        simp only [eu, next_single]
      · have n1 : z ≠ (u, v) := fun e => h.dx (e ▸ hz)
        have n2 : z ≠ (v, u) := fun e => h.dy (e ▸ hz)
        rw [swap_o _ n1 n2, fix_o n1 n2]
        exact (h.same hz (fun hi => by rw [hu] at hi; simp at hi) (fun hk => by rw [hv] at hk; simp at hk)).symm
/-- One end is alone. -/
theorem StepC.one {t : List (List Nat)} {u v i k : Nat} (h : StepC t u v i k) (hu : t.getD u [] ≠ []) (hv : t.getD v [] = []) : (facesN (stepE t u v i k)).length = (facesN t).length := by
  have hi : i < (t.getD u []).length := by have := h.hi; have := List.length_pos_iff.2 hu; omega
  obtain ⟨h1, h2⟩ := fix_cyc h.rot h.dx h.dy h.dne
  have hx : ((u, v) : Dart) ∈ (u, v) :: (v, u) :: dartsN t := by simp
  have hy : ((v, u) : Dart) ∈ (u, v) :: (v, u) :: dartsN t := by simp
  obtain ⟨a, ha⟩ : ∃ a : Dart, a = ((t.getD u [])[i], u) := ⟨_, rfl⟩
  have haD : a ∈ dartsN t := by
    rw [ha]
    exact (mem_dartsN h.rot).2 (h.rot.sym u _ (List.getElem_mem hi)).2
  have haM : a ∈ (u, v) :: (v, u) :: dartsN t := by simp [haD]
  have nax : a ≠ (u, v) := fun e => h.dx (e ▸ haD)
  have nay : a ≠ (v, u) := fun e => h.dy (e ▸ haD)
  have hj1 := (cyc_join h1 haM hx (not_lead_fix h1 haM (fix_x t _ _) nax)).1
  have hp1 := swap_perm h1 haM hx
  have hf1 : swapF a (u, v) (fixD t (u, v) (v, u)) (v, u) = (v, u) := by rw [swap_o _ (fun e => nay e.symm) (fun e => h.dne e.symm), fix_y]
  have hj2 := (cyc_join hp1 hx hy (not_lead_fix hp1 hx hf1 h.dne)).1
  rw [h.faces (swap_perm hp1 hx hy) (fun z hz => ?_)]
  · omega
  · have eu := step_u h.hu h.hv h.ne i k
    have ev := step_v (t := t) (u := u) (v := v) h.hu h.hv i k
    rw [hv, ins_nil] at ev
    rcases List.mem_cons.1 hz with rfl | hz
    · rw [swap_a, hf1]
      unfold succD
      simp only [ev, next_single]
    · rcases List.mem_cons.1 hz with rfl | hz
      · rw [swap_b, swap_b, fix_o nax nay, ha]
        unfold succD
        simp only [eu, insN_next2 (h.rot.nd u) h.new hi]
      · have n1 : z ≠ (u, v) := fun e => h.dx (e ▸ hz)
        have n2 : z ≠ (v, u) := fun e => h.dy (e ▸ hz)
        rw [swap_o _ n1 n2]
        by_cases hza : z = a
        · rw [hza, swap_a, fix_x, ha]
          unfold succD
          simp only [eu, insN_next (h.rot.nd u) h.new hi]
        · rw [swap_o _ hza n1, fix_o n1 n2]
          exact (h.same hz (fun _ => by rw [← ha]; exact hza) (fun hk => by rw [hv] at hk; simp at hk)).symm
/-- Neither end is alone: a face falls apart, or two become one. -/
theorem StepC.two {t : List (List Nat)} {u v i k : Nat} (h : StepC t u v i k) (hi : i < (t.getD u []).length) (hk : k < (t.getD v []).length) :
    (Leads t ((t.getD u [])[i], u) ((t.getD v [])[k], v) → (facesN (stepE t u v i k)).length = (facesN t).length + 1) ∧
    (¬ Leads t ((t.getD u [])[i], u) ((t.getD v [])[k], v) → (facesN (stepE t u v i k)).length + 1 = (facesN t).length) := by
  obtain ⟨h1, h2⟩ := fix_cyc h.rot h.dx h.dy h.dne
  have hx : ((u, v) : Dart) ∈ (u, v) :: (v, u) :: dartsN t := by simp
  have hy : ((v, u) : Dart) ∈ (u, v) :: (v, u) :: dartsN t := by simp
  obtain ⟨a, ha⟩ : ∃ a : Dart, a = ((t.getD u [])[i], u) := ⟨_, rfl⟩
  obtain ⟨c, hc⟩ : ∃ a : Dart, a = ((t.getD v [])[k], v) := ⟨_, rfl⟩
  have haD : a ∈ dartsN t := by
    rw [ha]
    exact (mem_dartsN h.rot).2 (h.rot.sym u _ (List.getElem_mem hi)).2
  have hcD : c ∈ dartsN t := by
    rw [hc]
    exact (mem_dartsN h.rot).2 (h.rot.sym v _ (List.getElem_mem hk)).2
  rw [← ha, ← hc]
  have haM : a ∈ (u, v) :: (v, u) :: dartsN t := by simp [haD]
  have hcM : c ∈ (u, v) :: (v, u) :: dartsN t := by simp [hcD]
  have nax : a ≠ (u, v) := fun e => h.dx (e ▸ haD)
  have nay : a ≠ (v, u) := fun e => h.dy (e ▸ haD)
  have ncx : c ≠ (u, v) := fun e => h.dx (e ▸ hcD)
  have ncy : c ≠ (v, u) := fun e => h.dy (e ▸ hcD)
  have nac : a ≠ c := fun e => h.ne (by rw [ha, hc] at e; exact congrArg Prod.snd e)
  have hj1 := (cyc_join h1 haM hx (not_lead_fix h1 haM (fix_x t _ _) nax)).1
  have hp1 := swap_perm h1 haM hx
  have hf1 : swapF a (u, v) (fixD t (u, v) (v, u)) (v, u) = (v, u) := by rw [swap_o _ (fun e => nay e.symm) (fun e => h.dne e.symm), fix_y]
  have hj2 := (cyc_join hp1 hcM hy (not_lead_fix hp1 hcM hf1 ncy)).1
  have hp2 := swap_perm hp1 hcM hy
  obtain ⟨f2, hf2⟩ : ∃ f, f = swapF c (v, u) (swapF a (u, v) (fixD t (u, v) (v, u))) := ⟨_, rfl⟩
  rw [← hf2] at hj2 hp2
  -- what f2 does
  have v1 : f2 a = (u, v) := by rw [hf2, swap_o _ nac nay, swap_a, fix_x]
  have v2 : f2 (u, v) = succD t a := by rw [hf2, swap_o _ (fun e => ncx e.symm) h.dne, swap_b, fix_o nax nay]
  have v3 : f2 c = (v, u) := by rw [hf2, swap_a, hf1]
  have v4 : f2 (v, u) = succD t c := by rw [hf2, swap_b, swap_o _ (fun e => nac e.symm) ncx, fix_o ncx ncy]
  have v5 : ∀ z, z ∈ dartsN t → z ≠ a → z ≠ c → f2 z = succD t z := fun z hz n1 n2 => by
    have n3 : z ≠ (u, v) := fun e => h.dx (e ▸ hz)
    have n4 : z ≠ (v, u) := fun e => h.dy (e ▸ hz)
    rw [hf2, swap_o _ n2 n4, swap_o _ n1 n3, fix_o n3 n4]
  have hfaces : (facesN (stepE t u v i k)).length = cycF ((u, v) :: (v, u) :: dartsN t) (swapF (u, v) (v, u) f2) := by
    refine h.faces (swap_perm hp2 hx hy) (fun z hz => ?_)
    have eu := step_u h.hu h.hv h.ne i k
    have ev := step_v (t := t) (u := u) (v := v) h.hu h.hv i k
    rcases List.mem_cons.1 hz with rfl | hz
    · rw [swap_a, v4, hc]
      unfold succD
      simp only [ev, insN_next2 (h.rot.nd v) h.new2 hk]
    · rcases List.mem_cons.1 hz with rfl | hz
      · rw [swap_b, v2, ha]
        unfold succD
        simp only [eu, insN_next2 (h.rot.nd u) h.new hi]
      · have n1 : z ≠ (u, v) := fun e => h.dx (e ▸ hz)
        have n2 : z ≠ (v, u) := fun e => h.dy (e ▸ hz)
        rw [swap_o _ n1 n2]
        by_cases hza : z = a
        · rw [hza, v1, ha]
          unfold succD
          simp only [eu, insN_next (h.rot.nd u) h.new hi]
        · by_cases hzc : z = c
          · rw [hzc, v3, hc]
            unfold succD
            simp only [ev, insN_next (h.rot.nd v) h.new2 hk]
          · rw [v5 z hz hza hzc]
            exact (h.same hz (fun _ => by rw [← ha]; exact hza) (fun _ => by rw [← hc]; exact hzc)).symm
  have hlead : LeadF f2 (u, v) (v, u) ↔ LeadF (succD t) a c := by
    constructor
    · intro hl
      have hl2 : LeadF f2 a (v, u) := LeadF.trans ⟨1, v1⟩ hl
      -- what is led to, the new sides put back
      have hC := LeadF.closed (f := f2) (C := fun z => (z ∈ dartsN t ∧ LeadF (succD t) a z) ∨ (z = (u, v) ∧ LeadF (succD t) a a) ∨ (z = (v, u) ∧ LeadF (succD t) a c)) (fun z hz => by
        rcases hz with ⟨hz, hl⟩ | ⟨rfl, hl⟩ | ⟨rfl, hl⟩
        · by_cases hza : z = a
          · subst hza; rw [v1]; exact .inr (.inl ⟨rfl, LeadF.refl _ _⟩)
          · by_cases hzc : z = c
            · subst hzc; rw [v3]; exact .inr (.inr ⟨rfl, hl⟩)
            · rw [v5 z hz hza hzc]
              exact .inl ⟨(succ_perm h.rot).maps _ hz, hl.trans (LeadF.step _ _)⟩
        · rw [v2]; exact .inl ⟨(succ_perm h.rot).maps _ haD, LeadF.step _ _⟩
        · rw [v4]; exact .inl ⟨(succ_perm h.rot).maps _ hcD, hl.trans (LeadF.step _ _)⟩) (.inl ⟨haD, LeadF.refl _ _⟩) hl2
      rcases hC with ⟨hz, -⟩ | ⟨e, -⟩ | ⟨-, hl⟩
      · exact absurd hz h.dy
      · exact absurd e.symm h.dne
      · exact hl
    · intro hl
      have hC := LeadF.closed (f := succD t) (C := fun z => z ∈ dartsN t ∧ LeadF f2 a z) (fun z hz => by
        obtain ⟨hz, hl1⟩ := hz
        refine ⟨(succ_perm h.rot).maps _ hz, ?_⟩
        by_cases hza : z = a
        · rw [hza]
          exact LeadF.trans ⟨1, v1⟩ ⟨1, v2⟩
        · by_cases hzc : z = c
          · rw [hzc] at hl1 ⊢
            exact hl1.trans (LeadF.trans (f := f2) (y := (v, u)) ⟨1, v3⟩ ⟨1, v4⟩)
          · rw [← v5 z hz hza hzc]
            exact hl1.trans (LeadF.step _ _)) ⟨haD, LeadF.refl _ _⟩ hl
      have h3 : LeadF f2 (u, v) a := LeadF.symm hp2 haM ⟨1, v1⟩
      exact (h3.trans hC.2).trans ⟨1, v3⟩
  rw [hfaces]
  constructor
  · intro hl
    have hs := (cyc_split hp2 hx hy h.dne (hlead.2 (leads_iff.1 hl))).1
    omega
  · intro hl
    have hs := (cyc_join hp2 hx hy (fun hc => hl (leads_iff.2 (hlead.1 hc)))).1
    omega
/-- Vertices joined by sides. -/
inductive ConT (t : List (List Nat)) (a : Nat) : Nat → Prop
  | refl : ConT t a a
  | step {b c : Nat} : ConT t a b → c ∈ t.getD b [] → ConT t a c
theorem ConT.closed {t : List (List Nat)} {a b : Nat} {C : Nat → Prop} (hl : ConT t a b) (hC : ∀ x y, C x → y ∈ t.getD x [] → C y) (ha : C a) : C b := by
  induction hl with
  | refl => exact ha
  | step _ hc ih => exact hC _ _ ih hc
theorem ConT.trans {t : List (List Nat)} {a b c : Nat} (h : ConT t a b) (k : ConT t b c) : ConT t a c :=
  k.closed (C := ConT t a) (fun _ _ hx hy => .step hx hy) h
theorem ConT.symm {t : List (List Nat)} (hr : RotN t) {a b : Nat} (h : ConT t a b) : ConT t b a := by
  induction h with
  | refl => exact .refl
  | step _ hc ih => exact ConT.trans (.step .refl (hr.sym _ _ hc).2) ih
theorem ConT.full {t : List (List Nat)} {a b : Nat} (h : ConT t a b) : a = b ∨ t.getD a [] ≠ [] := by
  induction h with
  | refl => exact .inl rfl
  | step _ hc ih =>
    rcases ih with rfl | h
    · exact .inr (List.ne_nil_of_mem hc)
    · exact .inr h
/-- One of each part that has an edge. -/
structure CompR (t : List (List Nat)) (S : List Nat) : Prop where
  all : ∀ s, s ∈ S → t.getD s [] ≠ []
  apart : S.Pairwise fun a b => ¬ ConT t a b
  cover : ∀ v, t.getD v [] ≠ [] → ∃ s, s ∈ S ∧ ConT t s v
theorem comp_le {t : List (List Nat)} (hr : RotN t) {S S' : List Nat} (h : CompR t S) (h' : CompR t S') : S.length ≤ S'.length := by
  have key : ∀ x, ∃ y, t.getD x [] ≠ [] → y ∈ S' ∧ ConT t y x := fun x => by
    by_cases hx : t.getD x [] = []
    · exact ⟨0, fun h => absurd hx h⟩
    · obtain ⟨s, h1, h2⟩ := h'.cover x hx
      exact ⟨s, fun _ => ⟨h1, h2⟩⟩
  obtain ⟨c, hc⟩ := Classical.axiomOfChoice key
  have hnd : (S.map c).Nodup := by
    rw [List.Nodup, List.pairwise_map]
    refine List.Pairwise.imp_of_mem ?_ h.apart
    intro a b ha hb hab e
    obtain ⟨h1, h2⟩ := hc a (h.all a ha)
    obtain ⟨h3, h4⟩ := hc b (h.all b hb)
    rw [← e] at h4
    exact hab ((h2.symm hr).trans h4)
  have := nodup_lenA hnd (E := S') (fun y hy => by obtain ⟨x, hx, rfl⟩ := List.mem_map.1 hy; exact (hc x (h.all x hx)).1)
  simpa using this
theorem comp_len {t : List (List Nat)} (hr : RotN t) {S S' : List Nat} (h : CompR t S) (h' : CompR t S') : S.length = S'.length := Nat.le_antisymm (comp_le hr h h') (comp_le hr h' h)
open Classical in
theorem part_reps {t : List (List Nat)} (h : RotN t) (hir : ∀ u, u ∉ t.getD u []) : ∀ k wi, wi < k → wi < 2 ^ t.length → (∀ v u, wi.testBit v = true → u ∈ t.getD v [] → wi.testBit u = true) →
    ∃ S : List Nat, (∀ s, s ∈ S → wi.testBit s = true ∧ t.getD s [] ≠ []) ∧ (S.Pairwise fun a b => ¬ ConT t a b) ∧ (∀ v, wi.testBit v = true → t.getD v [] ≠ [] → ∃ s, s ∈ S ∧ ConT t s v) ∧ S.length = partP (nextL t) wi
  | 0, _, hk, _, _ => by omega
  | k + 1, wi, hk, hwn, hcl => by
    have hw : wi < 4294967296 := Nat.lt_trans hwn (pow16_lt h.le)
    by_cases h0 : wi = 0
    · subst h0
      exact ⟨[], by simp, by simp, fun v hv => by simp at hv, by rw [(part_zero _).1]; rfl⟩
    have hs : SymN (nextL t) wi := fun x y _ _ hb => (nextL_bit h).2 (h.sym _ _ ((nextL_bit h).1 hb)).2
    have hc := ctz_bit h0 hw
    have hc32 := bit_lt_of (n := 32) hw hc
    rw [(part_step hw h0).1]
    have hless := parts_less (a := nextL t) hw h0
    have hsub := fun i (hi : (reachN (nextL t) wi (Lib.ctz 32 wi)).testBit i = true) => reach_sub hw hc hi
    have hclo := reach_closed (a := nextL t) hw hc32
    have hst := reach_start (a := nextL t) hw hc32
    have hP := reachN_lt (nextL t) wi (Lib.ctz 32 wi)
    have hleast := fun M (hM : ClosedN (nextL t) wi M) (hMv : M.testBit (Lib.ctz 32 wi) = true) i (hi : (reachN (nextL t) wi (Lib.ctz 32 wi)).testBit i = true) => reach_least hw hc32 hM hMv hi
    generalize Lib.ctz 32 wi = c at *
    generalize hPe : reachN (nextL t) wi c = P at *
    have hA := Nat.lt_of_le_of_lt (andN_le wi P) hw
    have hcn : c < t.length := bit_lt_of hwn hc
    have hbit : ∀ v, (andN wi P).testBit v = true ↔ wi.testBit v = true ∧ P.testBit v = false := fun v => by
      rw [testBit_andN hw hP, Bool.and_eq_true, Bool.not_eq_true']
    have hPcl : ∀ v u, P.testBit v = true → u ∈ t.getD v [] → P.testBit u = true := fun v u hv hu => hclo v hv u (hcl v u (hsub v hv) hu) ((nextL_bit h).2 hu)
    obtain ⟨S2, i1, i2, i3, i4⟩ := part_reps h hir k (andN wi P) (by omega) (Nat.lt_of_le_of_lt (andN_le wi P) hwn) (fun v u hv hu => by
      rw [hbit] at hv ⊢
      refine ⟨hcl v u hv.1 hu, ?_⟩
      cases hb : P.testBit u
      · rfl
      · have := hPcl u v hb (h.sym v u hu).2
        rw [this] at hv; simp at hv)
    have hconP : ∀ x, P.testBit x = true → ConT t c x := fun x hx => by
      have := hleast (maskN ((List.range t.length).filter fun x => decide (ConT t c x))) (fun y hy u hu hb => by
        rw [testBit_maskN, decide_eq_true_eq, List.mem_filter, decide_eq_true_eq] at hy ⊢
        have hm := (nextL_bit h).1 hb
        exact ⟨List.mem_range.2 (h.sym _ _ hm).1, .step hy.2 hm⟩) (by
        rw [testBit_maskN, decide_eq_true_eq, List.mem_filter, decide_eq_true_eq]
        exact ⟨List.mem_range.2 hcn, .refl⟩) x hx
      rw [testBit_maskN, decide_eq_true_eq, List.mem_filter, decide_eq_true_eq] at this
      exact this.2
    by_cases hp : 1 < popN P
    · have hcf : t.getD c [] ≠ [] := by
        intro he
        have hall : ∀ y, P.testBit y = true → y = c := fun y hy => by
          rcases (hconP y hy).full with e | e
          · exact e.symm
          · exact absurd he e
        have hl := nodup_lenA (l := bitsN P) (E := [c]) ((bitsN_sorted P).imp fun h => by omega) (fun y hy => by rw [hall y ((mem_bitsN hP).1 hy)]; simp)
        unfold popN at hp
        simp at hl; omega
      refine ⟨c :: S2, fun s hs => ?_, ?_, fun v hv hf => ?_, by rw [if_pos hp, List.length_cons, i4]; omega⟩
      · rcases List.mem_cons.1 hs with rfl | hs
        · exact ⟨hc, hcf⟩
        · exact ⟨((hbit s).1 (i1 s hs).1).1, (i1 s hs).2⟩
      · rw [List.pairwise_cons]
        refine ⟨fun s hs hl => ?_, i2⟩
        have h1 := hl.closed (C := fun z => P.testBit z = true) (fun x y hx hy => hPcl x y hx hy) hst
        have h2 := ((hbit s).1 (i1 s hs).1).2
        rw [h1] at h2; cases h2
      · by_cases hvP : P.testBit v = true
        · exact ⟨c, by simp, hconP v hvP⟩
        · obtain ⟨s, h1, h2⟩ := i3 v ((hbit v).2 ⟨hv, by simpa using hvP⟩) hf
          exact ⟨s, by simp [h1], h2⟩
    · refine ⟨S2, fun s hs => ⟨((hbit s).1 (i1 s hs).1).1, (i1 s hs).2⟩, i2, fun v hv hf => ?_, by rw [if_neg hp, i4]; omega⟩
      by_cases hvP : P.testBit v = true
      · exfalso
        obtain ⟨u, hu⟩ := List.exists_mem_of_ne_nil _ hf
        have h1 := pop_one_all hP hst hp hvP
        have h2 := pop_one_all hP hst hp (hPcl v u hvP hu)
        rw [h1, h2] at hu
        exact hir _ hu
      · exact i3 v ((hbit v).2 ⟨hv, by simpa using hvP⟩) hf
theorem full_firstN {t : List (List Nat)} (h : RotN t) (hir : ∀ u, u ∉ t.getD u []) : partV (nextL t) (firstN t.length) = popN (fullQ t) := by
  have hf : firstN t.length < 2 ^ t.length := by unfold firstN; have := Nat.two_pow_pos t.length; omega
  rw [partV_full h hir _ _ (Nat.lt_succ_self _) hf (fun v u _ hu => by rw [testBit_firstN, decide_eq_true_eq]; exact (h.sym v u hu).1)]
  congr 1
  apply nat_ext
  intro i
  rw [Nat.testBit_and]
  cases hq : (fullQ t).testBit i
  · simp
  · rw [testBit_firstN, decide_eq_true (testBit_fullQ.1 hq).1]; rfl
theorem comp_ex {t : List (List Nat)} (h : RotN t) (hir : ∀ u, u ∉ t.getD u []) : ∃ S, CompR t S := by
  have hf : firstN t.length < 2 ^ t.length := by unfold firstN; have := Nat.two_pow_pos t.length; omega
  obtain ⟨S, h1, h2, h3, h4⟩ := part_reps h hir _ _ (Nat.lt_succ_self _) hf (fun v u _ hu => by rw [testBit_firstN, decide_eq_true_eq]; exact (h.sym v u hu).1)
  refine ⟨S, fun s hs => (h1 s hs).2, h2, fun v hv => h3 v ?_ hv⟩
  rw [testBit_firstN, decide_eq_true_eq]
  apply Classical.byContradiction
  intro hn
  exact hv (by simp [show t.length ≤ v by omega])
/-- Twice the genus, by any choice of one vertex a part. -/
theorem twice_comp {t : List (List Nat)} (h : RotN t) (hir : ∀ u, u ∉ t.getD u []) {S : List Nat} (hS : CompR t S) : twiceI t = 2 * (S.length : Int) + (((dartsN t).length / 2 : Nat) : Int) - (popN (fullQ t) : Int) - ((facesN t).length : Int) := by
  have hf : firstN t.length < 2 ^ t.length := by unfold firstN; have := Nat.two_pow_pos t.length; omega
  obtain ⟨S', h1, h2, h3, h4⟩ := part_reps h hir _ _ (Nat.lt_succ_self _) hf (fun v u _ hu => by rw [testBit_firstN, decide_eq_true_eq]; exact (h.sym v u hu).1)
  have hS' : CompR t S' := ⟨fun s hs => (h1 s hs).2, h2, fun v hv => h3 v (by
    rw [testBit_firstN, decide_eq_true_eq]
    apply Classical.byContradiction
    intro hn
    exact hv (by simp [show t.length ≤ v by omega])) hv⟩
  unfold twiceI
  rw [← h4, comp_len h hS' hS, full_firstN h hir, darts_sides h]
theorem pop_orQ {m x : Nat} (hm : m < 4294967296) (hx : x < 32) : popN (m ||| bit x) = popN m + if m.testBit x = true then 0 else 1 := by
  cases h : m.testBit x
  · rw [popN_add hm hx h]; simp
  · have e : m ||| bit x = m := nat_ext fun i => by
      rw [Nat.testBit_or, testBit_bit]
      by_cases hi : x = i
      · subst hi; simp [h]
      · simp [hi]
    rw [e]; simp
theorem fullQ_lt {t : List (List Nat)} (h : RotN t) : fullQ t < 4294967296 := by
  have : fullQ t < 2 ^ t.length := lt_bits fun i hi => (testBit_fullQ.1 hi).1
  exact Nat.lt_trans this (pow16_lt h.le)
theorem StepC.full {t : List (List Nat)} {u v i k : Nat} (h : StepC t u v i k) : popN (fullQ (stepE t u v i k)) = popN (fullQ t) + (if t.getD u [] = [] then 1 else 0) + (if t.getD v [] = [] then 1 else 0) := by
  have hl := fullQ_lt h.rot
  have h16 := h.rot.le
  have hu := h.hu
  have hv := h.hv
  have e : fullQ (stepE t u v i k) = (fullQ t ||| bit u) ||| bit v := nat_ext fun a => by
    rw [Bool.eq_iff_iff, testBit_fullQ, Nat.testBit_or, Nat.testBit_or, Bool.or_eq_true, Bool.or_eq_true, testBit_fullQ, testBit_bit, testBit_bit, decide_eq_true_eq, decide_eq_true_eq, step_len]
    constructor
    · rintro ⟨h1, h2⟩
      by_cases hav : a = v
      · exact .inr hav.symm
      · by_cases hau : a = u
        · exact .inl (.inr hau.symm)
        · rw [step_o hu hv hau hav] at h2; exact .inl (.inl ⟨h1, h2⟩)
    · rintro ((⟨h1, h2⟩ | rfl) | rfl)
      · refine ⟨h1, ?_⟩
        obtain ⟨b, hb⟩ := List.exists_mem_of_ne_nil _ h2
        exact List.ne_nil_of_mem ((step_mem hu hv h.ne).2 (.inl hb))
      · exact ⟨hu, List.ne_nil_of_mem (a := v) ((step_mem hu hv h.ne).2 (.inr (.inl ⟨rfl, rfl⟩)))⟩
      · exact ⟨hv, List.ne_nil_of_mem (a := u) ((step_mem hu hv h.ne).2 (.inr (.inr ⟨rfl, rfl⟩)))⟩
  have hb : ∀ x, x < t.length → ((fullQ t).testBit x = true ↔ ¬ t.getD x [] = []) := fun x hx => by rw [testBit_fullQ]; exact ⟨fun h => h.2, fun h => ⟨hx, h⟩⟩
  have h32 : fullQ t ||| bit u < 4294967296 := Nat.or_lt_two_pow (n := 32) hl (bit_lt (by omega))
  rw [e, pop_orQ h32 (by omega), pop_orQ hl (by omega), Nat.testBit_or, testBit_bit, decide_eq_false (fun e => h.ne e), Bool.or_false]
  by_cases h1 : t.getD u [] = [] <;> by_cases h2 : t.getD v [] = []
  · rw [if_neg (fun hc => (hb u hu).1 hc h1), if_neg (fun hc => (hb v hv).1 hc h2), if_pos h1, if_pos h2]
  · rw [if_neg (fun hc => (hb u hu).1 hc h1), if_pos ((hb v hv).2 h2), if_pos h1, if_neg h2]
  · rw [if_pos ((hb u hu).2 h1), if_neg (fun hc => (hb v hv).1 hc h2), if_neg h1, if_pos h2]
  · rw [if_pos ((hb u hu).2 h1), if_pos ((hb v hv).2 h2), if_neg h1, if_neg h2]
theorem StepC.len {t : List (List Nat)} {u v i k : Nat} (h : StepC t u v i k) : (dartsN (stepE t u v i k)).length = (dartsN t).length + 2 := by
  have hnd : ((u, v) :: (v, u) :: dartsN t).Nodup := List.nodup_cons.2 ⟨by simp only [List.mem_cons, not_or]; exact ⟨h.dne, h.dx⟩, List.nodup_cons.2 ⟨h.dy, darts_nodup t⟩⟩
  have e : ((u, v) :: (v, u) :: dartsN t).length = (dartsN t).length + 2 := rfl
  rw [← e]
  exact Nat.le_antisymm (nodup_lenA (darts_nodup _) fun x hx => (h.darts x).1 hx) (nodup_lenA hnd fun x hx => (h.darts x).2 hx)
theorem StepC.conUp {t : List (List Nat)} {u v i k : Nat} (h : StepC t u v i k) {a b : Nat} (hl : ConT t a b) : ConT (stepE t u v i k) a b :=
  hl.closed (C := ConT (stepE t u v i k) a) (fun _ _ hx hy => .step hx ((step_mem h.hu h.hv h.ne).2 (.inl hy))) .refl
theorem StepC.conUV {t : List (List Nat)} {u v i k : Nat} (h : StepC t u v i k) : ConT (stepE t u v i k) u v := .step .refl ((step_mem h.hu h.hv h.ne).2 (.inr (.inl ⟨rfl, rfl⟩)))
theorem StepC.rowUp {t : List (List Nat)} {u v i k : Nat} (h : StepC t u v i k) {a : Nat} (ha : t.getD a [] ≠ []) : (stepE t u v i k).getD a [] ≠ [] := by
  obtain ⟨b, hb⟩ := List.exists_mem_of_ne_nil _ ha
  exact List.ne_nil_of_mem ((step_mem h.hu h.hv h.ne).2 (.inl hb))
theorem StepC.rowDn {t : List (List Nat)} {u v i k : Nat} (h : StepC t u v i k) {a : Nat} (ha : (stepE t u v i k).getD a [] ≠ []) : t.getD a [] ≠ [] ∨ a = u ∨ a = v := by
  obtain ⟨b, hb⟩ := List.exists_mem_of_ne_nil _ ha
  rcases (step_mem h.hu h.hv h.ne).1 hb with hb | ⟨h1, _⟩ | ⟨h1, _⟩
  · exact .inl (List.ne_nil_of_mem hb)
  · exact .inr (.inl h1)
  · exact .inr (.inr h1)
/-- Both ends alone: a new part. -/
theorem StepC.compBoth {t : List (List Nat)} {u v i k : Nat} (h : StepC t u v i k) (hu : t.getD u [] = []) (hv : t.getD v [] = []) {S : List Nat} (hS : CompR t S) : CompR (stepE t u v i k) (u :: S) := by
  have hcl : ∀ s, t.getD s [] ≠ [] → ∀ x, ConT (stepE t u v i k) s x → ConT t s x ∧ t.getD x [] ≠ [] := fun s hs x hl => hl.closed (C := fun x => ConT t s x ∧ t.getD x [] ≠ []) (fun x y hx hy => by
    rcases (step_mem h.hu h.hv h.ne).1 hy with hy | ⟨h1, _⟩ | ⟨h1, _⟩
    · exact ⟨.step hx.1 hy, List.ne_nil_of_mem (h.rot.sym _ _ hy).2⟩
    · rw [h1] at hx; exact absurd hu hx.2
    · rw [h1] at hx; exact absurd hv hx.2) ⟨.refl, hs⟩
  refine ⟨fun s hs => ?_, ?_, fun x hx => ?_⟩
  · rcases List.mem_cons.1 hs with rfl | hs
    · exact List.ne_nil_of_mem (a := v) ((step_mem h.hu h.hv h.ne).2 (.inr (.inl ⟨rfl, rfl⟩)))
    · exact h.rowUp (hS.all s hs)
  · rw [List.pairwise_cons]
    refine ⟨fun s hs hl => ?_, List.Pairwise.imp_of_mem ?_ hS.apart⟩
    · exact (hcl s (hS.all s hs) u (hl.symm h.rot2)).2 hu
    · intro a b ha _ hn hl
      exact hn (hcl a (hS.all a ha) b hl).1
  · rcases h.rowDn hx with hx | rfl | rfl
    · obtain ⟨s, h1, h2⟩ := hS.cover x hx
      exact ⟨s, by simp [h1], h.conUp h2⟩
    · exact ⟨x, by simp, .refl⟩
    · exact ⟨u, by simp, h.conUV⟩
/-- One end alone: the part grows. -/
theorem StepC.compOne {t : List (List Nat)} {u v i k : Nat} (h : StepC t u v i k) (hu : t.getD u [] ≠ []) (hv : t.getD v [] = []) {S : List Nat} (hS : CompR t S) : CompR (stepE t u v i k) S := by
  have hcl : ∀ s, t.getD s [] ≠ [] → ∀ x, ConT (stepE t u v i k) s x → ConT t s x ∨ x = v := fun s hs x hl => (hl.closed (C := fun x => ConT t s x ∨ (x = v ∧ ConT t s u)) (fun x y hx hy => by
    have hxv : ConT t s x → x ≠ v := fun hl2 e => by
      have hl3 : ConT t s v := e ▸ hl2
      rcases (hl3.symm h.rot).full with e2 | e2
      · exact hs (e2 ▸ hv)
      · exact e2 hv
    rcases (step_mem h.hu h.hv h.ne).1 hy with hy1 | ⟨h1, h2⟩ | ⟨h1, h2⟩
    · rcases hx with hx | ⟨hx1, -⟩
      · exact .inl (.step hx hy1)
      · rw [hx1, hv] at hy1; simp at hy1
    · rcases hx with hx | ⟨h3, -⟩
      · rw [h1] at hx; exact .inr ⟨h2, hx⟩
      · exact absurd (h1.symm.trans h3) h.ne
    · rcases hx with hx | ⟨-, h3⟩
      · exact absurd h1 (hxv hx)
      · rw [h2]; exact .inl h3) (.inl .refl)).imp_right And.left
  refine ⟨fun s hs => h.rowUp (hS.all s hs), List.Pairwise.imp_of_mem ?_ hS.apart, fun x hx => ?_⟩
  · intro a b ha hb hn hl
    rcases hcl a (hS.all a ha) b hl with h1 | rfl
    · exact hn h1
    · exact hS.all b hb hv
  · rcases h.rowDn hx with hx | rfl | rfl
    · obtain ⟨s, h1, h2⟩ := hS.cover x hx
      exact ⟨s, h1, h.conUp h2⟩
    · obtain ⟨s, h1, h2⟩ := hS.cover x hu
      exact ⟨s, h1, h.conUp h2⟩
    · obtain ⟨s, h1, h2⟩ := hS.cover u hu
      exact ⟨s, h1, (h.conUp h2).trans h.conUV⟩
/-- In one part: the parts stay. -/
theorem StepC.compIn {t : List (List Nat)} {u v i k : Nat} (h : StepC t u v i k) (hu : t.getD u [] ≠ []) (hv : t.getD v [] ≠ []) (hc : ConT t u v) {S : List Nat} (hS : CompR t S) : CompR (stepE t u v i k) S := by
  have hcl : ∀ s x, ConT (stepE t u v i k) s x → ConT t s x := fun s x hl => hl.closed (C := ConT t s) (fun x y hx hy => by
    rcases (step_mem h.hu h.hv h.ne).1 hy with hy | ⟨h1, h2⟩ | ⟨h1, h2⟩
    · exact .step hx hy
    · rw [h1] at hx; rw [h2]; exact hx.trans hc
    · rw [h1] at hx; rw [h2]; exact hx.trans (hc.symm h.rot)) .refl
  refine ⟨fun s hs => h.rowUp (hS.all s hs), hS.apart.imp fun hn hl => hn (hcl _ _ hl), fun x hx => ?_⟩
  have hx2 : t.getD x [] ≠ [] := by
    rcases h.rowDn hx with hx | rfl | rfl
    · exact hx
    · exact hu
    · exact hv
  obtain ⟨s, h1, h2⟩ := hS.cover x hx2
  exact ⟨s, h1, h.conUp h2⟩
/-- Between two parts: one less. -/
theorem StepC.compOut {t : List (List Nat)} {u v i k : Nat} (h : StepC t u v i k) (hu : t.getD u [] ≠ []) (hv : t.getD v [] ≠ []) (hc : ¬ ConT t u v) {S : List Nat} (hS : CompR t S) : ∃ T, CompR t (v :: T) ∧ CompR (stepE t u v i k) T := by
  classical
  have hT : CompR t (v :: S.filter fun s => decide (¬ ConT t s v)) := by
    refine ⟨fun s hs => ?_, ?_, fun x hx => ?_⟩
    · rcases List.mem_cons.1 hs with rfl | hs
      · exact hv
      · exact hS.all s (List.mem_filter.1 hs).1
    · rw [List.pairwise_cons]
      exact ⟨fun s hs hl => of_decide_eq_true (List.mem_filter.1 hs).2 (hl.symm h.rot), hS.apart.filter _⟩
    · obtain ⟨s, h1, h2⟩ := hS.cover x hx
      by_cases hsv : ConT t s v
      · exact ⟨v, by simp, (hsv.symm h.rot).trans h2⟩
      · exact ⟨s, List.mem_cons_of_mem _ (List.mem_filter.2 ⟨h1, decide_eq_true hsv⟩), h2⟩
  refine ⟨_, hT, ?_⟩
  generalize S.filter (fun s => decide (¬ ConT t s v)) = T at hT
  have hap := List.pairwise_cons.1 hT.apart
  have hcl : ∀ s, s ∈ T → ∀ x, ConT (stepE t u v i k) s x → ConT t s x ∨ ConT t v x := fun s hs x hl => (hl.closed (C := fun x => ConT t s x ∨ (ConT t v x ∧ ConT t s u)) (fun x y hx hy => by
    rcases (step_mem h.hu h.hv h.ne).1 hy with hy | ⟨h1, h2⟩ | ⟨h1, h2⟩
    · rcases hx with hx | ⟨hx, hy2⟩
      · exact .inl (.step hx hy)
      · exact .inr ⟨.step hx hy, hy2⟩
    · rcases hx with hx | ⟨hx, -⟩
      · rw [h1] at hx; rw [h2]; exact .inr ⟨.refl, hx⟩
      · rw [h1] at hx; exact absurd (hx.symm h.rot) hc
    · rcases hx with hx | ⟨-, hx⟩
      · rw [h1] at hx; exact absurd (hx.symm h.rot) (hap.1 s hs)
      · rw [h2]; exact .inl hx) (.inl .refl)).imp_right And.left
  refine ⟨fun s hs => h.rowUp (hT.all s (by simp [hs])), List.Pairwise.imp_of_mem ?_ hap.2, fun x hx => ?_⟩
  · intro a b ha hb hn hl
    rcases hcl a ha b hl with h1 | h1
    · exact hn h1
    · exact hap.1 b hb h1
  · have hx2 : t.getD x [] ≠ [] := by
      rcases h.rowDn hx with hx | rfl | rfl
      · exact hx
      · exact hu
      · exact hv
    obtain ⟨s, h1, h2⟩ := hT.cover x hx2
    rcases List.mem_cons.1 h1 with rfl | h1
    · obtain ⟨r, h3, h4⟩ := hT.cover u hu
      rcases List.mem_cons.1 h3 with rfl | h3
      · exact absurd (h4.symm h.rot) hc
      · exact ⟨r, h3, ((h.conUp h4).trans h.conUV).trans (h.conUp h2)⟩
    · exact ⟨s, h1, h.conUp h2⟩
theorem lead_con {t : List (List Nat)} (h : RotN t) {x y : Dart} (hx : IsD t x) (hl : Leads t x y) : ConT t x.2 y.2 := by
  obtain ⟨k, rfl⟩ := hl
  induction k with
  | zero => exact .refl
  | succ k ih =>
    rw [itD_succ]
    have hd := itD_isD h hx (k + 1)
    rw [itD_succ] at hd
    exact .step ih hd
/-- What an edge does to twice the genus. -/
theorem StepC.twice {t : List (List Nat)} {u v i k : Nat} (h : StepC t u v i k) :
    ((t.getD u [] = [] ∨ t.getD v [] = []) → twiceI (stepE t u v i k) = twiceI t) ∧
    (∀ (hi : i < (t.getD u []).length) (hk : k < (t.getD v []).length),
      (Leads t ((t.getD u [])[i], u) ((t.getD v [])[k], v) → twiceI (stepE t u v i k) = twiceI t) ∧
      (¬ Leads t ((t.getD u [])[i], u) ((t.getD v [])[k], v) → (ConT t u v → twiceI (stepE t u v i k) = twiceI t + 2) ∧ (¬ ConT t u v → twiceI (stepE t u v i k) = twiceI t))) := by
  classical
  obtain ⟨S, hS⟩ := comp_ex h.rot h.irr
  have e0 := twice_comp h.rot h.irr hS
  have hlen := h.len
  have hful := h.full
  have hev := darts_even h.rot h.irr
  have hd : ((dartsN (stepE t u v i k)).length / 2 : Nat) = (dartsN t).length / 2 + 1 := by omega
  refine ⟨fun hor => ?_, fun hi hk => ?_⟩
  · by_cases hu : t.getD u [] = [] <;> by_cases hv : t.getD v [] = []
    · have e1 := twice_comp h.rot2 h.irr2 (h.compBoth hu hv hS)
      rw [if_pos hu, if_pos hv] at hful
      rw [e1, e0, hd, hful, h.both hu hv, List.length_cons]
      omega
    · have h2 := h.symm
      have e1 := twice_comp h2.rot2 h2.irr2 (h2.compOne hv hu hS)
      rw [if_pos hu, if_neg hv] at hful
      have hf := h2.one hv hu
      rw [step_comm t (fun e => h.ne e.symm)] at e1 hf
      rw [e1, e0, hd, hful, hf]
      omega
    · have e1 := twice_comp h.rot2 h.irr2 (h.compOne hu hv hS)
      rw [if_neg hu, if_pos hv] at hful
      rw [e1, e0, hd, hful, h.one hu hv]
      omega
    · rcases hor with hc | hc
      · exact absurd hc hu
      · exact absurd hc hv
  · have hu : t.getD u [] ≠ [] := List.ne_nil_of_length_pos (by omega)
    have hv : t.getD v [] ≠ [] := List.ne_nil_of_length_pos (by omega)
    rw [if_neg hu, if_neg hv] at hful
    obtain ⟨h1, h2⟩ := h.two hi hk
    have hxD : IsD t ((t.getD u [])[i], u) := (h.rot.sym u _ (List.getElem_mem hi)).2
    constructor
    · intro hl
      have hcon : ConT t u v := lead_con h.rot hxD hl
      have e1 := twice_comp h.rot2 h.irr2 (h.compIn hu hv hcon hS)
      rw [e1, e0, hd, hful, h1 hl]
      omega
    · intro hl
      have hf := h2 hl
      refine ⟨fun hcon => ?_, fun hcon => ?_⟩
      · have e1 := twice_comp h.rot2 h.irr2 (h.compIn hu hv hcon hS)
        rw [e1, e0, hd, hful, ← hf]
        omega
      · obtain ⟨T, hT1, hT2⟩ := h.compOut hu hv hcon hS
        have e1 := twice_comp h.rot2 h.irr2 hT2
        have e2 := comp_len h.rot hT1 hS
        rw [List.length_cons] at e2
        rw [e1, e0, hd, hful, ← hf, ← e2]
        omega
theorem StepC.mono {t : List (List Nat)} {u v i k : Nat} (h : StepC t u v i k) : twiceI t ≤ twiceI (stepE t u v i k) := by
  obtain ⟨h1, h2⟩ := h.twice
  by_cases hu : t.getD u [] = []
  · rw [h1 (.inl hu)]; omega
  · by_cases hv : t.getD v [] = []
    · rw [h1 (.inr hv)]; omega
    · have hi : i < (t.getD u []).length := by have := h.hi; have := List.length_pos_iff.2 hu; omega
      have hk : k < (t.getD v []).length := by have := h.hk; have := List.length_pos_iff.2 hv; omega
      obtain ⟨h3, h4⟩ := h2 hi hk
      by_cases hl : Leads t ((t.getD u [])[i], u) ((t.getD v [])[k], v)
      · rw [h3 hl]; omega
      · by_cases hcon : ConT t u v
        · rw [(h4 hl).1 hcon]; omega
        · rw [(h4 hl).2 hcon]; omega
/-- No edges. -/
theorem twice_nil (n : Nat) (hn : n ≤ 16) : twiceI (List.replicate n []) = 0 := by
  have hg : ∀ a, (List.replicate n ([] : List Nat)).getD a [] = [] := fun a => by
    rw [List.getD_eq_getElem?_getD, List.getElem?_replicate]; split <;> rfl
  have hr : RotN (List.replicate n []) := ⟨by simpa using hn, fun u => by rw [hg]; exact List.nodup_nil, fun u v hv => by rw [hg] at hv; simp at hv⟩
  have hir : ∀ a, a ∉ (List.replicate n ([] : List Nat)).getD a [] := fun a => by rw [hg]; simp
  have hD : dartsN (List.replicate n ([] : List Nat)) = [] := by
    rw [List.eq_nil_iff_forall_not_mem]
    intro x hx
    have := (mem_dartsN hr).1 hx
    unfold IsD at this
    rw [hg] at this; simp at this
  have hQ : popN (fullQ (List.replicate n ([] : List Nat))) = 0 := by
    have : fullQ (List.replicate n ([] : List Nat)) = 0 := nat_ext fun i => by
      rw [Nat.zero_testBit]
      cases hb : (fullQ (List.replicate n ([] : List Nat))).testBit i
      · rfl
      · exact absurd (hg i) (testBit_fullQ.1 hb).2
    rw [this]; exact (popN_zero (by omega)).2 rfl
  have hF : (facesN (List.replicate n ([] : List Nat))).length = 0 := by
    obtain ⟨S, hS, e⟩ := faces_reps hr
    rw [← e]
    have : S = [] := by
      rw [List.eq_nil_iff_forall_not_mem]
      intro x hx
      have := hS.all x hx
      unfold IsD at this
      rw [hg] at this; simp at this
    rw [this]; rfl
  rw [twice_comp hr hir (S := []) ⟨by simp, by simp, fun v hv => absurd (hg v) hv⟩, hD, hQ, hF]
  rfl
/-- Turned rows do not matter. -/
theorem twice_rot {t t2 : List (List Nat)} (h : RotN t) (hl : t2.length = t.length) (hr : ∀ a, RotE (t.getD a []) (t2.getD a [])) (hir : ∀ u, u ∉ t.getD u []) : twiceI t2 = twiceI t := by
  have hm : ∀ a b, b ∈ t2.getD a [] ↔ b ∈ t.getD a [] := fun a b => (hr a).mem
  have h2 : RotN t2 := ⟨by rw [hl]; exact h.le, fun u => (hr u).nodup (h.nd u), fun u v hv => by
    rw [hm] at hv ⊢; rw [hl]; exact h.sym u v hv⟩
  have hir2 : ∀ u, u ∉ t2.getD u [] := fun u hu => hir u ((hm u u).1 hu)
  have hD : dartsN t2 = dartsN t := by
    unfold dartsN rowD
    rw [hl]
    congr 1
    funext u
    congr 1
    apply List.filter_congr
    intro x _
    rw [decide_eq_decide]
    exact hm u x
  have hne : ∀ a, t2.getD a [] ≠ [] ↔ t.getD a [] ≠ [] := fun a => by
    have := (hr a).len
    rw [← List.length_pos_iff, ← List.length_pos_iff, this]
  have hQ : fullQ t2 = fullQ t := nat_ext fun i => by
    rw [Bool.eq_iff_iff, testBit_fullQ, testBit_fullQ, hl, hne]
  have hcon : ∀ a b, ConT t2 a b ↔ ConT t a b := fun a b => ⟨fun hc => hc.closed (C := ConT t a) (fun _ _ hx hy => .step hx ((hm _ _).1 hy)) .refl, fun hc => hc.closed (C := ConT t2 a) (fun _ _ hx hy => .step hx ((hm _ _).2 hy)) .refl⟩
  obtain ⟨S, hS⟩ := comp_ex h hir
  have hS2 : CompR t2 S := ⟨fun s hs => (hne s).2 (hS.all s hs), hS.apart.imp fun hn hc => hn ((hcon _ _).1 hc), fun v hv => by
    obtain ⟨s, h1, h2⟩ := hS.cover v ((hne v).1 hv)
    exact ⟨s, h1, (hcon _ _).2 h2⟩⟩
  have hF : (facesN t2).length = (facesN t).length := by
    rw [← cyc_faces h, ← cyc_faces h2, hD]
    refine cyc_congr (succ_perm h) (fun x hx => ?_)
    have hxD := (mem_dartsN h).1 hx
    unfold succD
    rw [(hr x.2).next (h.nd _) (h.sym _ _ hxD).2]
  rw [twice_comp h hir hS, twice_comp h2 hir2 hS2, hD, hQ, hF]
/-- A search that looks at twice the genus. -/
noncomputable def srchS : List (Nat × Nat) → List (List Nat) → List (List (List Nat))
  | [], t => if twiceI t = 0 then [t.map rotL] else []
  | e :: es, t => if twiceI t = 0 then (List.range (max 1 (t.getD e.1 []).length)).flatMap fun i => (List.range (max 1 (t.getD e.2 []).length)).flatMap fun k => srchS es (stepE t e.1 e.2 i k) else []
/-- Both places lie in one face. -/
def OkI (t : List (List Nat)) (u v i k : Nat) : Prop := t.getD u [] = [] ∨ t.getD v [] = [] ∨ Leads t ((t.getD u []).getD i 0, u) ((t.getD v []).getD k 0, v)
open Classical in
/-- A search that looks at the faces. -/
noncomputable def srchI : List (Nat × Nat) → List (List Nat) → List (List (List Nat))
  | [], t => [t.map rotL]
  | e :: es, t => (List.range (max 1 (t.getD e.1 []).length)).flatMap fun i => (List.range (max 1 (t.getD e.2 []).length)).flatMap fun k => if OkI t e.1 e.2 i k then srchI es (stepE t e.1 e.2 i k) else []
/-- All edges of R. -/
def AllE (R : List (List Nat)) (L : List (Nat × Nat)) : Prop := ∀ a b, b ∈ R.getD a [] → putB L a b = true
theorem fit_all {t R : List (List Nat)} {L : List (Nat × Nat)} (h : FitR t R L) (hA : AllE R L) (a : Nat) : RotE (t.getD a []) (R.getD a []) := by
  have := h.row a
  rw [List.filter_eq_self.2 (fun x hx => hA a x hx)] at this
  exact this
theorem getD_mapR (t : List (List Nat)) (a : Nat) : (t.map rotL).getD a [] = rotL (t.getD a []) := by
  simp only [List.getD_eq_getElem?_getD, List.getElem?_map]
  cases t[a]? with
  | none => rfl
  | some l => rfl
theorem rows_ext {t R : List (List Nat)} (hl : t.length = R.length) (h : ∀ a, t.getD a [] = R.getD a []) : t = R := by
  refine List.ext_getElem hl fun i h1 h2 => ?_
  have := h i
  simpa [h1, h2] using this
/-- What has the rows in their order comes out of what fits, and of nothing else. -/
theorem leaf_iff {t R : List (List Nat)} {L : List (Nat × Nat)} (hl : t.length = R.length) (hR : RotN R) (hc : ∀ a, rotL (R.getD a []) = R.getD a []) (hA : AllE R L) : t.map rotL = R ↔ FitR t R L := by
  constructor
  · intro h
    refine ⟨hl, fun a => ?_⟩
    rw [List.filter_eq_self.2 (fun x hx => hA a x hx)]
    have e : rotL (t.getD a []) = R.getD a [] := by rw [← getD_mapR, h]
    exact rotL_eq (by rw [e, hc])
  · intro h
    refine rows_ext (by simpa using hl) fun a => ?_
    have hr := fit_all h hA a
    rw [getD_mapR, hr.symm.rotL (hR.nd a), hc]
/-- What is in is told by the edges that are in. -/
structure InT (t R : List (List Nat)) (L : List (Nat × Nat)) : Prop where
  len : t.length = R.length
  put : ∀ a b, b ∈ t.getD a [] → putB L a b = true
theorem InT.step {t R : List (List Nat)} {L : List (Nat × Nat)} {u v : Nat} (h : InT t R L) (hE : EdgesR R (L ++ [(u, v)])) (i k : Nat) : InT (stepE t u v i k) R (L ++ [(u, v)]) := by
  obtain ⟨hu, hv, hne, -⟩ := hE.next
  refine ⟨by rw [step_len, h.len], fun a b hb => ?_⟩
  rw [step_mem (by rw [h.len]; exact hu) (by rw [h.len]; exact hv) hne] at hb
  rw [putB_cons]
  simp only [Bool.or_eq_true, decide_eq_true_eq]
  rcases hb with hb | hb | hb
  · exact .inl (h.put a b hb)
  · exact .inr (.inl hb)
  · exact .inr (.inr hb)
theorem FitR.inT {t R : List (List Nat)} {L : List (Nat × Nat)} (h : FitR t R L) : InT t R L := ⟨h.len, fun a b hb => (h.mem.1 hb).2⟩
theorem EdgesR.pre {R : List (List Nat)} {L M : List (Nat × Nat)} (h : EdgesR R (L ++ M)) : EdgesR R L := by
  have hn := h.nd
  rw [List.nodup_append] at hn
  exact ⟨h.rot, h.irr, hn.1, fun e he hc => h.one e (by simp [he]) (by simp [hc]), fun e he => h.mem e (by simp [he])⟩
theorem EdgesR.cut {R : List (List Nat)} {L es : List (Nat × Nat)} {e : Nat × Nat} (h : EdgesR R (L ++ e :: es)) : EdgesR R (L ++ [(e.1, e.2)]) := by
  have : L ++ e :: es = (L ++ [(e.1, e.2)]) ++ es := by simp
  rw [this] at h
  exact h.pre
theorem FitR.stepC {t R : List (List Nat)} {L : List (Nat × Nat)} {u v i k : Nat} (h : FitR t R L) (hE : EdgesR R (L ++ [(u, v)])) (hi : i < max 1 (t.getD u []).length) (hk : k < max 1 (t.getD v []).length) : StepC t u v i k := by
  obtain ⟨hu, hv, hne, huv, hvu, hno⟩ := hE.next
  exact ⟨h.rot hE.rot, fun a ha => hE.irr a (h.mem.1 ha).1, by rw [h.len]; exact hu, by rw [h.len]; exact hv, hne, (fun hc => by have := (h.mem.1 hc).2; rw [hno] at this; cases this), hi, hk⟩
theorem fit_same {t t2 R : List (List Nat)} {L : List (Nat × Nat)} (hE : EdgesR R L) (h : FitR t R L) (h2 : FitR t2 R L) : twiceI t2 = twiceI t :=
  twice_rot (h.rot hE.rot) (by rw [h.len, h2.len]) (fun a => (h.row a).trans (h2.row a).symm) (fun a ha => hE.irr a (h.mem.1 ha).1)
theorem fit_ex (R : List (List Nat)) (L : List (Nat × Nat)) : ∃ t, FitR t R L := by
  refine ⟨(List.range R.length).map fun a => (R.getD a []).filter (putB L a), by simp, fun a => ?_⟩
  by_cases ha : a < R.length
  · have e : ((List.range R.length).map fun a => (R.getD a []).filter (putB L a)).getD a [] = (R.getD a []).filter (putB L a) := by
      rw [List.getD_eq_getElem?_getD, List.getElem?_map, List.getElem?_range ha]; rfl
    rw [e]; exact RotE.refl _
  · have e1 : R.getD a [] = [] := by simp [show R.length ≤ a by omega]
    have e2 : ((List.range R.length).map fun a => (R.getD a []).filter (putB L a)).getD a [] = [] := by simp [show R.length ≤ a by omega]
    rw [e1, e2]; exact RotE.refl _
/-- No system has a genus below nought. -/
theorem fit_nonneg {R : List (List Nat)} : ∀ (n : Nat) (L : List (Nat × Nat)) (t : List (List Nat)), L.length = n → EdgesR R L → FitR t R L → 0 ≤ twiceI t
  | 0, L, t, hl, hE, h => by
    have : L = [] := List.eq_nil_of_length_eq_zero hl
    subst this
    rw [fit_same hE (FitR.start (R := R)) h, twice_nil _ hE.rot.le]
    exact Int.le_refl _
  | n + 1, L, t, hl, hE, h => by
    obtain ⟨L', e, rfl⟩ : ∃ L' e, L = L' ++ [e] := ⟨L.dropLast, L.getLast (fun h0 => by rw [h0] at hl; simp at hl), (List.dropLast_concat_getLast _).symm⟩
    obtain ⟨u, v⟩ := e
    obtain ⟨t', h'⟩ := fit_ex R L'
    have ih := fit_nonneg n L' t' (by simpa using hl) hE.pre h'
    obtain ⟨i, k, hi, hk, hf⟩ := h'.go hE
    have hm := (h'.stepC hE hi hk).mono
    rw [fit_same hE hf h]
    omega
theorem fit_mono {R : List (List Nat)} : ∀ (es L : List (Nat × Nat)) (t : List (List Nat)), EdgesR R (L ++ es) → AllE R (L ++ es) → FitR t R L → twiceI t ≤ twiceI R
  | [], L, t, hE, hA, h => by
    rw [List.append_nil] at hE hA
    have hr : twiceI R = twiceI t := twice_rot (h.rot hE.rot) h.len.symm (fun a => fit_all h hA a) (fun a ha => hE.irr a (h.mem.1 ha).1)
    omega
  | e :: es, L, t, hE, hA, h => by
    have hc := hE.cut
    obtain ⟨i, k, hi, hk, hf⟩ := h.go hc
    have hm := (h.stepC hc hi hk).mono
    have e2 : L ++ e :: es = (L ++ [(e.1, e.2)]) ++ es := by simp
    rw [e2] at hE hA
    have := fit_mono es _ _ hE hA hf
    omega
/-- A right system with its rows in order. -/
structure RightR (R : List (List Nat)) (E : List (Nat × Nat)) : Prop where
  edges : EdgesR R E
  all : AllE R E
  least : ∀ a, rotL (R.getD a []) = R.getD a []
theorem srchS_none {R : List (List Nat)} (hc : ∀ a, rotL (R.getD a []) = R.getD a []) : ∀ (es L : List (Nat × Nat)) (t : List (List Nat)), EdgesR R (L ++ es) → AllE R (L ++ es) → InT t R L → ¬ FitR t R L → (srchS es t).count R = 0
  | [], L, t, hE, hA, hI, h => by
    rw [List.append_nil] at hE hA
    rw [srchS]
    split
    · rw [List.count_singleton]
      have : (t.map rotL == R) = false := by
        rw [beq_eq_false_iff_ne]
        exact fun e => h ((leaf_iff hI.len hE.rot hc hA).1 e)
      rw [this]; rfl
    · rfl
  | e :: es, L, t, hE, hA, hI, h => by
    rw [srchS]
    split
    · refine count_none _ _ _ fun i _ => count_none _ _ _ fun k _ => ?_
      have e2 : L ++ e :: es = (L ++ [(e.1, e.2)]) ++ es := by simp
      have hcut := hE.cut
      rw [e2] at hE hA
      exact srchS_none hc es _ _ hE hA (hI.step hcut i k) (fun hf => h (hf.back hI.put hI.len hcut))
    · rfl
theorem srchS_count {R : List (List Nat)} (hc : ∀ a, rotL (R.getD a []) = R.getD a []) : ∀ (es L : List (Nat × Nat)) (t : List (List Nat)), EdgesR R (L ++ es) → AllE R (L ++ es) → FitR t R L → (srchS es t).count R = if twiceI R = 0 then 1 else 0
  | [], L, t, hE, hA, h => by
    rw [List.append_nil] at hE hA
    have hr : twiceI R = twiceI t := twice_rot (h.rot hE.rot) h.len.symm (fun a => fit_all h hA a) (fun a ha => hE.irr a (h.mem.1 ha).1)
    rw [srchS, hr]
    split
    · rw [(leaf_iff h.len hE.rot hc hA).2 h]; simp
    · rfl
  | e :: es, L, t, hE, hA, h => by
    have hcut := hE.cut
    have hm := fit_mono _ _ _ hE hA h
    have hn := fit_nonneg _ _ _ rfl hE.pre h
    obtain ⟨i0, k0, hi0, hk0, hf0⟩ := h.go hcut
    have e2 : L ++ e :: es = (L ++ [(e.1, e.2)]) ++ es := by simp
    rw [e2] at hE hA
    rw [srchS]
    by_cases h0 : twiceI t = 0
    · rw [if_pos h0]
      refine count_one _ _ _ i0 _ hi0 (count_one _ _ _ k0 _ hk0 (srchS_count hc es _ _ hE hA hf0) fun k hk hne => ?_) fun i hi hne => count_none _ _ _ fun k hk => ?_
      · exact srchS_none hc es _ _ hE hA (h.inT.step hcut _ _) (fun hf => hne (h.uniq hcut hi0 hk hi0 hk0 hf hf0).2)
      · exact srchS_none hc es _ _ hE hA (h.inT.step hcut _ _) (fun hf => hne (h.uniq hcut hi hk hi0 hk0 hf hf0).1)
    · rw [if_neg h0, if_neg (by omega)]; rfl
/-- Each edge but the first of a part begins where its part has been. -/
def GrownE (L es : List (Nat × Nat)) : Prop := ∀ es1 u v es2, es = es1 ++ (u, v) :: es2 → ∀ t R : List (List Nat), EdgesR R ((L ++ es1) ++ [(u, v)]) → FitR t R (L ++ es1) → t.getD u [] ≠ [] → t.getD v [] ≠ [] → ConT t u v
/-! All that is found is right. -/
/-- A right list of edges on n vertices. -/
structure EdgeL (n : Nat) (E : List (Nat × Nat)) : Prop where
  le : n ≤ 16
  nd : E.Nodup
  one : ∀ e ∈ E, (e.2, e.1) ∉ E
  lt : ∀ e ∈ E, e.1 < n ∧ e.2 < n ∧ e.1 ≠ e.2
/-- A system with these edges. -/
structure HasE (n : Nat) (t : List (List Nat)) (L : List (Nat × Nat)) : Prop where
  rot : RotN t
  len : t.length = n
  mem : ∀ a b, b ∈ t.getD a [] ↔ putB L a b = true
theorem HasE.step {n : Nat} {t : List (List Nat)} {L es : List (Nat × Nat)} {e : Nat × Nat} (h : HasE n t L) (hE : EdgeL n (L ++ e :: es)) (i k : Nat) : HasE n (stepE t e.1 e.2 i k) (L ++ [(e.1, e.2)]) := by
  obtain ⟨h1, h2, h3⟩ := hE.lt e (by simp)
  have hno : putB L e.1 e.2 = false := by
    unfold putB
    rw [decide_eq_false_iff_not]
    have hn := hE.nd
    rw [List.nodup_append] at hn
    rintro (hc | hc)
    · exact hn.2.2 _ hc e (by simp) rfl
    · exact hE.one e (by simp) (by simp [hc])
  have hu : e.1 < t.length := by rw [h.len]; exact h1
  have hv : e.2 < t.length := by rw [h.len]; exact h2
  refine ⟨step_rot h.rot hu hv h3 (fun hc => by rw [h.mem, hno] at hc; cases hc) i k, by rw [step_len, h.len], fun a b => ?_⟩
  rw [step_mem hu hv h3, h.mem, putB_cons]
  simp only [Bool.or_eq_true, decide_eq_true_eq]
theorem EdgeL.next {n : Nat} {L es : List (Nat × Nat)} {e : Nat × Nat} (h : EdgeL n (L ++ e :: es)) : EdgeL n ((L ++ [(e.1, e.2)]) ++ es) := by
  have : (L ++ [(e.1, e.2)]) ++ es = L ++ e :: es := by simp
  rw [this]; exact h
theorem srchS_mem {n : Nat} {R : List (List Nat)} : ∀ (es L : List (Nat × Nat)) (t : List (List Nat)), EdgeL n (L ++ es) → HasE n t L → R ∈ srchS es t → ∃ t', HasE n t' (L ++ es) ∧ R = t'.map rotL
  | [], L, t, hE, h, hR => by
    rw [srchS] at hR
    split at hR
    · rw [List.mem_singleton] at hR
      exact ⟨t, by rw [List.append_nil]; exact h, hR⟩
    · cases hR
  | e :: es, L, t, hE, h, hR => by
    rw [srchS] at hR
    split at hR
    · obtain ⟨i, _, hR⟩ := List.mem_flatMap.1 hR
      obtain ⟨k, _, hR⟩ := List.mem_flatMap.1 hR
      have := srchS_mem es _ _ hE.next (h.step hE i k) hR
      rw [show L ++ e :: es = (L ++ [(e.1, e.2)]) ++ es by simp]
      exact this
    · cases hR
theorem HasE.right {n : Nat} {t : List (List Nat)} {E : List (Nat × Nat)} (hE : EdgeL n E) (h : HasE n t E) : RightR (t.map rotL) E := by
  have hm : ∀ a b, b ∈ (t.map rotL).getD a [] ↔ b ∈ t.getD a [] := fun a b => by rw [getD_mapR, rotL_mem]
  have hr : RotN (t.map rotL) := ⟨by simpa using h.rot.le, fun u => by rw [getD_mapR]; exact (rotL_perm _).nodup_iff.2 (h.rot.nd u), fun u v hv => by
    rw [hm] at hv ⊢; rw [List.length_map]; exact h.rot.sym u v hv⟩
  have hin : ∀ e ∈ E, putB E e.1 e.2 = true := fun e he => by unfold putB; rw [decide_eq_true_eq]; exact .inl he
  refine ⟨⟨hr, fun a ha => ?_, hE.nd, hE.one, fun e he => by rw [hm, h.mem]; exact hin e he⟩, fun a b hb => by rw [hm, h.mem] at hb; exact hb, fun a => ?_⟩
  · rw [hm, h.mem] at ha
    unfold putB at ha
    rw [decide_eq_true_eq] at ha
    have : (a, a) ∈ E := ha.elim id id
    exact (hE.lt _ this).2.2 rfl
  · rw [getD_mapR]
    exact (rotL_rotE _).rotL (h.rot.nd a)
theorem hasE_start {n : Nat} (hn : n ≤ 16) : HasE n (List.replicate n []) [] := by
  have hg : ∀ a, (List.replicate n ([] : List Nat)).getD a [] = [] := fun a => by
    rw [List.getD_eq_getElem?_getD, List.getElem?_replicate]; split <;> rfl
  exact ⟨⟨by simpa using hn, fun u => by rw [hg]; exact List.nodup_nil, fun u v hv => by rw [hg] at hv; simp at hv⟩, by simp, fun a b => by rw [hg]; simp [putB]⟩
theorem next_self {l : List Nat} (hn : l.Nodup) {u : Nat} (hu : u ∈ l) (h : nextIn l u = u) : l = [u] := by
  obtain ⟨i, hi, e⟩ := List.getElem_of_mem hu
  rw [← e, nextIn_at hn hi] at h
  have hp : 0 < l.length := by omega
  have e2 : l.getD i 0 = l[i] := by simp [hi]
  have := getD_inj hn (Nat.mod_lt _ hp) hi (h.trans e2.symm)
  rw [step_mod hi] at this
  have hl : l.length = 1 := by split at this <;> omega
  match l, hl, hi, e with
  | [a], _, hi, e =>
    have : i = 0 := by simp at hi; exact hi
    subst this
    simp at e; rw [e]
/-- A face of one edge alone. -/
def TwoF (t : List (List Nat)) (x : Dart) : Prop := succD t (succD t x) = x
instance (t : List (List Nat)) (x : Dart) : Decidable (TwoF t x) := inferInstanceAs (Decidable (succD t (succD t x) = x))
theorem two_rows {t : List (List Nat)} (h : RotN t) {x : Dart} (hx : IsD t x) (h2 : TwoF t x) : t.getD x.1 [] = [x.2] ∧ t.getD x.2 [] = [x.1] := by
  obtain ⟨p, q⟩ := x
  have hs := h.sym _ _ hx
  unfold TwoF succD at h2
  simp only [Prod.mk.injEq] at h2
  obtain ⟨h3, h4⟩ := h2
  rw [h3] at h4
  exact ⟨next_self (h.nd p) hx h4, next_self (h.nd q) hs.2 h3⟩
theorem two_con {t : List (List Nat)} {x : Dart} (h1 : t.getD x.1 [] = [x.2]) (h2 : t.getD x.2 [] = [x.1]) {v : Nat} (hl : ConT t x.1 v) : v = x.1 ∨ v = x.2 :=
  hl.closed (C := fun v => v = x.1 ∨ v = x.2) (fun a b ha hb => by
    rcases ha with rfl | rfl
    · rw [h1] at hb; simp at hb; exact .inr hb
    · rw [h2] at hb; simp at hb; exact .inl hb) (.inl rfl)
theorem succ_ne {t : List (List Nat)} (hir : ∀ u, u ∉ t.getD u []) {x : Dart} (hx : IsD t x) : succD t x ≠ x := fun e => by
  have h1 := congrArg Prod.fst e
  simp only [succD] at h1
  unfold IsD at hx
  rw [h1] at hx
  exact hir _ hx
/-- The first sides of the faces. -/
def headsF (t : List (List Nat)) (s : Dart) : List Dart := if TwoF t s then [s, succD t s] else [s, succD t s, succD t (succD t s)]
theorem heads_lead {t : List (List Nat)} {s x : Dart} (hx : x ∈ headsF t s) : LeadF (succD t) s x := by
  unfold headsF at hx
  split at hx
  · simp at hx
    rcases hx with rfl | rfl
    · exact .refl _ _
    · exact .step _ _
  · simp at hx
    rcases hx with rfl | rfl | rfl
    · exact .refl _ _
    · exact .step _ _
    · exact (LeadF.step _ _).trans (.step _ _)
theorem heads_nodup {t : List (List Nat)} (h : RotN t) (hir : ∀ u, u ∉ t.getD u []) {s : Dart} (hs : IsD t s) : (headsF t s).Nodup := by
  have h1 := succ_ne hir hs
  have h2 := succ_ne hir (succ_isD h hs)
  unfold headsF
  split
  · simp; exact fun e => h1 e.symm
  · rename_i hn
    simp
    exact ⟨⟨fun e => h1 e.symm, fun e => hn e.symm⟩, fun e => h2 e.symm⟩
theorem heads_sum (t : List (List Nat)) : ∀ S : List Dart, (S.flatMap (headsF t)).length + (S.filter fun s => decide (TwoF t s)).length = 3 * S.length
  | [] => rfl
  | s :: S => by
    have ih := heads_sum t S
    rw [List.flatMap_cons, List.length_append, List.length_cons]
    unfold headsF at ih ⊢
    by_cases h : TwoF t s
    · rw [if_pos h, List.filter_cons_of_pos (by simpa using h)]
      simp only [List.length_cons, List.length_nil]; omega
    · rw [if_neg h, List.filter_cons_of_neg (by simpa using h)]
      simp only [List.length_cons, List.length_nil]; omega
/-- In the plane there are at most three times as many edges as vertices, less six. -/
theorem euler {t : List (List Nat)} (h : RotN t) (hir : ∀ u, u ∉ t.getD u []) (h0 : twiceI t = 0) (h3 : 3 ≤ t.length) : (dartsN t).length / 2 + 6 ≤ 3 * t.length := by
  obtain ⟨C, hC⟩ := comp_ex h hir
  have e0 := twice_comp h hir hC
  obtain ⟨S, hS⟩ := rep_ex (succ_perm h)
  have eF := cyc_eq (succ_perm h) hS
  rw [cyc_faces h] at eF
  have hSD : ∀ s, s ∈ S → IsD t s := fun s hs => (mem_dartsN h).1 (hS.all s hs)
  have hnd : (S.flatMap (headsF t)).Nodup := by
    rw [List.Nodup, List.pairwise_flatMap]
    refine ⟨fun s hs => heads_nodup h hir (hSD s hs), List.Pairwise.imp_of_mem ?_ hS.apart⟩
    intro a b ha hb hn x hx y hy e
    subst e
    exact hn ((heads_lead hx).trans ((heads_lead hy).symm (succ_perm h) (hS.all b hb)))
  have hle := nodup_lenA hnd (E := dartsN t) (fun x hx => by
    obtain ⟨s, hs, hx⟩ := List.mem_flatMap.1 hx
    exact (heads_lead hx).isIn (succ_perm h) (hS.all s hs))
  have hsum := heads_sum t S
  have hQ : popN (fullQ t) ≤ t.length := by
    have := nodup_lenA (l := bitsN (fullQ t)) (E := List.range t.length) ((bitsN_sorted _).imp fun h => by omega) (fun x hx => List.mem_range.2 (testBit_fullQ.1 ((mem_bitsN (fullQ_lt h)).1 hx)).1)
    rw [List.length_range] at this; exact this
  -- faces of one edge alone lie in parts of their own
  obtain ⟨K, hK⟩ : ∃ K, K = S.filter fun s => decide (TwoF t s) := ⟨_, rfl⟩
  rw [← hK] at hsum
  have hKm : ∀ s, s ∈ K → s ∈ S ∧ TwoF t s := fun s hs => by rw [hK] at hs; obtain ⟨h1, h2⟩ := List.mem_filter.1 hs; exact ⟨h1, of_decide_eq_true h2⟩
  have hKap : K.Pairwise fun a b => ¬ LeadF (succD t) a b := by rw [hK]; exact hS.apart.filter _
  have hKC : K.length ≤ C.length := by
    have key : ∀ x : Dart, ∃ c, x ∈ K → c ∈ C ∧ ConT t c x.1 := fun x => by
      by_cases hx : x ∈ K
      · have hr := two_rows h (hSD x (hKm x hx).1) (hKm x hx).2
        obtain ⟨c, h1, h2⟩ := hC.cover x.1 (by rw [hr.1]; simp)
        exact ⟨c, fun _ => ⟨h1, h2⟩⟩
      · exact ⟨0, fun h => absurd h hx⟩
    obtain ⟨c, hc⟩ := Classical.axiomOfChoice key
    have hn : (K.map c).Nodup := by
      rw [List.Nodup, List.pairwise_map]
      refine List.Pairwise.imp_of_mem ?_ hKap
      intro a b ha hb hab e
      have h1 := (hc a ha).2
      have h2 := (hc b hb).2
      rw [← e] at h2
      have hra := two_rows h (hSD a (hKm a ha).1) (hKm a ha).2
      have hrb := two_rows h (hSD b (hKm b hb).1) (hKm b hb).2
      have hcon := (h1.symm h).trans h2
      apply hab
      obtain ⟨p, q⟩ := a
      obtain ⟨p', q'⟩ := b
      simp only at hra hrb hcon
      rcases two_con (x := (p, q)) hra.1 hra.2 hcon with rfl | rfl
      · have : q = q' := by have := hra.1.symm.trans hrb.1; simpa using this
        subst this; exact .refl _ _
      · have : p = q' := by have := hra.2.symm.trans hrb.1; simpa using this
        subst this
        refine ⟨1, ?_⟩
        show succD t (p, p') = (p', p)
        unfold succD
        simp only [hra.2, next_single]
    have := nodup_lenA hn (E := C) (fun y hy => by obtain ⟨x, hx, rfl⟩ := List.mem_map.1 hy; exact (hc x hx).1)
    simpa using this
  have hev := darts_even h hir
  by_cases hP : 2 ≤ C.length
  · omega
  · by_cases hP0 : C.length = 0
    · have hD : dartsN t = [] := by
        rw [List.eq_nil_iff_forall_not_mem]
        intro x hx
        have hx := (mem_dartsN h).1 hx
        obtain ⟨c, h1, -⟩ := hC.cover x.1 (List.ne_nil_of_mem hx)
        have := List.eq_nil_of_length_eq_zero hP0
        rw [this] at h1; cases h1
      rw [hD]; simp; omega
    · by_cases hK0 : K.length = 0
      · omega
      · obtain ⟨s, hs⟩ := List.exists_mem_of_length_pos (show 0 < K.length by omega)
        have hr := two_rows h (hSD s (hKm s hs).1) (hKm s hs).2
        obtain ⟨c, hc1, hc2⟩ := hC.cover s.1 (by rw [hr.1]; simp)
        have hone : ∀ v, t.getD v [] ≠ [] → v = s.1 ∨ v = s.2 := fun v hv => by
          obtain ⟨c', h1, h2⟩ := hC.cover v hv
          have : c' = c := by
            match C, hc1, h1, hP, hP0 with
            | [a], hc1, h1, _, _ => simp at hc1 h1; rw [hc1, h1]
            | a :: b :: C, _, _, hP, _ => simp at hP
          subst this
          exact two_con hr.1 hr.2 ((hc2.symm h).trans h2)
        have := nodup_lenA (l := bitsN (fullQ t)) (E := [s.1, s.2]) ((bitsN_sorted _).imp fun h => by omega) (fun x hx => by
          have := (testBit_fullQ.1 ((mem_bitsN (fullQ_lt h)).1 hx)).2
          rcases hone x this with e | e <;> simp [e])
        unfold popN at e0
        simp at this
        omega
/-- Where there are too many edges, nothing is found. -/
theorem srchS_many {n : Nat} {E : List (Nat × Nat)} (hE : EdgeL n E) (h3 : 3 ≤ n) (hm : 3 * n < E.length + 6) : srchS E (List.replicate n []) = [] := by
  rw [List.eq_nil_iff_forall_not_mem]
  intro R hR
  obtain ⟨t', h1, h2⟩ := srchS_mem E [] _ (by simpa using hE) (hasE_start hE.le) hR
  rw [List.nil_append] at h1
  have hr := h1.right hE
  rw [← h2] at hr
  have hl : R.length = n := by rw [h2, List.length_map, h1.len]
  have hst : FitR (List.replicate n []) R [] := by rw [← hl]; exact FitR.start
  have hc := srchS_count hr.least E [] _ (by simpa using hr.edges) (by simpa using hr.all) hst
  have hpos := List.count_pos_iff.2 hR
  by_cases h0 : twiceI R = 0
  · have he := euler hr.edges.rot hr.edges.irr h0 (by rw [hl]; exact h3)
    rw [hl] at he
    have hnd : (E ++ E.map fun e => (e.2, e.1)).Nodup := by
      rw [List.nodup_append]
      refine ⟨hE.nd, ?_, fun a ha b hb e => ?_⟩
      · rw [List.Nodup, List.pairwise_map]
        refine hE.nd.imp fun hab e => hab ?_
        simp only [Prod.mk.injEq] at e
        exact Prod.ext e.2 e.1
      · obtain ⟨x, hx, rfl⟩ := List.mem_map.1 hb
        subst e
        exact hE.one x hx ha
    have := nodup_lenA hnd (E := dartsN R) (fun x hx => by
      rw [mem_dartsN hr.edges.rot]
      rcases List.mem_append.1 hx with hx | hx
      · exact hr.edges.mem x hx
      · obtain ⟨y, hy, rfl⟩ := List.mem_map.1 hx
        exact (hr.edges.rot.sym _ _ (hr.edges.mem y hy)).2)
    rw [List.length_append, List.length_map] at this
    omega
  · rw [hc, if_neg h0] at hpos
    omega
def nearC (H : List Nat) (s v : Nat) : Nat := popN (H.getD v 0 &&& s)
def bestS (H : List Nat) (s : Nat) (p : Int × Int) (v : Nat) : Int × Int := if p.2 < (nearC H s v : Int) then ((v : Int), (nearC H s v : Int)) else p
/-- The next vertex: one with the most neighbours among those that have been, the first such. -/
def bestTo (H : List Nat) (s : Nat) (l : List Nat) : Int × Int := l.foldl (bestS H s) (-1, -1)
def bestX (H : List Nat) (s : Nat) : Nat := (bestTo H s (bitsN (andN (firstN H.length) s))).1.toNat
/-- A net's words. -/
structure NetW (H : List Nat) : Prop where
  le : H.length ≤ 16
  lt : ∀ v, H.getD v 0 < 4294967296
  sym : ∀ x y, (H.getD x 0).testBit y = true → (H.getD y 0).testBit x = true
  irr : ∀ v, (H.getD v 0).testBit v = false
  inn : ∀ x y, (H.getD x 0).testBit y = true → y < H.length
/-- The edges of one vertex to those that have been. -/
def blockE (H : List Nat) (s x : Nat) : List (Nat × Nat) := (bitsN (H.getD x 0 &&& s)).map fun u => (u, x)
def growF (H : List Nat) : Nat → Nat → List (Nat × Nat)
  | 0, _ => []
  | k + 1, s => if s = firstN H.length then [] else blockE H s (bestX H s) ++ growF H k (s ||| bit (bestX H s))
def growR (H : List Nat) (s : Nat) : List (Nat × Nat) := growF H (H.length - popN s) s
/-- Joined inside a set. -/
inductive ConS (H : List Nat) (s a : Nat) : Nat → Prop
  | refl : ConS H s a a
  | step {b c : Nat} : ConS H s a b → (H.getD b 0).testBit c = true → s.testBit c = true → ConS H s a c
/-- What is joined at all is joined inside what has been. -/
def SeenC (H : List Nat) (s : Nat) : Prop := ∀ a b, s.testBit a = true → s.testBit b = true → ConS H (firstN H.length) a b → ConS H s a b
/-- The edges so far are those inside what has been. -/
def SeenE (H : List Nat) (s : Nat) (L : List (Nat × Nat)) : Prop := ∀ a b, putB L a b = true ↔ s.testBit a = true ∧ s.testBit b = true ∧ (H.getD a 0).testBit b = true
end Go.Proofs.YtdbanndcdbikmaaGreatDoor
