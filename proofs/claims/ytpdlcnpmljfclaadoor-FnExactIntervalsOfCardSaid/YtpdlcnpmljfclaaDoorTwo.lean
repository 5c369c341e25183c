/- Cut vertices by the reference; TwoConnectedIn of both; the law. -/
import Derived.Test.YtpdlcnpmljfclaaDoorReach2
import Derived.Test.YtpdlcnpmljfclaaDoorLaws
namespace Go.Proofs.YtpdlcnpmljfclaaDoor
open Go.RowKit
theorem maskL_bitsI {m : Nat} (hm : m < 4294967296) : maskL (bitsI m) = m := by
  apply nat_ext
  intro i
  rw [testBit_maskL (fun x hx => ((mem_bitsI hm).1 hx).1), Bool.eq_iff_iff, decide_eq_true_eq, mem_bitsI hm]
  simp
theorem rangeI_bits {n : Nat} (hn : n ≤ 16) : rangeI n = bitsI (firstN n) := by
  have hf : firstN n < 4294967296 := by have := firstN_lt hn; omega
  refine sorted_ext (rangeI_sorted n) (bitsI_sorted _) fun x => ?_
  rw [mem_rangeI, mem_bits_firstN hn]
theorem firstN_two (n : Nat) : firstN n < 2 ^ n := by unfold firstN; have := Nat.two_pow_pos n; omega
/-- The number of steps of the union with the first k elements. -/
theorem or_take {D P k : Nat} {D' : Nat} (hk : k < (bitsN P).length) (h : ∀ i, D'.testBit i = true ↔ D.testBit i = true ∨ i ∈ (bitsN P).take k) : ∀ i, (D' ||| bit (bitsN P)[k]).testBit i = true ↔ D.testBit i = true ∨ i ∈ (bitsN P).take (k + 1) := fun i => by
  rw [Nat.testBit_or, testBit_bit, Bool.or_eq_true, h i, List.take_succ_eq_append_getElem hk, List.mem_append, List.mem_singleton, decide_eq_true_eq, or_assoc]
  constructor
  · rintro (h | h | h)
    · exact .inl h
    · exact .inr (.inl h)
    · exact .inr (.inr h.symm)
  · rintro (h | h | h)
    · exact .inl h
    · exact .inr (.inl h)
    · exact .inr (.inr h.symm)
theorem or_all {D P : Nat} {D' : Nat} (hP : P < 4294967296) (h : ∀ i, D'.testBit i = true ↔ D.testBit i = true ∨ i ∈ (bitsN P).take (bitsN P).length) : D' = D ||| P := by
  apply nat_ext
  intro i
  rw [Bool.eq_iff_iff, h i, List.take_length, mem_bitsN hP, Nat.testBit_or, Bool.or_eq_true]
/-- What the parts' loop holds in memory. -/
structure PartsW (w : World) (B : Nat) (EO : TypeId) (EI : TypeId) (o d : Value) (out : List Nat) (D : Nat) : Prop where
  done : OwnB w B EI d D
  ex : ∃ vs : List Value, vs.length = out.length ∧ Own w B EO 1 o out.length vs ∧ Apart d o ∧ ∀ i (h : i < vs.length) (h2 : i < out.length), OwnB w B EI vs[i] out[i] ∧ Apart vs[i] o
theorem PartsW.below {w w' : World} {B B1 : Nat} {EO EI : TypeId} {o d : Value} {out : List Nat} {D : Nat} (h : PartsW w B EO EI o d out D) (hb : Below B1 w w') (hB : w.heap.size ≤ B1) : PartsW w' B EO EI o d out D := by
  obtain ⟨vs, h1, h2, h3, h4⟩ := h.ex
  exact ⟨h.done.below hb hB, vs, h1, h2.below hb hB, h3, fun i hi hi2 => ⟨(h4 i hi hi2).1.below hb hB, (h4 i hi hi2).2⟩⟩
/-- Another list done, apart or new. -/
theorem PartsW.other {w w' : World} {B : Nat} {EO EI : TypeId} {o d d' : Value} {out : List Nat} {D D' : Nat} (h : PartsW w B EO EI o d out D) (hb : Below w.heap.size w w') (hd : OwnB w' B EI d' D') (ha : d' = d ∨ ∀ b, d'.ownBlock = some b → w.heap.size ≤ b) : PartsW w' B EO EI o d' out D' := by
  obtain ⟨vs, h1, h2, h3, h4⟩ := h.ex
  refine ⟨hd, vs, h1, h2.below hb (Nat.le_refl _), ?_, fun i hi hi2 => ⟨(h4 i hi hi2).1.below hb (Nat.le_refl _), (h4 i hi hi2).2⟩⟩
  rcases ha with rfl | ha
  · exact h3
  · intro k hk hk2
    have := ha k hk; have := (h2.lt k hk2).2; omega
/-- One part more. -/
theorem PartsW.more {w w' : World} {B : Nat} {EO EI : TypeId} {o d o' r : Value} {out : List Nat} {vs : List Value} {D p : Nat} {W : World} (hd : OwnB w B EI d D) (hl : vs.length = out.length) (ho : Own w B EO 1 o out.length vs) (hap : Apart d o)
    (hr : ∀ i (h : i < vs.length) (h2 : i < out.length), OwnB w B EI vs[i] out[i] ∧ Apart vs[i] o) (hp : OwnB w B EI r p) (hpo : Apart r o) (hW : w.heap.size ≤ W.heap.size)
    (ho' : Own w' B EO 1 o' (out.length + 1) (vs ++ [r])) (hk : KeptBut w w' o.ownBlock) (hm : Moved W o o') : PartsW w' B EO EI o' d (out ++ [p]) D := by
  have mv : ∀ {u : Value} {m : Nat}, OwnB w B EI u m → Apart u o → Apart u o' := fun {u m} hu h k hk1 hk2 => by
    rcases hm with e | e
    · rw [e] at hk2; exact h k hk1 hk2
    · rw [e] at hk2
      have := (Own.lt hu k hk1).2
      simp at hk2; omega
  refine ⟨Own.kept hd hk (fun k h1 h2 => hap k h1 h2), vs ++ [r], by simp [hl], by simpa using ho', mv hd hap, fun i hi hi2 => ?_⟩
  by_cases e : i < vs.length
  · have e2 : i < out.length := by omega
    rw [List.getElem_append_left e, List.getElem_append_left e2]
    exact ⟨Own.kept (hr i e e2).1 hk (fun k h1 h2 => (hr i e e2).2 k h1 h2), mv (hr i e e2).1 (hr i e e2).2⟩
  · have e3 : i = vs.length := by simp at hi; omega
    subst e3
    rw [List.getElem_append_right (Nat.le_refl _), List.getElem_append_right (by omega)]
    simp only [Nat.sub_self, List.getElem_cons_zero, hl]
    exact ⟨Own.kept hp hk (fun k h1 h2 => hpo k h1 h2), mv hp hpo⟩
theorem PartsW.olt {w : World} {B : Nat} {EO EI : TypeId} {o d : Value} {out : List Nat} {D : Nat} (h : PartsW w B EO EI o d out D) : ∀ b, o.ownBlock = some b → b < w.heap.size := by
  obtain ⟨vs, h1, h2, h3, h4⟩ := h.ex
  exact fun b hb => (h2.lt b hb).2
theorem PartsW.rows {w : World} {B : Nat} {EO EI : TypeId} {o d : Value} {out : List Nat} {D : Nat} (h : PartsW w B EO EI o d out D) (hn : out.length ≤ 9223372036854775807) : SlR (fun b => B ≤ b) w o (out.map bitsI) := by
  obtain ⟨vs, h1, h2, h3, h4⟩ := h.ex
  have hr : RowsTo (fun b => B ≤ b) w vs (out.map bitsI) := ⟨by simp; omega, fun i hi hi2 => by
    have := (h4 i hi (by simpa using hi2)).1
    rw [List.getElem_map]
    exact this.ints.weak (fun b hb => Own.ge this b hb)⟩
  have := hr.rows (E := EO) (n := out.length) (by simp [h1]) (fun b hb => h2.ge b hb) h2 hn
  exact this
def withoutL (n x k : Nat) : List Int := (rangeI k).filter fun y => !decide (y = (x : Int))
theorem without_succ (n x k : Nat) : withoutL n x (k + 1) = if k = x then withoutL n x k else withoutL n x k ++ [(k : Int)] := by
  unfold withoutL
  rw [rangeI_succ, List.filter_append]
  by_cases h : k = x
  · subst h; simp
  · have h2 : ¬ (k : Int) = (x : Int) := by omega
    simp [h, h2]
theorem without_all {n x : Nat} (hn : n ≤ 16) (hx : x < 32) : withoutL n x n = bitsI (andN (firstN n) (bit x)) := by
  have hf : firstN n < 4294967296 := by have := firstN_lt hn; omega
  have hA := Nat.lt_of_le_of_lt (andN_le (firstN n) (bit x)) hf
  refine sorted_ext ((rangeI_sorted n).filter _) (bitsI_sorted _) fun y => ?_
  unfold withoutL
  rw [List.mem_filter, mem_rangeI, mem_bitsI hA, testBit_andN hf (bit_lt hx), testBit_firstN, testBit_bit]
  simp only [Bool.not_eq_true', decide_eq_false_iff_not, Bool.and_eq_true, decide_eq_true_eq]
  omega
theorem withoutL_len (n x k : Nat) : (withoutL n x k).length ≤ k := by
  unfold withoutL; have := List.length_filter_le (fun y => !decide (y = (x : Int))) (rangeI k); rw [rangeI_len] at this; exact this
theorem maskL_zero {l : List Int} (h : ∀ x ∈ l, 0 ≤ x) : maskL l = 0 ↔ l.length = 0 := by
  constructor
  · intro h0
    cases l with
    | nil => rfl
    | cons x l =>
      have hb := testBit_maskL h x.toNat
      rw [h0, Nat.zero_testBit] at hb
      have hx := h x (by simp)
      have : ((x.toNat : Nat) : Int) = x := Int.toNat_of_nonneg hx
      rw [this] at hb; simp at hb
  · intro h0; rw [List.eq_nil_of_length_eq_zero h0]; rfl
noncomputable def cutsL (g : List (List Int)) (k : Nat) : List Int := (rangeI k).filter (cutB (netsL g) (firstN g.length))
theorem cutsL_succ (g : List (List Int)) (k : Nat) : cutsL g (k + 1) = if cutB (netsL g) (firstN g.length) (k : Int) = true then cutsL g k ++ [(k : Int)] else cutsL g k := by
  unfold cutsL
  rw [rangeI_succ, List.filter_append]
  cases h : cutB (netsL g) (firstN g.length) (k : Int) <;> simp [h]
theorem cutsL_len (g : List (List Int)) (k : Nat) : (cutsL g k).length ≤ k := by
  unfold cutsL; have := List.length_filter_le (cutB (netsL g) (firstN g.length)) (rangeI k); rw [rangeI_len] at this; exact this
noncomputable def twoB (g : List (List Int)) : Bool := gokB g && (decide (3 ≤ g.length) && (decide ((partsN (netsL g) (firstN g.length)).length = 1) && decide ((cutsL g g.length).length = 0)))
theorem SlI.empty' (S : Nat → Prop) (w : World) (k : IntKind) (a : Option Addr) : SlI S w k (.slice a 0 0) [] := ⟨a, 0, 0, 0, rfl, by simp, fun h => by simp at h, fun i hi => by simp at hi⟩
theorem adj_false (a : List Nat) : adjN a false = a := by simp [adjN]
