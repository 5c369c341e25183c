/- Lists in a rising order, and one put in: plain facts. -/
import Derived.Test.YtmcaccacdbcnmaaDoorSrtM
namespace Go.Proofs.YtmcaccacdbcnmaaDoor
open Go.RowKit
/-- Lists in a strict order with the same members are one. -/
theorem strict_ext {α : Type} {R : α → α → Prop} (hasy : ∀ x y, R x y → ¬ R y x) : ∀ {l m : List α}, l.Pairwise R → m.Pairwise R → (∀ x, x ∈ l ↔ x ∈ m) → l = m
  | [], [], _, _, _ => rfl
  | [], y :: m, _, _, h => absurd ((h y).2 (by simp)) (by simp)
  | x :: l, [], _, _, h => absurd ((h x).1 (by simp)) (by simp)
  | x :: l, y :: m, h1, h2, h => by
    rw [List.pairwise_cons] at h1 h2
    have e : x = y := by
      have hx := (h x).1 (by simp)
      have hy := (h y).2 (by simp)
      rcases List.mem_cons.1 hx with e | hx
      · exact e
      · rcases List.mem_cons.1 hy with e | hy
        · exact e.symm
        · exact absurd (h1.1 y hy) (hasy _ _ (h2.1 x hx))
    subst e
    have hxl : x ∉ l := fun hx => hasy x x (h1.1 x hx) (h1.1 x hx)
    have hxm : x ∉ m := fun hx => hasy x x (h2.1 x hx) (h2.1 x hx)
    rw [strict_ext hasy h1.2 h2.2 fun z => ?_]
    have hz := h z
    rw [List.mem_cons, List.mem_cons] at hz
    constructor
    · intro hm
      rcases hz.1 (.inr hm) with e | e
      · subst e; exact absurd hm hxl
      · exact e
    · intro hm
      rcases hz.2 (.inr hm) with e | e
      · subst e; exact absurd hm hxm
      · exact e
/-- Where x is put in. -/
def putK (g : List (List Int)) (x : List Int) : Nat := (g.takeWhile fun y => decide (cmpL y x < 0)).length
def putL (g : List (List Int)) (x : List Int) : List (List Int) := if g[putK g x]? = some x then g else g.take (putK g x) ++ [x] ++ g.drop (putK g x)
theorem putK_le (g : List (List Int)) (x : List Int) : putK g x ≤ g.length := (List.takeWhile_sublist _).length_le
theorem putK_is {g : List (List Int)} {x : List Int} {k : Nat} (hk : k ≤ g.length) (h1 : ∀ i (h : i < g.length), i < k → cmpL g[i] x < 0) (h2 : ∀ h : k < g.length, ¬ cmpL g[k] x < 0) : putK g x = k := by
  unfold putK
  induction g generalizing k with
  | nil => simp at hk; simp [hk]
  | cons y g ih =>
    cases k with
    | zero =>
      have := h2 (by simp)
      simp only [List.getElem_cons_zero] at this
      rw [List.takeWhile_cons_of_neg (by simpa using this)]; rfl
    | succ k =>
      have h0 := h1 0 (by simp) (by omega)
      simp only [List.getElem_cons_zero] at h0
      rw [List.takeWhile_cons_of_pos (by simpa using h0), List.length_cons, ih (k := k) (by simpa using hk) (fun i h hi => by have := h1 (i + 1) (by simpa using h) (by omega); rw [List.getElem_cons_succ] at this; exact this) (fun h => by have := h2 (by simpa using h); rw [List.getElem_cons_succ] at this; exact this)]
theorem tw_spec {α : Type} (p : α → Bool) : ∀ (l : List α), (∀ i (h : i < l.length), i < (l.takeWhile p).length → p l[i] = true) ∧ (∀ h : (l.takeWhile p).length < l.length, p l[(l.takeWhile p).length] = false)
  | [] => ⟨fun i h => by simp at h, fun h => by simp at h⟩
  | x :: l => by
    obtain ⟨h1, h2⟩ := tw_spec p l
    cases hp : p x with
    | true =>
      simp only [List.takeWhile_cons, hp, if_true, List.length_cons]
      refine ⟨fun i hi hk => ?_, fun h => ?_⟩
      · cases i with
        | zero => exact hp
        | succ i => simpa using h1 i (by simpa using hi) (by omega)
      · simpa using h2 (by omega)
    | false =>
      simp only [List.takeWhile_cons, hp]
      exact ⟨fun i hi hk => by simp at hk, fun h => by simpa using hp⟩
def LtL (x y : List Int) : Prop := cmpL x y < 0
theorem LtL.asym (x y : List Int) (h : LtL x y) : ¬ LtL y x := fun h2 => by
  unfold LtL at h h2
  rw [cmpL_swap] at h2
  omega
theorem LtL.trans {x y z : List Int} (h : LtL x y) (h2 : LtL y z) : LtL x z := cmpL_trans x y z h h2
theorem mem_putL {g : List (List Int)} {x y : List Int} : y ∈ putL g x ↔ y ∈ g ∨ y = x := by
  unfold putL
  split
  case isTrue h =>
    exact ⟨.inl, fun hy => hy.elim id fun e => by subst e; exact List.mem_of_getElem? h⟩
  case isFalse h =>
    conv => rhs; rw [← List.take_append_drop (putK g x) g]
    simp only [List.mem_append, List.mem_singleton]
    constructor
    · rintro ((h | h) | h)
      · exact .inl (.inl h)
      · exact .inr h
      · exact .inl (.inr h)
    · rintro ((h | h) | h)
      · exact .inl (.inl h)
      · exact .inr h
      · exact .inl (.inr h)
theorem putL_len {g : List (List Int)} {x : List Int} : (putL g x).length ≤ g.length + 1 := by
  unfold putL
  split
  · omega
  · have := putK_le g x
    simp only [List.length_append, List.length_take, List.length_drop, List.length_singleton]; omega
theorem putL_sorted {g : List (List Int)} {x : List Int} (h : g.Pairwise LtL) : (putL g x).Pairwise LtL := by
  unfold putL
  split
  case isTrue => exact h
  case isFalse hne =>
    have hk := putK_le g x
    obtain ⟨t1, t2⟩ := tw_spec (fun y => decide (cmpL y x < 0)) g
    have hb : ∀ y ∈ g.take (putK g x), LtL y x := fun y hy => by
      obtain ⟨i, hi, rfl⟩ := List.getElem_of_mem hy
      rw [List.getElem_take]
      rw [List.length_take] at hi
      have h3 := t1 i (by omega) (show i < putK g x by omega)
      rw [decide_eq_true_eq] at h3
      exact h3
    have ha : ∀ y ∈ g.drop (putK g x), LtL x y := fun y hy => by
      by_cases hl : putK g x < g.length
      · have hd := List.drop_eq_getElem_cons hl
        have h0 : ¬ cmpL g[putK g x] x < 0 := of_decide_eq_false (t2 hl)
        have h1 : LtL x g[putK g x] := by
          unfold LtL
          rw [cmpL_swap]
          have hz : cmpL g[putK g x] x ≠ 0 := fun e => hne (by rw [List.getElem?_eq_getElem hl, cmpL_zero _ _ e])
          omega
        rw [hd] at hy
        rcases List.mem_cons.1 hy with rfl | hy
        · exact h1
        · have hp := h.sublist (List.drop_sublist (putK g x) g)
          rw [hd] at hp
          exact h1.trans (List.rel_of_pairwise_cons hp hy)
      · rw [List.drop_eq_nil_of_le (by omega)] at hy; simp at hy
    rw [List.pairwise_append, List.pairwise_append]
    refine ⟨⟨h.sublist (List.take_sublist _ _), by simp, fun y hy z hz => by rw [List.mem_singleton] at hz; subst hz; exact hb y hy⟩, h.sublist (List.drop_sublist _ _), fun y hy z hz => ?_⟩
    rw [List.mem_append, List.mem_singleton] at hy
    rcases hy with hy | rfl
    · exact (hb y hy).trans (ha z hz)
    · exact ha z hz
end Go.Proofs.YtmcaccacdbcnmaaDoor
