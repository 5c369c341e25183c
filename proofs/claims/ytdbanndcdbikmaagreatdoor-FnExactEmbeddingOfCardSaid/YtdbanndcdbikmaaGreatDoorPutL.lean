/- The reference's l19Ahead and l19Put: a list put among others in order; l19Has. -/
import Derived.Test.YtdbanndcdbikmaaGreatDoorFacM
import Derived.Test.YtdbanndcdbikmaaGreatDoorOwnS
import Derived.Test.YtdbanndcdbikmaaGreatDoorPairs
namespace Go.Proofs.YtdbanndcdbikmaaGreatDoor
open Go.RowKit
/-- Lists in a strict order with the same members are one. -/
theorem strict_ext {α : Type} {R : α → α → Prop} (hasy : ∀ x y, R x y → ¬ R y x) : ∀ {l m : List α}, l.Pairwise R → m.Pairwise R → (∀ x, x ∈ l ↔ x ∈ m) → l = m
  | [], [], _, _, _ => rfl
  | [], y :: m, _, _, h => absurd ((h y).2 (by simp)) (by simp)
  | x :: l, [], _, _, h => absurd ((h x).1 (by simp)) (by simp)
  | x :: l, y :: m, h1, h2, h => by
    rw [List.pairwise_cons] at h1 h2
    have e : x = y := by
      have hx := (h x).1 (by simp)
      have hy := (h y).2 (by simp)
      rcases List.mem_cons.1 hx with e | hx
      · exact e
      · rcases List.mem_cons.1 hy with e | hy
        · exact e.symm
        · exact absurd (h1.1 y hy) (hasy _ _ (h2.1 x hx))
    subst e
    have hxl : x ∉ l := fun hx => hasy x x (h1.1 x hx) (h1.1 x hx)
    have hxm : x ∉ m := fun hx => hasy x x (h2.1 x hx) (h2.1 x hx)
    rw [strict_ext hasy h1.2 h2.2 fun z => ?_]
    have hz := h z
    rw [List.mem_cons, List.mem_cons] at hz
    constructor
    · intro hm
      rcases hz.1 (.inr hm) with e | e
      · subst e; exact absurd hm hxl
      · exact e
    · intro hm
      rcases hz.2 (.inr hm) with e | e
      · subst e; exact absurd hm hxm
      · exact e
/-- Where x is put in. -/
def putK (g : List (List Int)) (x : List Int) : Nat := (g.takeWhile fun y => decide (cmpL y x < 0)).length
def putL (g : List (List Int)) (x : List Int) : List (List Int) := if g[putK g x]? = some x then g else g.take (putK g x) ++ [x] ++ g.drop (putK g x)
theorem putK_le (g : List (List Int)) (x : List Int) : putK g x ≤ g.length := (List.takeWhile_sublist _).length_le
theorem putK_is {g : List (List Int)} {x : List Int} {k : Nat} (hk : k ≤ g.length) (h1 : ∀ i (h : i < g.length), i < k → cmpL g[i] x < 0) (h2 : ∀ h : k < g.length, ¬ cmpL g[k] x < 0) : putK g x = k := by
  unfold putK
  induction g generalizing k with
  | nil => simp at hk; simp [hk]
  | cons y g ih =>
    cases k with
    | zero =>
      have := h2 (by simp)
      simp only [List.getElem_cons_zero] at this
      rw [List.takeWhile_cons_of_neg (by simpa using this)]; rfl
    | succ k =>
      have h0 := h1 0 (by simp) (by omega)
      simp only [List.getElem_cons_zero] at h0
      rw [List.takeWhile_cons_of_pos (by simpa using h0), List.length_cons, ih (k := k) (by simpa using hk) (fun i h hi => by have := h1 (i + 1) (by simpa using h) (by omega); rw [List.getElem_cons_succ] at this; exact this) (fun h => by have := h2 (by simpa using h); rw [List.getElem_cons_succ] at this; exact this)]
theorem tw_spec {α : Type} (p : α → Bool) : ∀ (l : List α), (∀ i (h : i < l.length), i < (l.takeWhile p).length → p l[i] = true) ∧ (∀ h : (l.takeWhile p).length < l.length, p l[(l.takeWhile p).length] = false)
  | [] => ⟨fun i h => by simp at h, fun h => by simp at h⟩
  | x :: l => by
    obtain ⟨h1, h2⟩ := tw_spec p l
    cases hp : p x with
    | true =>
      simp only [List.takeWhile_cons, hp, if_true, List.length_cons]
      refine ⟨fun i hi hk => ?_, fun h => ?_⟩
      · cases i with
        | zero => exact hp
        | succ i => simpa using h1 i (by simpa using hi) (by omega)
      · simpa using h2 (by omega)
    | false =>
      simp only [List.takeWhile_cons, hp]
      exact ⟨fun i hi hk => by simp at hk, fun h => by simpa using hp⟩
def LtL (x y : List Int) : Prop := cmpL x y < 0
theorem LtL.asym (x y : List Int) (h : LtL x y) : ¬ LtL y x := fun h2 => by
  unfold LtL at h h2
  rw [cmpL_swap] at h2
  omega
theorem LtL.trans {x y z : List Int} (h : LtL x y) (h2 : LtL y z) : LtL x z := cmpL_trans x y z h h2
theorem mem_putL {g : List (List Int)} {x y : List Int} : y ∈ putL g x ↔ y ∈ g ∨ y = x := by
  unfold putL
  split
  case isTrue h =>
    exact ⟨.inl, fun hy => hy.elim id fun e => by subst e; exact List.mem_of_getElem? h⟩
  case isFalse h =>
    conv => rhs; rw [← List.take_append_drop (putK g x) g]
    simp only [List.mem_append, List.mem_singleton]
    constructor
    · rintro ((h | h) | h)
      · exact .inl (.inl h)
      · exact .inr h
      · exact .inl (.inr h)
    · rintro ((h | h) | h)
      · exact .inl (.inl h)
      · exact .inr h
      · exact .inl (.inr h)
theorem putL_len {g : List (List Int)} {x : List Int} : (putL g x).length ≤ g.length + 1 := by
  unfold putL
  split
  · omega
  · have := putK_le g x
    simp only [List.length_append, List.length_take, List.length_drop, List.length_singleton]; omega
theorem putL_sorted {g : List (List Int)} {x : List Int} (h : g.Pairwise LtL) : (putL g x).Pairwise LtL := by
  unfold putL
  split
  case isTrue => exact h
  case isFalse hne =>
    have hk := putK_le g x
    obtain ⟨t1, t2⟩ := tw_spec (fun y => decide (cmpL y x < 0)) g
    have hb : ∀ y ∈ g.take (putK g x), LtL y x := fun y hy => by
      obtain ⟨i, hi, rfl⟩ := List.getElem_of_mem hy
      rw [List.getElem_take]
      rw [List.length_take] at hi
      have h3 := t1 i (by omega) (show i < putK g x by omega)
      rw [decide_eq_true_eq] at h3
      exact h3
    have ha : ∀ y ∈ g.drop (putK g x), LtL x y := fun y hy => by
      by_cases hl : putK g x < g.length
      · have hd := List.drop_eq_getElem_cons hl
        have h0 : ¬ cmpL g[putK g x] x < 0 := of_decide_eq_false (t2 hl)
        have h1 : LtL x g[putK g x] := by
          unfold LtL
          rw [cmpL_swap]
          have hz : cmpL g[putK g x] x ≠ 0 := fun e => hne (by rw [List.getElem?_eq_getElem hl, cmpL_zero _ _ e])
          omega
        rw [hd] at hy
        rcases List.mem_cons.1 hy with rfl | hy
        · exact h1
        · have hp := h.sublist (List.drop_sublist (putK g x) g)
          rw [hd] at hp
          exact h1.trans (List.rel_of_pairwise_cons hp hy)
      · rw [List.drop_eq_nil_of_le (by omega)] at hy; simp at hy
    rw [List.pairwise_append, List.pairwise_append]
    refine ⟨⟨h.sublist (List.take_sublist _ _), by simp, fun y hy z hz => by rw [List.mem_singleton] at hz; subst hz; exact hb y hy⟩, h.sublist (List.drop_sublist _ _), fun y hy z hz => ?_⟩
    rw [List.mem_append, List.mem_singleton] at hy
    rcases hy with hy | rfl
    · exact (hb y hy).trans (ha z hz)
    · exact ha z hz
theorem cmpL_stepP {xs ys : List Int} {k : Nat} (hx : k < xs.length) (hy : k < ys.length) : cmpL (xs.drop k) (ys.drop k) = if xs[k] = ys[k] then cmpL (xs.drop (k + 1)) (ys.drop (k + 1)) else (if xs[k] < ys[k] then -1 else 1) := by
  rw [List.drop_eq_getElem_cons hx, List.drop_eq_getElem_cons hy, cmpL]
  by_cases h1 : xs[k] < ys[k]
  · rw [if_pos h1, if_neg (by omega), if_pos h1]
  · rw [if_neg h1]
    by_cases h2 : ys[k] < xs[k]
    · rw [if_pos h2, if_neg (by omega), if_neg h1]
    · rw [if_neg h2, if_pos (by omega)]
def aheadB (xs ys : List Int) : Bool := decide (cmpL xs ys < 0)
theorem ahead_step {xs ys : List Int} {k : Nat} (hx : k < xs.length) (hy : k < ys.length) : aheadB (xs.drop k) (ys.drop k) = if xs[k] = ys[k] then aheadB (xs.drop (k + 1)) (ys.drop (k + 1)) else decide (xs[k] < ys[k]) := by
  unfold aheadB
  rw [cmpL_stepP hx hy]
  split
  · rfl
  · split
    · rename_i h; simp [h]
    · rename_i h; simp [h]
theorem ahead_end {xs ys : List Int} {k : Nat} (h : ¬ (k < xs.length ∧ k < ys.length)) (hx : k ≤ xs.length) (hy : k ≤ ys.length) : aheadB (xs.drop k) (ys.drop k) = decide (xs.length < ys.length) := by
  unfold aheadB
  by_cases h1 : k < xs.length
  · have h2 : k = ys.length := by omega
    rw [List.drop_eq_getElem_cons h1, List.drop_eq_nil_of_le (show ys.length ≤ k by omega), cmpL, decide_eq_decide]; omega
  · rw [List.drop_eq_nil_of_le (show xs.length ≤ k by omega)]
    by_cases h2 : k < ys.length
    · rw [List.drop_eq_getElem_cons h2, cmpL, decide_eq_decide]; omega
    · rw [List.drop_eq_nil_of_le (show ys.length ≤ k by omega), cmpL, decide_eq_decide]; omega
theorem cellsP {w : World} {B : Nat} {E : TypeId} {ob n c : Nat} {xs : List Value} (h : Own w B E 1 (.slice (some ⟨ob, 0, none⟩) n c) n xs) : (∀ j (h : j < xs.length), w.cell? ⟨ob, j, none⟩ = some xs[j]) ∧ n ≤ c ∧ c ≤ 9223372036854775807 := by
  obtain ⟨g, cap, h1, h2⟩ := h.slice
  rcases h1 with ⟨h1, _⟩ | ⟨h1, _, _, h3, h4⟩
  · cases h1
  · simp only [Value.slice.injEq, Option.some.injEq, Addr.mk.injEq] at h1
    obtain ⟨⟨rfl, _⟩, _, rfl⟩ := h1
    exact ⟨h2, h3, h4⟩
theorem takeP {w : World} {ob : Nat} {vs : List Value} (h : ∀ j (h : j < vs.length), w.cell? ⟨ob, j, none⟩ = some vs[j]) (k : Nat) : ∀ j u, (vs.take k)[j]? = some u → w.cell? ((⟨ob, 0, none⟩ : Addr).add j) = some u := fun j u hj => by
  obtain ⟨h1, rfl⟩ := List.getElem?_eq_some_iff.1 hj
  rw [List.getElem_take]
  rw [List.length_take] at h1
  have := h j (by omega)
  by_cases e : j = 0
  · subst e; simpa [Addr.add] using this
  · simpa [Addr.add, e] using this
theorem dropP {w : World} {ob : Nat} {vs : List Value} (h : ∀ j (h : j < vs.length), w.cell? ⟨ob, j, none⟩ = some vs[j]) (k : Nat) : ∀ j u, (vs.drop k)[j]? = some u → w.cell? ((⟨ob, k, none⟩ : Addr).add j) = some u := fun j u hj => by
  obtain ⟨h1, rfl⟩ := List.getElem?_eq_some_iff.1 hj
  rw [List.getElem_drop]
  rw [List.length_drop] at h1
  have := h (k + j) (by omega)
  by_cases e : j = 0
  · subst e; simpa [Addr.add] using this
  · simpa [Addr.add, e] using this
/-- One put in between, both in the values and in the rows. -/
theorem putP_get {P : Value → List Int → Prop} {vs : List Value} {g : List (List Int)} {s : Value} {x : List Int} {k : Nat} (hl : vs.length = g.length) (h : ∀ i (h : i < g.length) (h2 : i < vs.length), P vs[i] g[i]) (hs : P s x) : ∀ i (h : i < (g.take k ++ [x] ++ g.drop k).length) (h2 : i < (vs.take k ++ [s] ++ vs.drop k).length), P (vs.take k ++ [s] ++ vs.drop k)[i] (g.take k ++ [x] ++ g.drop k)[i] := by
  have e1 : (vs.take k).length = (g.take k).length := by rw [List.length_take, List.length_take, hl]
  simp only [List.append_assoc, List.singleton_append]
  intro i h1 h2
  have hh : ∀ j (g1 : j < (x :: g.drop k).length) (g2 : j < (s :: vs.drop k).length), P (s :: vs.drop k)[j] (x :: g.drop k)[j] := fun j g1 g2 => by
    cases j with
    | zero => exact hs
    | succ j =>
      simp only [List.getElem_cons_succ, List.getElem_drop]
      exact h _ _ _
  by_cases c1 : i < (g.take k).length
  · have c2 : i < (vs.take k).length := by omega
    rw [List.getElem_append_left c1, List.getElem_append_left c2, List.getElem_take, List.getElem_take]
    exact h i _ _
  · have c2 : ¬ i < (vs.take k).length := by omega
    rw [List.getElem_append_right (by omega), List.getElem_append_right (by omega)]
    simp only [e1]
    have g1 : i - (g.take k).length < (x :: g.drop k).length := by rw [List.length_append] at h1; omega
    have g2 : i - (g.take k).length < (s :: vs.drop k).length := by rw [List.length_append] at h2; omega
    exact hh _ g1 g2
theorem insP_len {α : Type} (l : List α) (x : α) (k : Nat) (hk : k ≤ l.length) : (l.take k ++ [x] ++ l.drop k).length = l.length + 1 := by
  simp only [List.length_append, List.length_take, List.length_drop, List.length_singleton]; omega
/-- The new array and its rows. -/
theorem ownS_put {W W7 : World} {B k : Nat} {E : TypeId} {v7 s : Value} {vs : List Value} {g : List (List Int)} {x : List Int} (hq : Below W.heap.size W W7) (hB : B ≤ W.heap.size) (hk : k ≤ g.length) (hl : vs.length = g.length) (hown : Own W7 W.heap.size E 1 v7 (g.length + 1) (vs.take k ++ [s] ++ vs.drop k))
    (h : ∀ i (h : i < g.length) (h2 : i < vs.length), SlI (fun b => B ≤ b ∧ b < W.heap.size) W .i64 vs[i] g[i]) (hs : SlI (fun b => B ≤ b ∧ b < W.heap.size) W .i64 s x) : OwnS W7 B E v7 (g.take k ++ [x] ++ g.drop k) := by
  have hke : ∀ {v : Value} {x : List Int}, SlI (fun x => B ≤ x ∧ x < W.heap.size) W .i64 v x → SlI (OffB W7 B v7) W7 .i64 v x := fun h => (h.below hq (Nat.le_refl _)).weak fun c hc => ⟨hc.1, Nat.lt_of_lt_of_le hc.2 hq.size, fun e => by have := (hown.lt c e).1; omega⟩
  refine ⟨vs.take k ++ [s] ++ vs.drop k, by rw [insP_len _ _ _ hk, insP_len _ _ _ (by omega), hl], ?_, putP_get (P := fun v x => SlI (OffB W7 B v7) W7 .i64 v x) hl (fun i h1 h2 => hke (h i h1 h2)) (hke hs)⟩
  rw [insP_len _ _ _ hk]
  exact hown.weak hB
set_option maxHeartbeats 2000000 in
theorem l1SameP_any {S S' : Nat → Prop} (v u : Value) (xs ys : List Int) (w : World) (hv : SlI S w .i64 v xs) (hu : SlI S' w .i64 u ys) :
    Calls Tryz.prog 127 #[v, u] w fun e w' => e = .returned (.bool (decide (xs = ys))) ∧ Drawn w w' := by
  obtain ⟨a, b, off, cap, rfl, hl, ha, hc0⟩ := hv
  obtain ⟨a', b', off', cap', rfl, hl', ha', hc0'⟩ := hu
  by_cases hne : xs.length = ys.length
  · have hn0 : ((xs.length : Int) != ys.length) = false := by simp [hne]
    have HN := Lib.hid hne; clear hne
    go_enter Tryz.func127, Tryz.ntmps127
    go_wp2
    go_loopw [5] (fun i wr => ∃ k : Nat, k ≤ xs.length ∧ i = .int .i64 k ∧ xs.take k = ys.take k ∧ Drawn w wr) (fun i _ => xs.length - (intOf i).toNat)
    case atStart => exact ⟨0, Nat.zero_le _, rfl, rfl, Drawn.refl _⟩
    case round =>
      obtain ⟨k, hk, rfl, he, hq⟩ := hrel
      have HE := Lib.hid he; clear he
      have hc := hc0.drawn hq
      have hc' := hc0'.drawn hq
      by_cases hlt : k < xs.length
      · have hlt' : k < ys.length := by have := HN.out; omega
        have hcell := hc k hlt
        have hcell' := hc' k hlt'
        obtain ⟨rfl, hS⟩ := ha (by omega)
        obtain ⟨rfl, hS'⟩ := ha' (by omega)
        by_cases heq : xs[k] = ys[k]
        · have hb : (xs[k] != ys[k]) = false := by simp [heq]
          have HQ := Lib.hid heq; clear heq
          go_wp2
          go_quiet (fail)
          go_wp2
          go_roundw
          case rel =>
            refine ⟨k + 1, by omega, by go_num, ?_, hq.drewN _⟩
            rw [List.take_succ_eq_append_getElem hlt, List.take_succ_eq_append_getElem hlt', HE.out, HQ.out]
          case measure => simp [intOf]; omega
        · have hb : (xs[k] != ys[k]) = true := by simpa using heq
          go_wp2
          go_quiet (fail)
          go_wp2
          go_ret
          exact ⟨ret_bool (by have : ¬ xs = ys := fun h => heq (by subst h; rfl)
                              simp [this]), hq.drewN _⟩
      · go_wp2
        go_ret
        refine ⟨ret_bool ?_, hq⟩
        have h1 := HE.out
        rw [List.take_of_length_le (by omega), List.take_of_length_le (by have := HN.out; omega)] at h1
        simp [h1]
  · have hn0 : ((xs.length : Int) != ys.length) = true := by rw [bne_iff_ne]; omega
    go_enter Tryz.func127, Tryz.ntmps127
    go_wp2
    go_ret
    exact ⟨ret_bool (by have : ¬ xs = ys := fun h => hne (by subst h; rfl)
                        simp [this]), Drawn.refl _⟩
