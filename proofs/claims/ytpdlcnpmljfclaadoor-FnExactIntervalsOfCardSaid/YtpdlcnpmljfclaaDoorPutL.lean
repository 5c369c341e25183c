/- The reference's l19Ahead and l19Put: a list put among others in order; l19Has. -/
import Derived.Test.YtpdlcnpmljfclaaDoorSrtM
import Derived.Test.YtpdlcnpmljfclaaDoorOwnS
import Derived.Test.YtpdlcnpmljfclaaDoorPairs
namespace Go.Proofs.YtpdlcnpmljfclaaDoor
open Go.RowKit
/-- Lists in a strict order with the same members are one. -/
theorem strict_ext {α : Type} {R : α → α → Prop} (hasy : ∀ x y, R x y → ¬ R y x) : ∀ {l m : List α}, l.Pairwise R → m.Pairwise R → (∀ x, x ∈ l ↔ x ∈ m) → l = m
  | [], [], _, _, _ => rfl
  | [], y :: m, _, _, h => absurd ((h y).2 (by simp)) (by simp)
  | x :: l, [], _, _, h => absurd ((h x).1 (by simp)) (by simp)
  | x :: l, y :: m, h1, h2, h => by
    rw [List.pairwise_cons] at h1 h2
    have e : x = y := by
      have hx := (h x).1 (by simp)
      have hy := (h y).2 (by simp)
      rcases List.mem_cons.1 hx with e | hx
      · exact e
      · rcases List.mem_cons.1 hy with e | hy
        · exact e.symm
        · exact absurd (h1.1 y hy) (hasy _ _ (h2.1 x hx))
    subst e
    have hxl : x ∉ l := fun hx => hasy x x (h1.1 x hx) (h1.1 x hx)
    have hxm : x ∉ m := fun hx => hasy x x (h2.1 x hx) (h2.1 x hx)
    rw [strict_ext hasy h1.2 h2.2 fun z => ?_]
    have hz := h z
    rw [List.mem_cons, List.mem_cons] at hz
    constructor
    · intro hm
      rcases hz.1 (.inr hm) with e | e
      · subst e; exact absurd hm hxl
      · exact e
    · intro hm
      rcases hz.2 (.inr hm) with e | e
      · subst e; exact absurd hm hxm
      · exact e
/-- Where x is put in. -/
def putK (g : List (List Int)) (x : List Int) : Nat := (g.takeWhile fun y => decide (cmpL y x < 0)).length
def putL (g : List (List Int)) (x : List Int) : List (List Int) := if g[putK g x]? = some x then g else g.take (putK g x) ++ [x] ++ g.drop (putK g x)
theorem putK_le (g : List (List Int)) (x : List Int) : putK g x ≤ g.length := (List.takeWhile_sublist _).length_le
theorem putK_is {g : List (List Int)} {x : List Int} {k : Nat} (hk : k ≤ g.length) (h1 : ∀ i (h : i < g.length), i < k → cmpL g[i] x < 0) (h2 : ∀ h : k < g.length, ¬ cmpL g[k] x < 0) : putK g x = k := by
  unfold putK
  induction g generalizing k with
  | nil => simp at hk; simp [hk]
  | cons y g ih =>
    cases k with
    | zero =>
      have := h2 (by simp)
      simp only [List.getElem_cons_zero] at this
      rw [List.takeWhile_cons_of_neg (by simpa using this)]; rfl
    | succ k =>
      have h0 := h1 0 (by simp) (by omega)
      simp only [List.getElem_cons_zero] at h0
      rw [List.takeWhile_cons_of_pos (by simpa using h0), List.length_cons, ih (k := k) (by simpa using hk) (fun i h hi => by have := h1 (i + 1) (by simpa using h) (by omega); rw [List.getElem_cons_succ] at this; exact this) (fun h => by have := h2 (by simpa using h); rw [List.getElem_cons_succ] at this; exact this)]
theorem tw_spec {α : Type} (p : α → Bool) : ∀ (l : List α), (∀ i (h : i < l.length), i < (l.takeWhile p).length → p l[i] = true) ∧ (∀ h : (l.takeWhile p).length < l.length, p l[(l.takeWhile p).length] = false)
  | [] => ⟨fun i h => by simp at h, fun h => by simp at h⟩
  | x :: l => by
    obtain ⟨h1, h2⟩ := tw_spec p l
    cases hp : p x with
    | true =>
      simp only [List.takeWhile_cons, hp, if_true, List.length_cons]
      refine ⟨fun i hi hk => ?_, fun h => ?_⟩
      · cases i with
        | zero => exact hp
        | succ i => simpa using h1 i (by simpa using hi) (by omega)
      · simpa using h2 (by omega)
    | false =>
      simp only [List.takeWhile_cons, hp]
      exact ⟨fun i hi hk => by simp at hk, fun h => by simpa using hp⟩
def LtL (x y : List Int) : Prop := cmpL x y < 0
theorem LtL.asym (x y : List Int) (h : LtL x y) : ¬ LtL y x := fun h2 => by
  unfold LtL at h h2
  rw [cmpL_swap] at h2
  omega
theorem LtL.trans {x y z : List Int} (h : LtL x y) (h2 : LtL y z) : LtL x z := cmpL_trans x y z h h2
theorem mem_putL {g : List (List Int)} {x y : List Int} : y ∈ putL g x ↔ y ∈ g ∨ y = x := by
  unfold putL
  split
  case isTrue h =>
    exact ⟨.inl, fun hy => hy.elim id fun e => by subst e; exact List.mem_of_getElem? h⟩
  case isFalse h =>
    conv => rhs; rw [← List.take_append_drop (putK g x) g]
    simp only [List.mem_append, List.mem_singleton]
    constructor
    · rintro ((h | h) | h)
      · exact .inl (.inl h)
      · exact .inr h
      · exact .inl (.inr h)
    · rintro ((h | h) | h)
      · exact .inl (.inl h)
      · exact .inr h
      · exact .inl (.inr h)
theorem putL_len {g : List (List Int)} {x : List Int} : (putL g x).length ≤ g.length + 1 := by
  unfold putL
  split
  · omega
  · have := putK_le g x
    simp only [List.length_append, List.length_take, List.length_drop, List.length_singleton]; omega
theorem putL_sorted {g : List (List Int)} {x : List Int} (h : g.Pairwise LtL) : (putL g x).Pairwise LtL := by
  unfold putL
  split
  case isTrue => exact h
  case isFalse hne =>
    have hk := putK_le g x
    obtain ⟨t1, t2⟩ := tw_spec (fun y => decide (cmpL y x < 0)) g
    have hb : ∀ y ∈ g.take (putK g x), LtL y x := fun y hy => by
      obtain ⟨i, hi, rfl⟩ := List.getElem_of_mem hy
      rw [List.getElem_take]
      rw [List.length_take] at hi
      have h3 := t1 i (by omega) (show i < putK g x by omega)
      rw [decide_eq_true_eq] at h3
      exact h3
    have ha : ∀ y ∈ g.drop (putK g x), LtL x y := fun y hy => by
      by_cases hl : putK g x < g.length
      · have hd := List.drop_eq_getElem_cons hl
        have h0 : ¬ cmpL g[putK g x] x < 0 := of_decide_eq_false (t2 hl)
        have h1 : LtL x g[putK g x] := by
          unfold LtL
          rw [cmpL_swap]
          have hz : cmpL g[putK g x] x ≠ 0 := fun e => hne (by rw [List.getElem?_eq_getElem hl, cmpL_zero _ _ e])
          omega
        rw [hd] at hy
        rcases List.mem_cons.1 hy with rfl | hy
        · exact h1
        · have hp := h.sublist (List.drop_sublist (putK g x) g)
          rw [hd] at hp
          exact h1.trans (List.rel_of_pairwise_cons hp hy)
      · rw [List.drop_eq_nil_of_le (by omega)] at hy; simp at hy
    rw [List.pairwise_append, List.pairwise_append]
    refine ⟨⟨h.sublist (List.take_sublist _ _), by simp, fun y hy z hz => by rw [List.mem_singleton] at hz; subst hz; exact hb y hy⟩, h.sublist (List.drop_sublist _ _), fun y hy z hz => ?_⟩
    rw [List.mem_append, List.mem_singleton] at hy
    rcases hy with hy | rfl
    · exact (hb y hy).trans (ha z hz)
    · exact ha z hz
theorem cmpL_stepP {xs ys : List Int} {k : Nat} (hx : k < xs.length) (hy : k < ys.length) : cmpL (xs.drop k) (ys.drop k) = if xs[k] = ys[k] then cmpL (xs.drop (k + 1)) (ys.drop (k + 1)) else (if xs[k] < ys[k] then -1 else 1) := by
  rw [List.drop_eq_getElem_cons hx, List.drop_eq_getElem_cons hy, cmpL]
  by_cases h1 : xs[k] < ys[k]
  · rw [if_pos h1, if_neg (by omega), if_pos h1]
  · rw [if_neg h1]
    by_cases h2 : ys[k] < xs[k]
    · rw [if_pos h2, if_neg (by omega), if_neg h1]
    · rw [if_neg h2, if_pos (by omega)]
def aheadB (xs ys : List Int) : Bool := decide (cmpL xs ys < 0)
theorem ahead_step {xs ys : List Int} {k : Nat} (hx : k < xs.length) (hy : k < ys.length) : aheadB (xs.drop k) (ys.drop k) = if xs[k] = ys[k] then aheadB (xs.drop (k + 1)) (ys.drop (k + 1)) else decide (xs[k] < ys[k]) := by
  unfold aheadB
  rw [cmpL_stepP hx hy]
  split
  · rfl
  · split
    · rename_i h; simp [h]
    · rename_i h; simp [h]
theorem ahead_end {xs ys : List Int} {k : Nat} (h : ¬ (k < xs.length ∧ k < ys.length)) (hx : k ≤ xs.length) (hy : k ≤ ys.length) : aheadB (xs.drop k) (ys.drop k) = decide (xs.length < ys.length) := by
  unfold aheadB
  by_cases h1 : k < xs.length
  · have h2 : k = ys.length := by omega
    rw [List.drop_eq_getElem_cons h1, List.drop_eq_nil_of_le (show ys.length ≤ k by omega), cmpL, decide_eq_decide]; omega
  · rw [List.drop_eq_nil_of_le (show xs.length ≤ k by omega)]
    by_cases h2 : k < ys.length
    · rw [List.drop_eq_getElem_cons h2, cmpL, decide_eq_decide]; omega
    · rw [List.drop_eq_nil_of_le (show ys.length ≤ k by omega), cmpL, decide_eq_decide]; omega
theorem cellsP {w : World} {B : Nat} {E : TypeId} {ob n c : Nat} {xs : List Value} (h : Own w B E 1 (.slice (some ⟨ob, 0, none⟩) n c) n xs) : (∀ j (h : j < xs.length), w.cell? ⟨ob, j, none⟩ = some xs[j]) ∧ n ≤ c ∧ c ≤ 9223372036854775807 := by
  obtain ⟨g, cap, h1, h2⟩ := h.slice
  rcases h1 with ⟨h1, _⟩ | ⟨h1, _, _, h3, h4⟩
  · cases h1
  · simp only [Value.slice.injEq, Option.some.injEq, Addr.mk.injEq] at h1
    obtain ⟨⟨rfl, _⟩, _, rfl⟩ := h1
    exact ⟨h2, h3, h4⟩
theorem takeP {w : World} {ob : Nat} {vs : List Value} (h : ∀ j (h : j < vs.length), w.cell? ⟨ob, j, none⟩ = some vs[j]) (k : Nat) : ∀ j u, (vs.take k)[j]? = some u → w.cell? ((⟨ob, 0, none⟩ : Addr).add j) = some u := fun j u hj => by
  obtain ⟨h1, rfl⟩ := List.getElem?_eq_some_iff.1 hj
  rw [List.getElem_take]
  rw [List.length_take] at h1
  have := h j (by omega)
  by_cases e : j = 0
  · subst e; simpa [Addr.add] using this
  · simpa [Addr.add, e] using this
theorem dropP {w : World} {ob : Nat} {vs : List Value} (h : ∀ j (h : j < vs.length), w.cell? ⟨ob, j, none⟩ = some vs[j]) (k : Nat) : ∀ j u, (vs.drop k)[j]? = some u → w.cell? ((⟨ob, k, none⟩ : Addr).add j) = some u := fun j u hj => by
  obtain ⟨h1, rfl⟩ := List.getElem?_eq_some_iff.1 hj
  rw [List.getElem_drop]
  rw [List.length_drop] at h1
  have := h (k + j) (by omega)
  by_cases e : j = 0
  · subst e; simpa [Addr.add] using this
  · simpa [Addr.add, e] using this
/-- One put in between, both in the values and in the rows. -/
theorem putP_get {P : Value → List Int → Prop} {vs : List Value} {g : List (List Int)} {s : Value} {x : List Int} {k : Nat} (hl : vs.length = g.length) (h : ∀ i (h : i < g.length) (h2 : i < vs.length), P vs[i] g[i]) (hs : P s x) : ∀ i (h : i < (g.take k ++ [x] ++ g.drop k).length) (h2 : i < (vs.take k ++ [s] ++ vs.drop k).length), P (vs.take k ++ [s] ++ vs.drop k)[i] (g.take k ++ [x] ++ g.drop k)[i] := by
  have e1 : (vs.take k).length = (g.take k).length := by rw [List.length_take, List.length_take, hl]
  simp only [List.append_assoc, List.singleton_append]
  intro i h1 h2
  have hh : ∀ j (g1 : j < (x :: g.drop k).length) (g2 : j < (s :: vs.drop k).length), P (s :: vs.drop k)[j] (x :: g.drop k)[j] := fun j g1 g2 => by
    cases j with
    | zero => exact hs
    | succ j =>
      simp only [List.getElem_cons_succ, List.getElem_drop]
      exact h _ _ _
  by_cases c1 : i < (g.take k).length
  · have c2 : i < (vs.take k).length := by omega
    rw [List.getElem_append_left c1, List.getElem_append_left c2, List.getElem_take, List.getElem_take]
    exact h i _ _
  · have c2 : ¬ i < (vs.take k).length := by omega
    rw [List.getElem_append_right (by omega), List.getElem_append_right (by omega)]
    simp only [e1]
    have g1 : i - (g.take k).length < (x :: g.drop k).length := by rw [List.length_append] at h1; omega
    have g2 : i - (g.take k).length < (s :: vs.drop k).length := by rw [List.length_append] at h2; omega
    exact hh _ g1 g2
theorem insP_len {α : Type} (l : List α) (x : α) (k : Nat) (hk : k ≤ l.length) : (l.take k ++ [x] ++ l.drop k).length = l.length + 1 := by
  simp only [List.length_append, List.length_take, List.length_drop, List.length_singleton]; omega
/-- The new array and its rows. -/
theorem ownS_put {W W7 : World} {B k : Nat} {E : TypeId} {v7 s : Value} {vs : List Value} {g : List (List Int)} {x : List Int} (hq : Below W.heap.size W W7) (hB : B ≤ W.heap.size) (hk : k ≤ g.length) (hl : vs.length = g.length) (hown : Own W7 W.heap.size E 1 v7 (g.length + 1) (vs.take k ++ [s] ++ vs.drop k))
    (h : ∀ i (h : i < g.length) (h2 : i < vs.length), SlI (fun b => B ≤ b ∧ b < W.heap.size) W .i64 vs[i] g[i]) (hs : SlI (fun b => B ≤ b ∧ b < W.heap.size) W .i64 s x) : OwnS W7 B E v7 (g.take k ++ [x] ++ g.drop k) := by
  have hke : ∀ {v : Value} {x : List Int}, SlI (fun x => B ≤ x ∧ x < W.heap.size) W .i64 v x → SlI (OffB W7 B v7) W7 .i64 v x := fun h => (h.below hq (Nat.le_refl _)).weak fun c hc => ⟨hc.1, Nat.lt_of_lt_of_le hc.2 hq.size, fun e => by have := (hown.lt c e).1; omega⟩
  refine ⟨vs.take k ++ [s] ++ vs.drop k, by rw [insP_len _ _ _ hk, insP_len _ _ _ (by omega), hl], ?_, putP_get (P := fun v x => SlI (OffB W7 B v7) W7 .i64 v x) hl (fun i h1 h2 => hke (h i h1 h2)) (hke hs)⟩
  rw [insP_len _ _ _ hk]
  exact hown.weak hB
set_option maxHeartbeats 2000000 in
theorem l19HasP_any {S : Nat → Prop} {v : Value} {L : List NP} {x y : Nat} {w : World} (hv : SlR S w v (rowsP L)) :
    Calls Tryd.prog 118 #[v, .int .i64 (x : Int), .int .i64 (y : Int)] w fun e w' => e = .returned (.bool (decide (((x, y) : NP) ∈ L))) ∧ w = w' := by
  have hpair := fun i hi => hv.pair (i := i) hi
  have hvl := hv.len
  obtain ⟨a, c, rfl⟩ := hv.slice
  rw [rowsP_len] at *
  clear hv
  go_enter Tryd.func118, Tryd.ntmps118
  go_wp2
  go_loop [7] (fun i => ∃ k : Nat, k ≤ L.length ∧ i = .int .i64 k ∧ RowKit.Hid (((x, y) : NP) ∉ L.take k)) (fun i => L.length - (intOf i).toNat)
  case atStart => exact ⟨0, Nat.zero_le _, rfl, Lib.hid (by simp)⟩
  case round =>
    obtain ⟨k, hk, rfl, HN⟩ := hrel
    by_cases hlt : k < L.length
    case neg =>
      have HE := Lib.hid (show decide (((x, y) : NP) ∈ L) = false from decide_eq_false (by have := HN.out; rwa [List.take_of_length_le (by omega)] at this))
      go_wp2
      go_ret
      exact ⟨ret_bool HE.out.symm, rfl⟩
    obtain ⟨b, off, cap, rb, ro, rc, hve, c0, c1, c2⟩ := hpair k hlt
    simp only [Value.slice.injEq, true_and] at hve
    obtain ⟨rfl, rfl⟩ := hve
    have HT := Lib.hid (show L.take (k + 1) = L.take k ++ [L[k]] from List.take_succ_eq_append_getElem hlt)
    have HM := Lib.hid (List.getElem_mem hlt)
    generalize L[k] = s at *
    obtain ⟨s1, s2⟩ := s
    simp only at c1 c2
    have h1 : (((s1 : Nat) : Int) == (x : Int)) = decide (s1 = x) := by rw [Bool.eq_iff_iff, beq_iff_eq, decide_eq_true_eq]; omega
    have h2 : (((s2 : Nat) : Int) == (y : Int)) = decide (s2 = y) := by rw [Bool.eq_iff_iff, beq_iff_eq, decide_eq_true_eq]; omega
    have h1b : (s1 == x) = decide (s1 = x) := by rw [Bool.eq_iff_iff, beq_iff_eq, decide_eq_true_eq]
    have h2b : (s2 == y) = decide (s2 = y) := by rw [Bool.eq_iff_iff, beq_iff_eq, decide_eq_true_eq]
    clear hpair
    cases hd1 : decide (s1 = x) with
    | false =>
      have HNX := Lib.hid (show ((x, y) : NP) ∉ L.take (k + 1) by
        rw [HT.out, List.mem_append, List.mem_singleton]
        rintro (h | h)
        · exact HN.out h
        · have := congrArg Prod.fst h
          have hd := of_decide_eq_false hd1
          exact hd this.symm)
      rw [hd1] at h1 h1b
      clear hd1 h2 h2b
      go_wp2
      go_round
      case rel => exact ⟨k + 1, by omega, by go_num, HNX⟩
      case measure => simp [intOf]; omega
    | true =>
      cases hd2 : decide (s2 = y) with
      | false =>
        have HNX := Lib.hid (show ((x, y) : NP) ∉ L.take (k + 1) by
          rw [HT.out, List.mem_append, List.mem_singleton]
          rintro (h | h)
          · exact HN.out h
          · have := congrArg Prod.snd h
            have hd := of_decide_eq_false hd2
            exact hd this.symm)
        rw [hd1] at h1 h1b
        rw [hd2] at h2 h2b
        clear hd1 hd2
        go_wp2
        go_round
        case rel => exact ⟨k + 1, by omega, by go_num, HNX⟩
        case measure => simp [intOf]; omega
      | true =>
        have HE := Lib.hid (show decide (((x, y) : NP) ∈ L) = true from decide_eq_true (by
          have e1 := of_decide_eq_true hd1
          have e2 := of_decide_eq_true hd2
          subst e1; subst e2; exact HM.out))
        rw [hd1] at h1 h1b
        rw [hd2] at h2 h2b
        clear hd1 hd2
        go_wp2
        go_ret
        exact ⟨ret_bool HE.out.symm, rfl⟩
set_option maxHeartbeats 2000000 in
theorem l1SameP_any {S S' : Nat → Prop} (v u : Value) (xs ys : List Int) (w : World) (hv : SlI S w .i64 v xs) (hu : SlI S' w .i64 u ys) :
    Calls Tryd.prog 157 #[v, u] w fun e w' => e = .returned (.bool (decide (xs = ys))) ∧ Drawn w w' := by
  obtain ⟨a, b, off, cap, rfl, hl, ha, hc0⟩ := hv
  obtain ⟨a', b', off', cap', rfl, hl', ha', hc0'⟩ := hu
  by_cases hne : xs.length = ys.length
  · have hn0 : ((xs.length : Int) != ys.length) = false := by simp [hne]
    have HN := Lib.hid hne; clear hne
    go_enter Tryd.func157, Tryd.ntmps157
    go_wp2
    go_loopw [5] (fun i wr => ∃ k : Nat, k ≤ xs.length ∧ i = .int .i64 k ∧ xs.take k = ys.take k ∧ Drawn w wr) (fun i _ => xs.length - (intOf i).toNat)
    case atStart => exact ⟨0, Nat.zero_le _, rfl, rfl, Drawn.refl _⟩
    case round =>
      obtain ⟨k, hk, rfl, he, hq⟩ := hrel
      have HE := Lib.hid he; clear he
      have hc := hc0.drawn hq
      have hc' := hc0'.drawn hq
      by_cases hlt : k < xs.length
      · have hlt' : k < ys.length := by have := HN.out; omega
        have hcell := hc k hlt
        have hcell' := hc' k hlt'
        obtain ⟨rfl, hS⟩ := ha (by omega)
        obtain ⟨rfl, hS'⟩ := ha' (by omega)
        by_cases heq : xs[k] = ys[k]
        · have hb : (xs[k] != ys[k]) = false := by simp [heq]
          have HQ := Lib.hid heq; clear heq
          go_wp2
          go_quiet (fail)
          go_wp2
          go_roundw
          case rel =>
            refine ⟨k + 1, by omega, by go_num, ?_, hq.drewN _⟩
            rw [List.take_succ_eq_append_getElem hlt, List.take_succ_eq_append_getElem hlt', HE.out, HQ.out]
          case measure => simp [intOf]; omega
        · have hb : (xs[k] != ys[k]) = true := by simpa using heq
          go_wp2
          go_quiet (fail)
          go_wp2
          go_ret
          exact ⟨ret_bool (by have : ¬ xs = ys := fun h => heq (by subst h; rfl)
                              simp [this]), hq.drewN _⟩
      · go_wp2
        go_ret
        refine ⟨ret_bool ?_, hq⟩
        have h1 := HE.out
        rw [List.take_of_length_le (by omega), List.take_of_length_le (by have := HN.out; omega)] at h1
        simp [h1]
  · have hn0 : ((xs.length : Int) != ys.length) = true := by rw [bne_iff_ne]; omega
    go_enter Tryd.func157, Tryd.ntmps157
    go_wp2
    go_ret
    exact ⟨ret_bool (by have : ¬ xs = ys := fun h => hne (by subst h; rfl)
                        simp [this]), Drawn.refl _⟩
set_option maxHeartbeats 2000000 in
theorem l19Ahead_any {S S' : Nat → Prop} {v u : Value} {xs ys : List Int} {w : World} (hv : SlI S w .i64 v xs) (hu : SlI S' w .i64 u ys) :
    Calls Tryd.prog 156 #[v, u] w fun e w' => e = .returned (.bool (aheadB xs ys)) ∧ Drawn w w' := by
  obtain ⟨a, b, off, cap, rfl, hl, ha, hc⟩ := hv
  obtain ⟨a2, b2, off2, cap2, rfl, hl2, ha2, hc2⟩ := hu
  have HC := Lib.hid hc
  have HC2 := Lib.hid hc2
  have HA := Lib.hid ha
  have HA2 := Lib.hid ha2
  have HST := Lib.hid (fun k (h1 : k < xs.length) (h2 : k < ys.length) => ahead_step h1 h2)
  have HEN := Lib.hid (fun k (h : ¬ (k < xs.length ∧ k < ys.length)) (h1 : k ≤ xs.length) (h2 : k ≤ ys.length) => ahead_end (k := k) h h1 h2)
  have HE0 := Lib.hid (show aheadB xs ys = aheadB (xs.drop 0) (ys.drop 0) by rw [List.drop_zero, List.drop_zero])
  clear hc hc2 ha ha2
  have hwx : ((xs.length : Int) < (ys.length : Int)) ↔ xs.length < ys.length := by omega
  have hde : decide ((xs.length : Int) < (ys.length : Int)) = decide (xs.length < ys.length) := by rw [decide_eq_decide]; omega
  clear hwx
  go_enter Tryd.func156, Tryd.ntmps156
  go_wp2
  go_loopw [5] (fun iv wr => ∃ k : Nat, k ≤ xs.length ∧ k ≤ ys.length ∧ iv = .int .i64 k ∧ RowKit.Hid (aheadB xs ys = aheadB (xs.drop k) (ys.drop k)) ∧ Drawn w wr) (fun iv _ => xs.length - (RowKit.intOf iv).toNat)
  case atStart => exact ⟨0, Nat.zero_le _, Nat.zero_le _, rfl, HE0, Drawn.refl _⟩
  case round =>
    clear HE0
    obtain ⟨k, hkx, hky, rfl, HK, hq⟩ := hrel
    by_cases hlt : k < xs.length ∧ k < ys.length
    case neg =>
      have HR := Lib.hid (HK.out.trans (HEN.out k hlt hkx hky))
      by_cases h1 : k < xs.length
      · have h2 : ¬ k < ys.length := fun h => hlt ⟨h1, h⟩
        clear hlt
        go_wp2
        go_ret
        exact ⟨ret_bool (by first | exact HR.out.symm | (rw [HR.out]; exact hde) | (rw [HR.out]; simp)), hq⟩
      · clear hlt
        go_wp2
        go_ret
        exact ⟨ret_bool (by first | exact HR.out.symm | (rw [HR.out]; exact hde) | (rw [HR.out]; simp)), hq⟩
    obtain ⟨hlx, hly⟩ := hlt
    have d1 : wr.cell? ⟨b, off + k, none⟩ = some (.int .i64 xs[k]) := by rw [hq.cell]; exact HC.out k hlx
    have d2 : wr.cell? ⟨b2, off2 + k, none⟩ = some (.int .i64 ys[k]) := by rw [hq.cell]; exact HC2.out k hly
    obtain ⟨rfl, -⟩ := HA.out (by omega)
    obtain ⟨rfl, -⟩ := HA2.out (by omega)
    have HS := Lib.hid (HK.out.trans (HST.out k hlx hly))
    clear HC HC2 HK
    generalize xs[k] = x at *
    generalize ys[k] = y at *
    by_cases he : x = y
    · subst he
      have HE := Lib.hid (HS.out.trans (if_pos rfl))
      clear HS
      have h3 : ((x : Int) != (x : Int)) = false := by simp
      go_wp2
      go_quiet (fail)
      go_wp2
      go_roundw
      case rel => exact ⟨k + 1, by omega, by omega, by go_num, HE, hq.drewN _⟩
      case measure => simp [RowKit.intOf]; omega
    · have HE := Lib.hid (HS.out.trans (if_neg he))
      have h3 : (x != y) = true := by rw [bne_iff_ne]; exact he
      clear he HS
      go_wp2
      go_quiet (fail)
      go_wp2
      go_quiet (fail)
      go_wp2
      go_ret
      exact ⟨ret_bool (by first | exact HE.out.symm | (rw [HE.out]; simp)), by repeat (first | exact hq | refine Drawn.drewN ?_ _)⟩
set_option maxRecDepth 100000 in
set_option maxHeartbeats 8000000 in
theorem l19Put_any {B : Nat} {ob oc : Nat} {u : Value} {g : List (List Int)} {x : List Int} {w : World} (hv : OwnS w B 38 (.slice (some ⟨ob, 0, none⟩) g.length oc) g) (hu : SlI (fun b => B ≤ b ∧ b < w.heap.size) w .i64 u x) (hB : B ≤ w.heap.size) (hgl : g.length ≤ 100000) :
    Calls Tryd.prog 137 #[.slice (some ⟨ob, 0, none⟩) g.length oc, u] w fun e w' => ∃ ob' oc', e = .returned (.slice (some ⟨ob', 0, none⟩) (putL g x).length oc') ∧ OwnS w' B 38 (.slice (some ⟨ob', 0, none⟩) (putL g x).length oc') (putL g x) ∧ Below w.heap.size w w' := by
  obtain ⟨vs, hvl, hown, hrows⟩ := hv
  obtain ⟨hcel, hoc1, hoc2⟩ := cellsP hown
  have hobl : ob < w.heap.size := (hown.lt ob rfl).2
  have hAH := fun (W : World) (hd : Drawn w W) (k : Nat) (hk : k < g.length) (h2 : k < vs.length) => l19Ahead_any ((hrows k hk h2).drawn hd) (hu.drawn hd)
  have hSA := fun (W : World) (hd : Drawn w W) (k : Nat) (hk : k < g.length) (h2 : k < vs.length) => l1SameP_any _ _ _ _ W ((hrows k hk h2).drawn hd) (hu.drawn hd)
  have hVS := fun (k : Nat) (hk : k < g.length) (h2 : k < vs.length) => (hrows k hk h2).slice
  have hone : ∀ y ∈ vs, y.oneCell' = true := fun y hy => by
    obtain ⟨i, hi, rfl⟩ := List.getElem_of_mem hy
    obtain ⟨a, c, e⟩ := (hrows i (by omega) hi).slice
    rw [e]; rfl
  obtain ⟨ua, uc, rfl⟩ := hu.slice
  have HPK := Lib.hid (fun (k : Nat) (hk : k ≤ g.length) (h1 : ∀ i (h : i < g.length), i < k → aheadB g[i] x = true) (h2 : ∀ h : k < g.length, aheadB g[k] x = false) => putK_is (x := x) hk (fun i h hi => by have := h1 i h hi; unfold aheadB at this; simpa using this) (fun h => by have := h2 h; unfold aheadB at this; simpa using this))
  have HAH := Lib.hid hAH
  have HSA := Lib.hid hSA
  have HVS := Lib.hid hVS
  have HRW := Lib.hid hrows
  have HVL := Lib.hid hvl
  have HCE := Lib.hid hcel
  have HON := Lib.hid hone
  have hnl : g.length = vs.length := hvl.symm
  clear hAH hSA hVS hrows hcel hone
  have HPL := Lib.hid (fun (k : Nat) (hk : putK g x = k) => show putL g x = if g[k]? = some x then g else g.take k ++ [x] ++ g.drop k by unfold putL; rw [hk])
  obtain ⟨n, hn⟩ : ∃ n, n = g.length := ⟨_, rfl⟩
  have HN := Lib.hid hn
  rw [← hn] at hown hoc1 hgl ⊢
  clear hvl hnl hn
  go_enter Tryd.func137, Tryd.ntmps137
  go_wp2
  go_loopw [5] (fun iv wr => ∃ k : Nat, k ≤ n ∧ iv = .int .i64 k ∧ RowKit.Hid (∀ i (h : i < g.length), i < k → aheadB g[i] x = true) ∧ Drawn w wr) (fun iv _ => n - (RowKit.intOf iv).toNat)
  case atStart => exact ⟨0, Nat.zero_le _, rfl, Lib.hid (fun i _ hi => by omega), Drawn.refl _⟩
  case round =>
    obtain ⟨k, hk, rfl, HB, hq⟩ := hrel
    by_cases hlt : k < n
    case neg =>
      obtain rfl : k = n := by omega
      have HKI := Lib.hid (HPK.out k (by have := HN.out; omega) HB.out (fun h => by have := HN.out; omega))
      have HPE := Lib.hid (show putL g x = g.take k ++ [x] ++ g.drop k by rw [HPL.out k HKI.out, if_neg (by rw [List.getElem?_eq_none (by have := HN.out; omega)]; simp)])
      have hb0 := hq.below wr.heap.size
      have hown1 := hown.below (hq.below w.heap.size) (Nat.le_refl _)
      have hcel : ∀ j (h : j < vs.length), wr.cell? ⟨ob, j, none⟩ = some vs[j] := fun j h => by rw [hq.cell]; exact HCE.out j h
      have hsz : w.heap.size ≤ wr.heap.size := (hq.below 0).size
      have hobl2 : ob < wr.heap.size := by omega
      have he0 : Own (wr.alloc (.cells #[] 38)) wr.heap.size 38 1 (.slice (some ⟨wr.heap.size, 0, none⟩) 0 0) 0 [] := World.ownsRow_lit (base := wr.heap.size) (e := 38) (size := 1) wr #[] 0 (Nat.le_refl _) (by unfold maxLen; omega) rfl
      have hz0 : wr.heap.size ≤ (wr.alloc (.cells #[] 38)).heap.size := by simp
      have hqe : Below wr.heap.size wr (wr.alloc (.cells #[] 38)) := (Below.refl _ _).alloc (Nat.le_refl _) _
      have hce : ∀ j (h : j < vs.length), (wr.alloc (.cells #[] 38)).cell? ⟨ob, j, none⟩ = some vs[j] := fun j h => (hqe.cell (p := ⟨ob, j, none⟩) hobl2).trans (hcel j h)
      have hnt := takeP hce k
      have hlt1 : (vs.take k).length = k * 1 := by rw [List.length_take, HVL.out, ← HN.out]; omega
      have HLT := Lib.hid hlt1
      have HRW1 : RowKit.Hid (∀ i (h : i < g.length) (h2 : i < vs.length), SlI (fun b => B ≤ b ∧ b < wr.heap.size) wr .i64 vs[i] g[i]) := Lib.hid (fun i h1 h2 => ((HRW.out i h1 h2).drawn hq).weak fun c hc => ⟨hc.1, Nat.lt_of_lt_of_le hc.2.1 hsz⟩)
      have hsl : SlI (fun b => B ≤ b ∧ b < wr.heap.size) wr .i64 (.slice ua x.length uc) x := (hu.drawn hq).weak fun c hc => ⟨hc.1, Nat.lt_of_lt_of_le hc.2 hsz⟩
      clear hlt1 hcel hce
      have HD : RowKit.Hid (vs.take k ++ [.slice ua x.length uc] ++ vs.drop k = vs.take k ++ [.slice ua x.length uc]) := Lib.hid (by rw [List.drop_eq_nil_of_le (by have := HVL.out; have := HN.out; omega), List.append_nil])
      by_cases hck : oc = k
      · have hck2 := hck.symm
        subst hck2
        clear hck
        go_wp2_with (first | (at_builtin; refine wpList_append elRows rfl _ _ rfl he0 rfl rfl (news := vs.take k) HLT.out hnt (fun u hu => HON.out u (List.mem_of_mem_take hu)) (by omega) hz0 ?_; intro v5 w5 h50 g5 m5; have h5 : Own w5 wr.heap.size 38 1 v5 k (vs.take k) := (by simpa using h50); clear h50; have hq5 := (KeptBut.of_grown g5).below hqe hz0 (fun b hb => he0.ge b hb); have hs5 := hq5.size; obtain ⟨a5, c5, rfl⟩ := h5.isSlice) | (at_builtin; refine wpList_append1b elRows rfl _ _ rfl h5 rfl rfl rfl rfl (by omega) hs5 ?_; intro v6 w6 h6 g6 m6; have hq6 := g6.below hq5 hs5 (fun b hb => h5.ge b hb); have hs6 := hq6.size; obtain ⟨a6, c6, rfl⟩ := h6.isSlice) | (at_builtin; refine wpList_append0 elRows rfl _ _ rfl h6 rfl rfl ?_) | fail)
        have h7 : Own w6 wr.heap.size 38 1 (.slice a6 (k + 1) c6) (k + 1) (vs.take k ++ [.slice ua x.length uc] ++ vs.drop k) := by rw [HD.out]; exact h6
        obtain ⟨ob7, oc7, e7⟩ := own_some h7 (by omega)
        simp only [Value.slice.injEq] at e7
        obtain ⟨rfl, _, rfl⟩ := e7
        have HL : RowKit.Hid ((g.take k ++ [x] ++ g.drop k).length = k + 1) := Lib.hid (by rw [insP_len _ _ _ (by have := HN.out; omega)]; have := HN.out; omega)
        have HW := Lib.hid (ownS_put (x := x) (g := g) (k := k) hq6 (Nat.le_trans hB hsz) (by have := HN.out; omega) HVL.out (by rw [← HN.out]; exact h7) HRW1.out hsl)
        go_ret
        exact ⟨ob7, c6, by rw [HPE.out, HL.out]; rfl, by rw [HPE.out, HL.out]; exact HW.out, (hq.below w.heap.size).trans (hq6.mono hsz)⟩
      · go_wp2_with (first | (at_builtin; refine wpList_append elRows rfl _ _ rfl he0 rfl rfl (news := vs.take k) HLT.out hnt (fun u hu => HON.out u (List.mem_of_mem_take hu)) (by omega) hz0 ?_; intro v5 w5 h50 g5 m5; have h5 : Own w5 wr.heap.size 38 1 v5 k (vs.take k) := (by simpa using h50); clear h50; have hq5 := (KeptBut.of_grown g5).below hqe hz0 (fun b hb => he0.ge b hb); have hs5 := hq5.size; obtain ⟨a5, c5, rfl⟩ := h5.isSlice) | (at_builtin; refine wpList_append1b elRows rfl _ _ rfl h5 rfl rfl rfl rfl (by omega) hs5 ?_; intro v6 w6 h6 g6 m6; have hq6 := g6.below hq5 hs5 (fun b hb => h5.ge b hb); have hs6 := hq6.size; obtain ⟨a6, c6, rfl⟩ := h6.isSlice) | (at_builtin; refine wpList_append0 elRows rfl _ _ rfl h6 rfl rfl ?_) | fail)
        have h7 : Own w6 wr.heap.size 38 1 (.slice a6 (k + 1) c6) (k + 1) (vs.take k ++ [.slice ua x.length uc] ++ vs.drop k) := by rw [HD.out]; exact h6
        obtain ⟨ob7, oc7, e7⟩ := own_some h7 (by omega)
        simp only [Value.slice.injEq] at e7
        obtain ⟨rfl, _, rfl⟩ := e7
        have HL : RowKit.Hid ((g.take k ++ [x] ++ g.drop k).length = k + 1) := Lib.hid (by rw [insP_len _ _ _ (by have := HN.out; omega)]; have := HN.out; omega)
        have HW := Lib.hid (ownS_put (x := x) (g := g) (k := k) hq6 (Nat.le_trans hB hsz) (by have := HN.out; omega) HVL.out (by rw [← HN.out]; exact h7) HRW1.out hsl)
        go_ret
        exact ⟨ob7, c6, by rw [HPE.out, HL.out]; rfl, by rw [HPE.out, HL.out]; exact HW.out, (hq.below w.heap.size).trans (hq6.mono hsz)⟩
    have hkg : k < g.length := by have := HN.out; omega
    have hkv : k < vs.length := by have := HVL.out; omega
    have hah := HAH.out wr hq k hkg hkv
    obtain ⟨ra, rc, hre⟩ := HVS.out k hkg hkv
    have c0 : wr.cell? ⟨ob, k, none⟩ = some (.slice ra (g[k]).length rc) := by rw [hq.cell, HCE.out k hkv, hre]
    rw [hre] at hah
    have HNX := Lib.hid (fun (h : aheadB g[k] x = true) => show ∀ i (h : i < g.length), i < k + 1 → aheadB g[i] x = true from fun i hi hik => by
      by_cases e : i = k
      · subst e; exact h
      · exact HB.out i hi (by omega))
    have HSTP := Lib.hid (fun (h : aheadB g[k] x = false) => HPK.out k (by omega) HB.out (fun _ => h))
    have hsam := fun (W : World) (hd : Drawn w W) => HSA.out W hd k hkg hkv
    simp only [hre] at hsam
    have HSM := Lib.hid hsam
    have HGK := Lib.hid (List.getElem?_eq_getElem hkg)
    clear hsam
    generalize hgk : g[k] = gk at *
    clear hgk
    cases hab : aheadB gk x with
    | true =>
      rw [hab] at hah
      have HN2 := Lib.hid (HNX.out hab)
      clear hab
      go_wp2_with fail
      refine hah.mono ?_
      rintro e w' ⟨rfl, hd1⟩
      clear hah c0
      go_wp2
      go_roundw
      case rel => exact ⟨k + 1, by omega, by go_num, HN2, hq.trans hd1⟩
      case measure => simp [RowKit.intOf]; omega
    | false =>
      rw [hab] at hah
      have HKI := Lib.hid (HSTP.out hab)
      clear hab
      go_wp2_with fail
      refine hah.mono ?_
      rintro e wq ⟨rfl, hd1⟩
      have hq2 := hq.trans hd1
      have c1 : wq.cell? ⟨ob, k, none⟩ = some (.slice ra gk.length rc) := by rw [hd1.cell]; exact c0
      have hsa := HSM.out wq hq2
      clear hah c0 hq hd1
      go_wp2_with fail
      refine hsa.mono ?_
      rintro e ws ⟨rfl, hd2⟩
      obtain ⟨wr, hwr⟩ : ∃ x, x = ws := ⟨_, rfl⟩
      subst hwr
      have hq := hq2.trans hd2
      clear hsa c1 hd2 hq2
      cases hsb : decide (gk = x) with
      | true =>
        have HPE := Lib.hid (show putL g x = g by rw [HPL.out k HKI.out, if_pos (by rw [HGK.out, of_decide_eq_true hsb])])
        clear hsb
        go_wp2
        go_ret
        exact ⟨ob, oc, by rw [HPE.out, ← HN.out]; rfl, by rw [HPE.out, ← HN.out]; exact ⟨vs, HVL.out, by rw [← HN.out]; exact hown.below (hq.below w.heap.size) (Nat.le_refl _), fun i h1 h2 => ((HRW.out i h1 h2).drawn hq).weak fun b hb => ⟨hb.1, Nat.lt_of_lt_of_le hb.2.1 (hq.below 0).size, hb.2.2⟩⟩, hq.below _⟩
      | false =>
        have HPE := Lib.hid (show putL g x = g.take k ++ [x] ++ g.drop k by rw [HPL.out k HKI.out, if_neg (by rw [HGK.out]; simpa using of_decide_eq_false hsb)])
        clear hsb
        have hb0 := hq.below wr.heap.size
        have hown1 := hown.below (hq.below w.heap.size) (Nat.le_refl _)
        have hcel : ∀ j (h : j < vs.length), wr.cell? ⟨ob, j, none⟩ = some vs[j] := fun j h => by rw [hq.cell]; exact HCE.out j h
        have hsz : w.heap.size ≤ wr.heap.size := (hq.below 0).size
        have hobl2 : ob < wr.heap.size := by omega
        have he0 : Own (wr.alloc (.cells #[] 38)) wr.heap.size 38 1 (.slice (some ⟨wr.heap.size, 0, none⟩) 0 0) 0 [] := World.ownsRow_lit (base := wr.heap.size) (e := 38) (size := 1) wr #[] 0 (Nat.le_refl _) (by unfold maxLen; omega) rfl
        have hz0 : wr.heap.size ≤ (wr.alloc (.cells #[] 38)).heap.size := by simp
        have hqe : Below wr.heap.size wr (wr.alloc (.cells #[] 38)) := (Below.refl _ _).alloc (Nat.le_refl _) _
        have hce : ∀ j (h : j < vs.length), (wr.alloc (.cells #[] 38)).cell? ⟨ob, j, none⟩ = some vs[j] := fun j h => (hqe.cell (p := ⟨ob, j, none⟩) hobl2).trans (hcel j h)
        have hnt := takeP hce k
        have hlt1 : (vs.take k).length = k * 1 := by rw [List.length_take, HVL.out, ← HN.out]; omega
        have HLT := Lib.hid hlt1
        have HRW1 : RowKit.Hid (∀ i (h : i < g.length) (h2 : i < vs.length), SlI (fun b => B ≤ b ∧ b < wr.heap.size) wr .i64 vs[i] g[i]) := Lib.hid (fun i h1 h2 => ((HRW.out i h1 h2).drawn hq).weak fun c hc => ⟨hc.1, Nat.lt_of_lt_of_le hc.2.1 hsz⟩)
        have hsl : SlI (fun b => B ≤ b ∧ b < wr.heap.size) wr .i64 (.slice ua x.length uc) x := (hu.drawn hq).weak fun c hc => ⟨hc.1, Nat.lt_of_lt_of_le hc.2 hsz⟩
        clear hlt1 hcel hce
        have hck : oc ≠ k := by omega
        have HLD : RowKit.Hid ((vs.drop k).length = (n - k) * 1) := Lib.hid (by rw [List.length_drop, HVL.out, ← HN.out]; omega)
        go_wp2_with (first | (at_builtin; refine wpList_append elRows rfl _ _ rfl he0 rfl rfl (news := vs.take k) HLT.out hnt (fun u hu => HON.out u (List.mem_of_mem_take hu)) (by omega) hz0 ?_; intro v5 w5 h50 g5 m5; have h5 : Own w5 wr.heap.size 38 1 v5 k (vs.take k) := (by simpa using h50); clear h50; have hq5 := (KeptBut.of_grown g5).below hqe hz0 (fun b hb => he0.ge b hb); have hs5 := hq5.size; obtain ⟨a5, c5, rfl⟩ := h5.isSlice) | (at_builtin; refine wpList_append1b elRows rfl _ _ rfl h5 rfl rfl rfl rfl (by omega) hs5 ?_; intro v6 w6 h6 g6 m6; have hq6 := g6.below hq5 hs5 (fun b hb => h5.ge b hb); have hs6 := hq6.size; obtain ⟨a6, c6, rfl⟩ := h6.isSlice; have hnd := dropP (fun j (h : j < vs.length) => (hq6.cell (p := ⟨ob, j, none⟩) hobl2).trans ((show wr.cell? ⟨ob, j, none⟩ = some vs[j] by rw [hq.cell]; exact HCE.out j h))) k) | (at_builtin; refine wpList_append elRows rfl _ _ rfl h6 rfl rfl (news := vs.drop k) HLD.out hnd (fun u hu => HON.out u (List.mem_of_mem_drop hu)) (by omega) hs6 ?_; intro v7 w7 h7 g7 m7; have hq7 := (KeptBut.of_grown g7).below hq6 hs6 (fun b hb => h6.ge b hb)) | fail)
        have h7b : Own w7 wr.heap.size 38 1 v7 (n + 1) (vs.take k ++ [.slice ua x.length uc] ++ vs.drop k) := by rw [show n + 1 = k + 1 + (n - k) by omega]; exact h7
        obtain ⟨ob7, oc7, rfl⟩ := own_some h7b (by omega)
        have HL : RowKit.Hid ((g.take k ++ [x] ++ g.drop k).length = n + 1) := Lib.hid (by rw [insP_len _ _ _ (by have := HN.out; omega)]; have := HN.out; omega)
        have HL2 : RowKit.Hid (k + 1 + (n - k) = n + 1) := Lib.hid (by omega)
        have HW := Lib.hid (ownS_put (x := x) (g := g) (k := k) hq7 (Nat.le_trans hB hsz) (by have := HN.out; omega) HVL.out (by rw [← HN.out]; exact h7b) HRW1.out hsl)
        go_ret
        exact ⟨ob7, oc7, by rw [HPE.out, HL.out]; rfl, by rw [HPE.out, HL.out]; exact HW.out, (hq.below w.heap.size).trans (hq7.mono hsz)⟩
end Go.Proofs.YtpdlcnpmljfclaaDoor
