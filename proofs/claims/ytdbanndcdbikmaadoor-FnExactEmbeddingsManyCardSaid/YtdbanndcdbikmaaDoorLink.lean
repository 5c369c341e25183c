/- A graph that a call builds: the empty graph, the link. -/
import Derived.Test.YtdbanndcdbikmaaDoorPairs
import Derived.Test.YtdbanndcdbikmaaDoorMark4
import Derived.Test.YtdbanndcdbikmaaDoorLoopL
import Derived.Test.YtdbanndcdbikmaaDoorFit4
import Derived.Test.YtdbanndcdbikmaaDoorReach2
namespace Go.Proofs.YtdbanndcdbikmaaDoor
open Go.RowKit
/-- One row more, laid behind all that was. -/
theorem ownR_snoc {w w' : World} {B C : Nat} {EO EI : TypeId} {u u' : Value} {g : List (List Int)} {r : List Int} {v : Value} {vs : List Value} (hl : vs.length = g.length) (hC : C ≤ w.heap.size) (hap : ApartL vs) (hrow : ∀ i (h : i < g.length) (h2 : i < vs.length), Own w B EI 1 vs[i] g[i].length (g[i].map (.int .i64)) ∧ (∀ b, vs[i].ownBlock = some b → b < C ∧ u.ownBlock ≠ some b)) (hbC : ∀ b, u.ownBlock = some b → b < C)
    (hown : Own w' B EO 1 u' (g.length + 1) (vs ++ [v])) (hv : Own w B EI 1 v r.length (r.map (.int .i64))) (hvC : ∀ b, v.ownBlock = some b → C ≤ b) (hk : KeptBut w w' u.ownBlock) (hm : u'.ownBlock = u.ownBlock ∨ ∃ b, u'.ownBlock = some b ∧ w.heap.size ≤ b) : OwnR w' B w'.heap.size EO EI u' (g ++ [r]) := by
  have hu' : ∀ b, b < w.heap.size → u.ownBlock ≠ some b → u'.ownBlock ≠ some b := fun b hb hne e => by
    rcases hm with h | ⟨c, h, hc⟩
    · rw [h] at e; exact hne e
    · rw [h] at e; simp at e; omega
  refine ⟨vs ++ [v], by simp [hl], by rw [List.length_append, List.length_singleton]; exact hown, fun b hb => (hown.lt b hb).2, hap.snoc (N := C) (fun i hi b hb => ((hrow i (by omega) hi).2 b hb).1) hvC, fun i hi hi2 => ?_⟩
  by_cases e : i < g.length
  · rw [List.getElem_append_left e, List.getElem_append_left (by omega)]
    obtain ⟨h1, h2⟩ := hrow i e (by omega)
    exact ⟨h1.kept hk (fun b hb he => (h2 b hb).2 he), fun b hb => ⟨Nat.lt_of_lt_of_le (h1.lt b hb).2 hk.2.2.2.1, hu' b (h1.lt b hb).2 (h2 b hb).2⟩⟩
  · have e2 : i = g.length := by simp at hi; omega
    subst e2
    rw [List.getElem_append_right (by omega), List.getElem_append_right (by omega)]
    have a1 : g.length - vs.length = 0 := by omega
    simp only [Nat.sub_self, a1, List.getElem_cons_zero]
    have hne : ∀ b, v.ownBlock = some b → u.ownBlock ≠ some b := fun b hb he => by have h1 := hbC b he; have h2 := hvC b hb; omega
    exact ⟨hv.kept hk (fun b hb he => hne b hb he), fun b hb => ⟨Nat.lt_of_lt_of_le (hv.lt b hb).2 hk.2.2.2.1, hu' b (hv.lt b hb).2 (hne b hb)⟩⟩
/-- A row set anew. -/
theorem ownR_set {w w1 : World} {B C ab n c k : Nat} {EO EI : TypeId} {g : List (List Int)} {r : List Int} {v : Value} (h : OwnR w B C EO EI (.slice (some ⟨ab, 0, none⟩) n c) g) (hb : Below w.heap.size w w1) (hC : C ≤ w.heap.size) (hB : B ≤ w.heap.size) (hk : k < g.length)
    (hv : Own w1 w.heap.size EI 1 v r.length (r.map (.int .i64))) : OwnR (w1.setCell ⟨ab, k, none⟩ v) B w1.heap.size EO EI (.slice (some ⟨ab, 0, none⟩) n c) (g.set k r) := by
  obtain ⟨vs, h1, h2, h3, hap, h4⟩ := h
  obtain ⟨a, cc, hn⟩ := h2.isSlice
  simp only [Value.slice.injEq] at hn
  obtain ⟨-, rfl, -⟩ := hn
  have hab : B ≤ ab ∧ ab < w.heap.size := h2.lt ab rfl
  have hset : ∀ b, b ≠ ab → (w1.setCell ⟨ab, k, none⟩ v).heap[b]? = w1.heap[b]? := fun b hb => Below.heap_setCell _ _ _ _ (by simpa using hb)
  have hsz := hb.size
  refine ⟨vs.set k v, by simp [h1], ?_, fun b hb => ?_, ?_, fun i hi hi2 => ?_⟩
  · rw [List.length_set]
    exact (h2.below hb (Nat.le_refl _)).stored k v
  · have : ab = b := by simpa [Value.ownBlock] using hb
    omega
  · intro i j hi hj b hb1 hb2
    rw [List.length_set] at hi hj
    rw [List.getElem_set] at hb1 hb2
    by_cases ei : k = i <;> by_cases ej : k = j
    · omega
    · rw [if_pos ei] at hb1; rw [if_neg ej] at hb2
      have h5 := (hv.lt b hb1).1; have h6 := ((h4 j (by omega) hj).2 b hb2).1; omega
    · rw [if_neg ei] at hb1; rw [if_pos ej] at hb2
      have h5 := (hv.lt b hb2).1; have h6 := ((h4 i (by omega) hi).2 b hb1).1; omega
    · rw [if_neg ei] at hb1; rw [if_neg ej] at hb2
      exact hap i j hi hj b hb1 hb2
  · rw [List.length_set] at hi hi2
    have hne : ∀ b, b ≠ ab → (w1.setCell ⟨ab, k, none⟩ v).heap[b]? = w1.heap[b]? := hset
    by_cases e : k = i
    · subst e
      rw [List.getElem_set_self, List.getElem_set_self]
      refine ⟨(hv.keep fun b hbv => hset b (by have := (hv.lt b hbv).1; omega)).weak hB, fun b hbv => ⟨(hv.lt b hbv).2, fun he => ?_⟩⟩
      have : ab = b := by simpa [Value.ownBlock] using he
      have := (hv.lt b hbv).1; omega
    · rw [List.getElem_set_ne e, List.getElem_set_ne e]
      obtain ⟨h5, h6⟩ := h4 i hi hi2
      refine ⟨(h5.below hb (Nat.le_refl _)).keep fun b hbv => hset b (fun he => (h6 b hbv).2 (by rw [he]; rfl)), fun b hbv => ⟨?_, (h6 b hbv).2⟩⟩
      have := (h6 b hbv).1; omega
/-- Looks at an own graph's row. -/
theorem OwnR.row {w : World} {B C ab n c k : Nat} {EO EI : TypeId} {g : List (List Int)} (h : OwnR w B C EO EI (.slice (some ⟨ab, 0, none⟩) n c) g) (hk : k < g.length) : ∃ ra rc, w.cell? ⟨ab, k, none⟩ = some (.slice ra g[k].length rc) ∧ w.frozen? ⟨ab, k, none⟩ = false ∧ Own w B EI 1 (.slice ra g[k].length rc) g[k].length (g[k].map (.int .i64)) ∧ ab < w.heap.size ∧ B ≤ ab := by
  obtain ⟨vs, h1, h2, h3, hap, h4⟩ := h
  have h5 := (h4 k hk (by omega)).1
  obtain ⟨ra, rc, hre⟩ := h5.isSlice
  have hn : n = g.length := by
    obtain ⟨a, cc, hn⟩ := h2.isSlice
    simp only [Value.slice.injEq] at hn
    exact hn.2.1
  subst hn
  have hkv : k < vs.length := by omega
  have hlt := h2.lt ab rfl
  rw [hre] at h5
  exact ⟨ra, rc, (World.ownsRow.cellAt h2 k (by omega)).trans (by simp [hkv, hre]), World.ownsRow.frozenAt h2 k, h5, hlt.2, hlt.1⟩
theorem OwnR.rowM {w : World} {B C ab n c k : Nat} {EO EI : TypeId} {M : List Nat} (h : OwnR w B C EO EI (.slice (some ⟨ab, 0, none⟩) n c) (M.map bitsI)) (hk : k < M.length) : ∃ ra rc, w.cell? ⟨ab, k, none⟩ = some (.slice ra (bitsI M[k]).length rc) ∧ w.frozen? ⟨ab, k, none⟩ = false ∧ OwnB w B EI (.slice ra (bitsI M[k]).length rc) M[k] ∧ ab < w.heap.size ∧ B ≤ ab := by
  have := h.row (k := k) (by simpa using hk)
  simpa [OwnB] using this
def linkN (M : List Nat) (k i : Nat) : List Nat := (M.set k (M.getD k 0 ||| bit i)).set i (M.getD i 0 ||| bit k)
theorem linkN_len (M : List Nat) (k i : Nat) : (linkN M k i).length = M.length := by simp [linkN]
theorem OwnR.drewR {w : World} {B C : Nat} {EO EI : TypeId} {u : Value} {g : List (List Int)} (h : OwnR w B C EO EI u g) : OwnR w.drew B C EO EI u g := h.below (B1 := w.heap.size) ((Below.refl _ _).drew) (Nat.le_refl _)
/-- Blocks of elements of other types are other blocks. -/
theorem own_type {w : World} {B B' : Nat} {E E' : TypeId} {s s' : Nat} {v v' : Value} {n n' : Nat} {xs xs' : List Value} (h : Own w B E s v n xs) (h' : Own w B' E' s' v' n' xs') (hE : E ≠ E') (b : Nat) (hb : v.ownBlock = some b) : v'.ownBlock ≠ some b := by
  intro hb'
  rcases h.2 with ⟨rfl, -⟩ | ⟨g, cap, cur, rfl, -, hg, -⟩
  · simp [Value.ownBlock] at hb
  · rcases h'.2 with ⟨rfl, -⟩ | ⟨g', cap', cur', rfl, -, hg', -⟩
    · simp [Value.ownBlock] at hb'
    · have e1 : g = b := by simpa [Value.ownBlock] using hb
      have e2 : g' = b := by simpa [Value.ownBlock] using hb'
      subst e1; subst e2
      rw [hg] at hg'
      simp only [Option.some.injEq, Obj.cells.injEq] at hg'
      exact hE hg'.2.1
theorem OwnR.setOther {w : World} {B C B' b : Nat} {EO EI E : TypeId} {u : Value} {g : List (List Int)} {xs : List Value} (h : OwnR w B C EO EI u g) (h' : Own w B' E 1 (.slice (some ⟨b, 0, none⟩) 1 1) 1 xs) (h1 : EO ≠ E) (h2 : EI ≠ E) (x : Value) : OwnR (w.setCell ⟨b, 0, none⟩ x) B C EO EI u g := by
  obtain ⟨vs, a1, a2, a3, hap, a4⟩ := h
  have hset : ∀ k, k ≠ b → (w.setCell ⟨b, 0, none⟩ x).heap[k]? = w.heap[k]? := fun k hk => Below.heap_setCell _ _ _ _ (by simpa using hk)
  exact ⟨vs, a1, a2.keep fun k hk => hset k (fun e => own_type a2 h' h1 k hk (by rw [e]; rfl)), a3, hap, fun i hi hi2 => ⟨(a4 i hi hi2).1.keep fun k hk => hset k (fun e => own_type (a4 i hi hi2).1 h' h2 k hk (by rw [e]; rfl)), (a4 i hi hi2).2⟩⟩
theorem OwnR.other {w : World} {B C B' b : Nat} {EO EI E : TypeId} {u : Value} {g : List (List Int)} {xs : List Value} (h : OwnR w B C EO EI u g) (h' : Own w B' E 1 (.slice (some ⟨b, 0, none⟩) 1 1) 1 xs) (h1 : EO ≠ E) : u.ownBlock ≠ some b := by
  obtain ⟨vs, a1, a2, -⟩ := h
  exact fun e => own_type a2 h' h1 b e rfl
theorem own1_keep {w w' : World} {B b : Nat} {E : TypeId} {xs : List Value} (h : Own w B E 1 (.slice (some ⟨b, 0, none⟩) 1 1) 1 xs) (hk : w'.heap[b]? = w.heap[b]?) : Own w' B E 1 (.slice (some ⟨b, 0, none⟩) 1 1) 1 xs := h.keep fun k hb => by
  have e : b = k := by simpa [Value.ownBlock] using hb
  rw [← e]; exact hk
/-- Linked so far: all pairs below i, and i with all below k. -/
def LkG (E : Nat → Nat → Bool) (n i k : Nat) (M : List Nat) : Prop := M.length = n ∧ ∀ x, x < n → ∀ y, (M.getD x 0).testBit y = true ↔ ((y < x ∧ (x < i ∨ x = i ∧ y < k) ∧ E x y = true) ∨ (x < y ∧ (y < i ∨ y = i ∧ x < k) ∧ E y x = true))
theorem LkG.start (E : Nat → Nat → Bool) (n : Nat) : LkG E n 0 0 (List.replicate n 0) := by
  refine ⟨by simp, fun x hx y => ?_⟩
  have : (List.replicate n 0).getD x 0 = 0 := by simp [List.getD_eq_getElem?_getD, List.getElem?_replicate, hx]
  rw [this]
  simp
theorem LkG.next {E : Nat → Nat → Bool} {n i : Nat} {M : List Nat} (h : LkG E n i i M) : LkG E n (i + 1) 0 M := by
  refine ⟨h.1, fun x hx y => ?_⟩
  rw [h.2 x hx y]
  constructor
  · rintro (⟨h1, h2, h3⟩ | ⟨h1, h2, h3⟩)
    · exact .inl ⟨h1, by omega, h3⟩
    · exact .inr ⟨h1, by omega, h3⟩
  · rintro (⟨h1, h2, h3⟩ | ⟨h1, h2, h3⟩)
    · exact .inl ⟨h1, by omega, h3⟩
    · exact .inr ⟨h1, by omega, h3⟩
theorem LkG.no {E : Nat → Nat → Bool} {n i k : Nat} {M : List Nat} (h : LkG E n i k M) (hE : E i k = false) : LkG E n i (k + 1) M := by
  refine ⟨h.1, fun x hx y => ?_⟩
  rw [h.2 x hx y]
  constructor
  · rintro (⟨h1, h2, h3⟩ | ⟨h1, h2, h3⟩)
    · exact .inl ⟨h1, by omega, h3⟩
    · exact .inr ⟨h1, by omega, h3⟩
  · rintro (⟨h1, h2, h3⟩ | ⟨h1, h2, h3⟩)
    · refine .inl ⟨h1, ?_, h3⟩
      by_cases e : x = i ∧ y = k
      · rw [e.1, e.2, hE] at h3; cases h3
      · omega
    · refine .inr ⟨h1, ?_, h3⟩
      by_cases e : y = i ∧ x = k
      · rw [e.1, e.2, hE] at h3; cases h3
      · omega
theorem linkN_get {M : List Nat} {k i x : Nat} (hk : k < M.length) (hi : i < M.length) (hki : k ≠ i) : (linkN M k i).getD x 0 = if x = i then M.getD i 0 ||| bit k else if x = k then M.getD k 0 ||| bit i else M.getD x 0 := by
  unfold linkN
  simp only [List.getD_eq_getElem?_getD, List.getElem?_set, List.length_set]
  by_cases e1 : x = i
  · subst e1; simp [hi]
  · have e1' : ¬ i = x := fun h => e1 h.symm
    rw [if_neg e1', if_neg e1]
    by_cases e2 : x = k
    · subst e2; simp [hk]
    · have e2' : ¬ k = x := fun h => e2 h.symm
      rw [if_neg e2', if_neg e2]
theorem LkG.yes {E : Nat → Nat → Bool} {n i k : Nat} {M : List Nat} (h : LkG E n i k M) (hk : k < i) (hi : i < n) (hE : E i k = true) : LkG E n i (k + 1) (linkN M k i) := by
  refine ⟨by rw [linkN_len]; exact h.1, fun x hx y => ?_⟩
  have hb : ((linkN M k i).getD x 0).testBit y = true ↔ ((M.getD x 0).testBit y = true ∨ (x = i ∧ y = k) ∨ (x = k ∧ y = i)) := by
    rw [linkN_get (by rw [h.1]; omega) (by rw [h.1]; omega) (by omega)]
    by_cases e1 : x = i
    · rw [if_pos e1, Nat.testBit_or, testBit_bit, Bool.or_eq_true, decide_eq_true_eq, e1]
      constructor
      · rintro (a | a)
        · exact .inl a
        · exact .inr (.inl ⟨rfl, a.symm⟩)
      · rintro (a | ⟨-, a⟩ | ⟨a, b⟩)
        · exact .inl a
        · exact .inr a.symm
        · omega
    · rw [if_neg e1]
      by_cases e2 : x = k
      · rw [if_pos e2, Nat.testBit_or, testBit_bit, Bool.or_eq_true, decide_eq_true_eq, e2]
        constructor
        · rintro (a | a)
          · exact .inl a
          · exact .inr (.inr ⟨rfl, a.symm⟩)
        · rintro (a | ⟨a, b⟩ | ⟨-, a⟩)
          · exact .inl a
          · omega
          · exact .inr a.symm
      · rw [if_neg e2]
        constructor
        · exact .inl
        · rintro (a | ⟨a, b⟩ | ⟨a, b⟩)
          · exact a
          · omega
          · omega
  rw [hb, h.2 x hx y]
  constructor
  · rintro ((⟨h1, h2, h3⟩ | ⟨h1, h2, h3⟩) | ⟨rfl, rfl⟩ | ⟨rfl, rfl⟩)
    · exact .inl ⟨h1, by omega, h3⟩
    · exact .inr ⟨h1, by omega, h3⟩
    · exact .inl ⟨hk, by omega, hE⟩
    · exact .inr ⟨hk, by omega, hE⟩
  · rintro (⟨h1, h2, h3⟩ | ⟨h1, h2, h3⟩)
    · by_cases e : x = i ∧ y = k
      · exact .inr (.inl e)
      · exact .inl (.inl ⟨h1, by omega, h3⟩)
    · by_cases e : x = k ∧ y = i
      · exact .inr (.inr e)
      · exact .inl (.inr ⟨h1, by omega, h3⟩)
theorem LkG.lt {E : Nat → Nat → Bool} {n i k : Nat} {M : List Nat} (h : LkG E n i k M) (hi : i < n ∨ i ≤ n ∧ k = 0) : ∀ m ∈ M, m < 2 ^ n := by
  intro m hm
  obtain ⟨x, hx, rfl⟩ := List.getElem_of_mem hm
  apply Nat.lt_pow_two_of_testBit
  intro y hy
  cases hb : M[x].testBit y with
  | false => rfl
  | true =>
    have hx2 : x < n := by rw [← h.1]; exact hx
    have := (h.2 x hx2 y).1 (by simpa [hx] using hb)
    omega
theorem LkG.pre {E : Nat → Nat → Bool} {n i k : Nat} {M : List Nat} (h : LkG E n i k M) (hk : k < i) (hi : i < n) : (M.getD k 0).testBit i = false ∧ (M.getD i 0).testBit k = false := by
  constructor
  · cases hb : (M.getD k 0).testBit i with
    | false => rfl
    | true => have := (h.2 k (by omega) i).1 hb; omega
  · cases hb : (M.getD i 0).testBit k with
    | false => rfl
    | true => have := (h.2 i (by omega) k).1 hb; omega
theorem repl_bits (n : Nat) : (List.replicate n ([] : List Int)) = (List.replicate n 0).map bitsI := by
  rw [List.map_replicate]; first | done | (congr 1 <;> simp [bitsI, bitsN_zero])

/-- Linked along a list of pairs. -/
def EdL (L : List NP) (n : Nat) (M : List Nat) : Prop := M.length = n ∧ ∀ x, x < n → ∀ y, (M.getD x 0).testBit y = true ↔ ((x, y) ∈ L ∨ (y, x) ∈ L)
theorem EdL.start (n : Nat) : EdL [] n (List.replicate n 0) := by
  refine ⟨by simp, fun x hx y => ?_⟩
  have : (List.replicate n 0).getD x 0 = 0 := by simp [List.getD_eq_getElem?_getD, List.getElem?_replicate, hx]
  rw [this]; simp
theorem EdL.next {L : List NP} {n k i : Nat} {M : List Nat} (h : EdL L n M) (hki : k < i) (hi : i < n) : EdL (L ++ [(k, i)]) n (linkN M k i) := by
  refine ⟨by rw [linkN_len]; exact h.1, fun x hx y => ?_⟩
  have hm : ∀ p q : Nat, ((p, q) ∈ L ++ [(k, i)] ↔ ((p, q) ∈ L ∨ (p = k ∧ q = i))) := fun p q => by
    rw [List.mem_append, List.mem_singleton, Prod.mk.injEq]
  rw [hm, hm, linkN_get (by rw [h.1]; omega) (by rw [h.1]; omega) (by omega)]
  have hx2 := h.2 x hx y
  have hk2 := h.2 k (by omega) y
  have hi2 := h.2 i hi y
  by_cases e1 : x = i
  · subst e1
    rw [if_pos rfl, Nat.testBit_or, testBit_bit, Bool.or_eq_true, decide_eq_true_eq, hi2]
    constructor
    · rintro ((a | a) | a)
      · exact .inl (.inl a)
      · exact .inr (.inl a)
      · exact .inr (.inr ⟨a.symm, rfl⟩)
    · rintro ((a | a) | (a | a))
      · exact .inl (.inl a)
      · omega
      · exact .inl (.inr a)
      · exact .inr a.1.symm
  · rw [if_neg e1]
    by_cases e2 : x = k
    · subst e2
      rw [if_pos rfl, Nat.testBit_or, testBit_bit, Bool.or_eq_true, decide_eq_true_eq, hk2]
      constructor
      · rintro ((a | a) | a)
        · exact .inl (.inl a)
        · exact .inr (.inl a)
        · exact .inl (.inr ⟨rfl, a.symm⟩)
      · rintro ((a | a) | (a | a))
        · exact .inl (.inl a)
        · exact .inr a.2.symm
        · exact .inl (.inr a)
        · omega
    · rw [if_neg e2, hx2]
      constructor
      · rintro (a | a)
        · exact .inl (.inl a)
        · exact .inr (.inl a)
      · rintro ((a | a) | (a | a))
        · exact .inl a
        · omega
        · exact .inr a
        · omega
theorem EdL.pre {L : List NP} {n k i : Nat} {M : List Nat} (h : EdL L n M) (hki : k < i) (hi : i < n) (hL : ∀ s ∈ L, s.1 < s.2) (hn : (k, i) ∉ L) : (M.getD k 0).testBit i = false ∧ (M.getD i 0).testBit k = false := by
  have h2 : (i, k) ∉ L := fun hm => by have := hL _ hm; simp at this; omega
  constructor
  · cases hb : (M.getD k 0).testBit i with
    | false => rfl
    | true => rcases (h.2 k (by omega) i).1 hb with a | a; exact absurd a hn; exact absurd a h2
  · cases hb : (M.getD i 0).testBit k with
    | false => rfl
    | true => rcases (h.2 i hi k).1 hb with a | a; exact absurd a h2; exact absurd a hn
theorem EdL.lt {L : List NP} {n : Nat} {M : List Nat} (h : EdL L n M) (hL : ∀ s ∈ L, s.1 < s.2 ∧ s.2 < n) : ∀ m ∈ M, m < 2 ^ n := fun m hm => by
  obtain ⟨x, hx, rfl⟩ := List.getElem_of_mem hm
  apply Nat.lt_pow_two_of_testBit
  intro y hy
  cases hb : M[x].testBit y with
  | false => rfl
  | true =>
    have hx2 : x < n := by rw [← h.1]; exact hx
    rcases (h.2 x hx2 y).1 (by simpa [hx] using hb) with a | a
    · have := hL _ a; simp at this; omega
    · have := hL _ a; simp at this; omega
/-- Masks that hold a right graph. -/
theorem gok_masks {M : List Nat} {n : Nat} (hl : M.length = n) (h1 : 1 ≤ n) (h16 : n ≤ 16) (hlt : ∀ m ∈ M, m < 2 ^ n) (hir : ∀ x, x < n → (M.getD x 0).testBit x = false) (hsy : ∀ x y, x < n → y < n → (M.getD x 0).testBit y = true → (M.getD y 0).testBit x = true) : GOk (M.map bitsI) := by
  have h32 : ∀ m ∈ M, m < 4294967296 := fun m hm => by have := hlt m hm; have := pow_le16 h16; omega
  have hmem : ∀ (x : Nat) (hx : x < M.length) (u : Int), u ∈ bitsI M[x] ↔ ∃ i : Nat, u = (i : Int) ∧ M[x].testBit i = true := fun x hx u => by
    unfold bitsI
    simp only [List.mem_map, mem_bitsN (h32 _ (List.getElem_mem hx))]
    constructor
    · rintro ⟨i, hi, rfl⟩; exact ⟨i, rfl, hi⟩
    · rintro ⟨i, rfl, hi⟩; exact ⟨i, hi, rfl⟩
  have hbl : ∀ (x : Nat) (hx : x < M.length) (i : Nat), M[x].testBit i = true → i < n := fun x hx i hi => bit_lt_of (hlt _ (List.getElem_mem hx)) hi
  have hgd : ∀ (x : Nat) (hx : x < M.length), M.getD x 0 = M[x] := fun x hx => by simp [hx]
  refine ⟨by simp; omega, by simp; omega, fun v hv => ?_, fun v hv => ?_, fun v hv u hu => ?_⟩
  · have hv2 : v < M.length := by simpa using hv
    rw [List.getElem_map]
    intro i hi _
    have hmi := (hmem v hv2 _).1 (List.getElem_mem hi)
    obtain ⟨j, hj, hb⟩ := hmi
    have hjn := hbl v hv2 j hb
    refine ⟨by omega, by rw [hj, List.length_map]; omega, fun k hk => ?_⟩
    exact List.pairwise_iff_getElem.1 (bitsI_sorted M[v]) k i (by omega) hi hk
  · have hv2 : v < M.length := by simpa using hv
    rw [List.getElem_map, hmem v hv2]
    rintro ⟨i, hi, hb⟩
    have : v = i := by omega
    subst this
    have := hir v (by omega)
    rw [hgd v hv2, hb] at this; cases this
  · have hv2 : v < M.length := by simpa using hv
    rw [List.getElem_map, hmem v hv2] at hu
    obtain ⟨i, rfl, hb⟩ := hu
    have hin := hbl v hv2 i hb
    have hiM : i < M.length := by omega
    have h2 := hsy v i (by omega) hin (by rw [hgd v hv2]; exact hb)
    rw [hgd i hiM] at h2
    have e : (M.map bitsI).getD (i : Int).toNat [] = bitsI M[i] := by simp [hiM]
    rw [e, hmem i hiM]
    exact ⟨v, rfl, h2⟩
theorem EdL.gok {L : List NP} {n : Nat} {M : List Nat} (h : EdL L n M) (h1 : 1 ≤ n) (h16 : n ≤ 16) (hL : ∀ s ∈ L, s.1 < s.2 ∧ s.2 < n) : GOk (M.map bitsI) := by
  refine gok_masks h.1 h1 h16 (h.lt hL) (fun x hx => ?_) (fun x y hx hy hb => ?_)
  · cases hb : (M.getD x 0).testBit x with
    | false => rfl
    | true => rcases (h.2 x hx x).1 hb with a | a <;> (have := hL _ a; simp at this)
  · exact (h.2 y hy x).2 ((h.2 x hx y).1 hb).symm
/-- The pairs drawn so far. -/
structure PL (n : Nat) (L : List NP) (v u : Nat) : Prop where
  all : ∀ s ∈ L, s.1 < s.2 ∧ s.2 < n ∧ (s.2 < v ∨ s.2 = v ∧ s.1 < u)
  nd : L.Nodup
theorem PL.start (n : Nat) : PL n [] 1 0 := ⟨fun s h => (by cases h), List.nodup_nil⟩
theorem PL.skip {n : Nat} {L : List NP} {v u : Nat} (h : PL n L v u) : PL n L v (u + 1) := ⟨fun s hs => by have := h.all s hs; omega, h.nd⟩
theorem PL.row {n : Nat} {L : List NP} {v : Nat} (h : PL n L v v) : PL n L (v + 1) 0 := ⟨fun s hs => by have := h.all s hs; omega, h.nd⟩
theorem PL.add {n : Nat} {L : List NP} {v u : Nat} (h : PL n L v u) (hu : u < v) (hv : v < n) : PL n (L ++ [(u, v)]) v (u + 1) := by
  refine ⟨fun s hs => ?_, ?_⟩
  · rcases List.mem_append.1 hs with a | a
    · have := h.all s a; omega
    · simp at a; subst a; exact ⟨hu, hv, .inr ⟨rfl, by simp⟩⟩
  · rw [List.nodup_append]
    refine ⟨h.nd, by simp, fun a ha b hb e => ?_⟩
    simp at hb
    have := h.all a ha
    rw [e, hb] at this; simp at this
theorem own1_kept {w w' : World} {B b : Nat} {E : TypeId} {xs : List Value} {r : Option Nat} (h : Own w B E 1 (.slice (some ⟨b, 0, none⟩) 1 1) 1 xs) (hk : KeptBut w w' r) (hr : r ≠ some b) : Own w' B E 1 (.slice (some ⟨b, 0, none⟩) 1 1) 1 xs :=
  h.keep fun k hb => by
    have e : b = k := by simpa [Value.ownBlock] using hb
    subst e
    exact hk.2.2.2.2 b (h.lt b rfl).2 (fun e => hr e.symm)
theorem gok_small {g : List (List Int)} (hg : GOk g) : SmallR g 1048576 := ⟨by have := hg.hi; omega, fun i hi _ => by have := rise_len (hg.rise i hi) (by omega); have := hg.hi; omega⟩
end Go.Proofs.YtdbanndcdbikmaaDoor
