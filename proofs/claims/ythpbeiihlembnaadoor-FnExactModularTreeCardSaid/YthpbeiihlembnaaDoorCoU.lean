/- CoTree: trees of a call's own that avoid some blocks. -/
import Derived.Test.YthpbeiihlembnaaDoorTurn3
import Derived.Test.YthpbeiihlembnaaDoorCoB
namespace Go.Proofs.YthpbeiihlembnaaDoor
open Go.RowKit
theorem OwnP.weak {w : World} {B C B' C' : Nat} {EO EI : TypeId} {u : Value} {t : List PNode} (h : OwnP w B C EO EI u t) (hB : B' ≤ B) (hC : C ≤ C') : OwnP w B' C' EO EI u t := by
  obtain ⟨xs, vs, h1, h2, h3, h4, h5⟩ := h
  exact ⟨xs, vs, h1, h2.weak hB, fun b hb => Nat.lt_of_lt_of_le (h3 b hb) hC, h4, fun i hi hi2 => ⟨(h5 i hi hi2).1.weak hB, fun b hb => ⟨Nat.lt_of_lt_of_le ((h5 i hi hi2).2 b hb).1 hC, ((h5 i hi hi2).2 b hb).2⟩⟩⟩
theorem OwnP.nil (w : World) (B C : Nat) (EO EI : TypeId) : OwnP w B C EO EI (.slice none 0 0) [] := ⟨[], [], CellsP.nil, Own.nil _ _ _ _, fun b hb => by simp [Value.ownBlock] at hb, ApartL.nil, fun i hi => by simp at hi⟩
theorem CellsP.len {t : List PNode} {xs vs : List Value} (h : CellsP t xs vs) : vs.length = t.length := h.2.1
/-- u is a tree of the call's own, no block of which is in X. -/
def OwnX (X : Nat → Prop) (w : World) (B : Nat) (EO EI : TypeId) (u : Value) (t : List PNode) : Prop :=
  ∃ xs vs, CellsP t xs vs ∧ Own w B EO 3 u t.length xs ∧ ApartL vs ∧ KidsP w B w.heap.size EI u t vs ∧ (∀ b, u.ownBlock = some b → ¬ X b) ∧ ∀ i (hi : i < vs.length) b, vs[i].ownBlock = some b → ¬ X b
theorem OwnX.ownP {X : Nat → Prop} {w : World} {B : Nat} {EO EI : TypeId} {u : Value} {t : List PNode} (h : OwnX X w B EO EI u t) : OwnP w B w.heap.size EO EI u t := by
  obtain ⟨xs, vs, h1, h2, h3, h4, h5, h6⟩ := h
  exact ⟨xs, vs, h1, h2, fun b hb => (h2.lt b hb).2, h3, h4⟩
theorem OwnX.own {X : Nat → Prop} {w : World} {B : Nat} {EO EI : TypeId} {u : Value} {t : List PNode} (h : OwnX X w B EO EI u t) : ∃ xs, Own w B EO 3 u t.length xs := by
  obtain ⟨xs, vs, h1, h2, _⟩ := h
  exact ⟨xs, h2⟩
theorem OwnX.isSlice {X : Nat → Prop} {w : World} {B : Nat} {EO EI : TypeId} {u : Value} {t : List PNode} (h : OwnX X w B EO EI u t) : ∃ a c, u = .slice a t.length c := h.ownP.isSlice
theorem OwnX.lt {X : Nat → Prop} {w : World} {B : Nat} {EO EI : TypeId} {u : Value} {t : List PNode} (h : OwnX X w B EO EI u t) : ∀ b, u.ownBlock = some b → B ≤ b ∧ b < w.heap.size := by
  obtain ⟨xs, vs, h1, h2, _⟩ := h
  exact h2.lt
theorem OwnX.kept {X : Nat → Prop} {w w' : World} {B : Nat} {EO EI : TypeId} {u : Value} {t : List PNode} {r : Option Nat} (h : OwnX X w B EO EI u t) (hk : KeptBut w w' r) (hr : ∀ b, r = some b → X b) : OwnX X w' B EO EI u t := by
  obtain ⟨xs, vs, h1, h2, h3, h4, h5, h6⟩ := h
  exact ⟨xs, vs, h1, h2.kept hk fun b hb he => h5 b hb (hr b he), h3, fun i hi hi2 => ⟨(h4 i hi hi2).1.kept hk fun b hb he => h6 i hi2 b hb (hr b he), fun b hb => ⟨Nat.lt_of_lt_of_le ((h4 i hi hi2).2 b hb).1 hk.2.2.2.1, ((h4 i hi hi2).2 b hb).2⟩⟩, h5, h6⟩
theorem OwnX.below {X : Nat → Prop} {w w' : World} {B : Nat} {EO EI : TypeId} {u : Value} {t : List PNode} (h : OwnX X w B EO EI u t) (hb : Below w.heap.size w w') : OwnX X w' B EO EI u t := h.kept (KeptBut.ofBelow none hb) (fun b hb => by cases hb)
theorem OwnX.drawn {X : Nat → Prop} {w w' : World} {B : Nat} {EO EI : TypeId} {u : Value} {t : List PNode} (h : OwnX X w B EO EI u t) (hd : Drawn w w') : OwnX X w' B EO EI u t := h.kept (KeptBut.ofDrawn hd none) (fun b hb => by cases hb)
theorem OwnX.sub {X Y : Nat → Prop} {w : World} {B : Nat} {EO EI : TypeId} {u : Value} {t : List PNode} (h : OwnX X w B EO EI u t) (hs : ∀ b, Y b → b < w.heap.size → X b) : OwnX Y w B EO EI u t := by
  obtain ⟨xs, vs, h1, h2, h3, h4, h5, h6⟩ := h
  exact ⟨xs, vs, h1, h2, h3, h4, fun b hb hy => h5 b hb (hs b hy (h2.lt b hb).2), fun i hi b hb hy => h6 i hi b hb (hs b hy ((h4 i (by have := h1.len; omega) hi).2 b hb).1)⟩
theorem OwnX.nil (X : Nat → Prop) (w : World) (B : Nat) (EO EI : TypeId) : OwnX X w B EO EI (.slice none 0 0) [] := ⟨[], [], CellsP.nil, Own.nil _ _ _ _, ApartL.nil, fun i hi => by simp at hi, fun b hb => by simp [Value.ownBlock] at hb, fun i hi => by simp at hi⟩
theorem OwnX.empty {X : Nat → Prop} {w : World} {B : Nat} {EO EI : TypeId} {u : Value} (h : Own w B EO 3 u 0 []) (hX : ∀ b, u.ownBlock = some b → ¬ X b) : OwnX X w B EO EI u [] := ⟨[], [], CellsP.nil, h, ApartL.nil, fun i hi => by simp at hi, hX, fun i hi => by simp at hi⟩
theorem ApartL.snoc2 {vs : List Value} {u : Value} (h : ApartL vs) (h1 : ∀ i (hi : i < vs.length) b, vs[i].ownBlock = some b → u.ownBlock ≠ some b) : ApartL (vs ++ [u]) := by
  intro i j hi hj b hb1 hb2
  rw [List.length_append] at hi hj
  simp only [List.length_singleton] at hi hj
  by_cases ei : i < vs.length <;> by_cases ej : j < vs.length
  · rw [List.getElem_append_left ei] at hb1; rw [List.getElem_append_left ej] at hb2; exact h i j ei ej b hb1 hb2
  · rw [List.getElem_append_left ei] at hb1; rw [List.getElem_append_right (by omega)] at hb2
    have e : j - vs.length = 0 := by omega
    simp only [e, List.getElem_cons_zero] at hb2
    exact absurd hb2 (h1 i ei b hb1)
  · rw [List.getElem_append_left ej] at hb2; rw [List.getElem_append_right (by omega)] at hb1
    have e : i - vs.length = 0 := by omega
    simp only [e, List.getElem_cons_zero] at hb1
    exact absurd hb1 (h1 j ej b hb2)
  · omega
/-- One node more, with kids in v. -/
theorem ownX_snoc {X : Nat → Prop} {w w' : World} {B : Nat} {EO EI : TypeId} {u u' : Value} {t : List PNode} {p : PNode} {v : Value} {xs vs : List Value} (hcs : CellsP t xs vs) (hap : ApartL vs) (hkd : KidsP w B w.heap.size EI u t vs) (hXs : ∀ i (hi : i < vs.length) b, vs[i].ownBlock = some b → ¬ X b) (hXu : ∀ b, u.ownBlock = some b → ¬ X b) (hXw : ∀ b, X b → b < w.heap.size)
    (hown : Own w' B EO 3 u' (t.length + 1) (xs ++ [.int .i64 p.kind, .int .i64 p.vertex, v])) (hv : Own w B EI 1 v p.kids.length (p.kids.map (.int .i64))) (hvs : ∀ i (hi : i < vs.length) b, vs[i].ownBlock = some b → v.ownBlock ≠ some b) (hvX : ∀ b, v.ownBlock = some b → ¬ X b) (hvu : ∀ b, v.ownBlock = some b → u.ownBlock ≠ some b)
    (hk : KeptBut w w' u.ownBlock) (hm : u'.ownBlock = u.ownBlock ∨ ∃ b, u'.ownBlock = some b ∧ w.heap.size ≤ b) : OwnX X w' B EO EI u' (t ++ [p]) := by
  have hu' : ∀ b, b < w.heap.size → u.ownBlock ≠ some b → u'.ownBlock ≠ some b := fun b hb hne e => by
    rcases hm with h | ⟨c, h, hc⟩
    · rw [h] at e; exact hne e
    · rw [h] at e; simp at e; omega
  have hvl := hcs.2.1
  refine ⟨_, _, hcs.snoc p v, by rw [List.length_append, List.length_singleton]; exact hown, hap.snoc2 hvs, fun i hi hi2 => ?_, fun b hb hx => ?_, fun i hi b hb => ?_⟩
  · by_cases e : i < t.length
    · rw [List.getElem_append_left e, List.getElem_append_left (by omega)]
      obtain ⟨h1, h2⟩ := hkd i e (by omega)
      exact ⟨h1.kept hk (fun b hb he => (h2 b hb).2 he), fun b hb => ⟨Nat.lt_of_lt_of_le (h1.lt b hb).2 hk.2.2.2.1, hu' b (h1.lt b hb).2 (h2 b hb).2⟩⟩
    · have e2 : i = t.length := by simp at hi; omega
      subst e2
      rw [List.getElem_append_right (by omega), List.getElem_append_right (by omega)]
      have a1 : t.length - vs.length = 0 := by omega
      simp only [Nat.sub_self, a1, List.getElem_cons_zero]
      exact ⟨hv.kept hk (fun b hb he => hvu b hb he), fun b hb => ⟨Nat.lt_of_lt_of_le (hv.lt b hb).2 hk.2.2.2.1, hu' b (hv.lt b hb).2 (hvu b hb)⟩⟩
  · rcases hm with h | ⟨c, h, hc⟩
    · exact hXu b (h ▸ hb) hx
    · rw [h] at hb; simp at hb; have := hXw b hx; omega
  · rw [List.length_append, List.length_singleton] at hi
    by_cases e : i < vs.length
    · rw [List.getElem_append_left e] at hb; exact hXs i e b hb
    · rw [List.getElem_append_right (by omega)] at hb
      have a1 : i - vs.length = 0 := by omega
      simp only [a1, List.getElem_cons_zero] at hb
      exact hvX b hb
/-- What a search for a tree returns: the tree with what was added, or none. -/
def TreeT (EO EI : TypeId) (X : Nat → Prop) (o : Option (List PNode)) (w : World) (tv : Value) (B : Nat) (e : Ending) (w' : World) : Prop :=
  ∃ r, e = .returned (.tuple #[r, .bool o.isSome]) ∧ OwnX X w' B EO EI r (o.getD []) ∧ (∀ b, r.ownBlock = some b → tv.ownBlock = some b ∨ w.heap.size ≤ b) ∧ KeptBut w w' tv.ownBlock
end Go.Proofs.YthpbeiihlembnaaDoor
