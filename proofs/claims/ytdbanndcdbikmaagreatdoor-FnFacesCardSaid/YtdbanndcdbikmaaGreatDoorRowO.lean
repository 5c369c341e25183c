/- Own rows, whose blocks a set tells. -/
import Derived.Test.YtdbanndcdbikmaaGreatDoorMark4
namespace Go.Proofs.YtdbanndcdbikmaaGreatDoor
open Go.RowKit
theorem Own.atO {w : World} {B B1 : Nat} {E : TypeId} {size : Nat} {v : Value} {n : Nat} {xs : List Value} (h : Own w B E size v n xs) (h1 : ∀ k, v.ownBlock = some k → B1 ≤ k) : Own w B1 E size v n xs := by
  refine ⟨h.1, ?_⟩
  rcases h.2 with ⟨hv, hn⟩ | ⟨g, cap, cur, rfl, hb, rest⟩
  · exact .inl ⟨hv, hn⟩
  · exact .inr ⟨g, cap, cur, rfl, h1 g rfl, rest⟩
theorem Own.leO {w : World} {B : Nat} {E : TypeId} {v : Value} {n : Nat} {xs : List Value} (h : Own w B E 1 v n xs) : n ≤ 9223372036854775807 := by
  obtain ⟨g, cap, h | h, -⟩ := h.slice
  · omega
  · omega
def RowO (S : Nat → Prop) (w : World) (v : Value) (g : List (List Int)) : Prop :=
  ∃ vs : List Value, vs.length = g.length ∧ Own w 0 36 1 v g.length vs ∧ (∀ b, v.ownBlock = some b → S b) ∧ ApartL vs ∧
    ∀ i (h : i < g.length) (h2 : i < vs.length), Own w 0 2 1 vs[i] g[i].length (g[i].map (.int .i64)) ∧ (∀ b, vs[i].ownBlock = some b → S b ∧ v.ownBlock ≠ some b)
theorem RowO.keep {S : Nat → Prop} {w w' : World} {v : Value} {g : List (List Int)} (h : RowO S w v g) (hw : ∀ b, S b → w'.heap[b]? = w.heap[b]?) : RowO S w' v g := by
  obtain ⟨vs, h1, h2, h3, hap, h4⟩ := h
  exact ⟨vs, h1, h2.keep fun b hb => hw b (h3 b hb), h3, hap, fun i hi hi2 => ⟨(h4 i hi hi2).1.keep fun b hb => hw b ((h4 i hi hi2).2 b hb).1, (h4 i hi hi2).2⟩⟩
theorem RowO.weak {S S' : Nat → Prop} {w : World} {v : Value} {g : List (List Int)} (h : RowO S w v g) (hS : ∀ b, S b → S' b) : RowO S' w v g := by
  obtain ⟨vs, h1, h2, h3, hap, h4⟩ := h
  exact ⟨vs, h1, h2, fun b hb => hS b (h3 b hb), hap, fun i hi hi2 => ⟨(h4 i hi hi2).1, fun b hb => ⟨hS b ((h4 i hi hi2).2 b hb).1, ((h4 i hi hi2).2 b hb).2⟩⟩⟩
theorem RowO.below {S : Nat → Prop} {w w' : World} {B : Nat} {v : Value} {g : List (List Int)} (h : RowO S w v g) (hb : Below B w w') (hB : w.heap.size ≤ B) : RowO S w' v g := by
  obtain ⟨vs, h1, h2, h3, hap, h4⟩ := h
  exact ⟨vs, h1, h2.below hb hB, h3, hap, fun i hi hi2 => ⟨(h4 i hi hi2).1.below hb hB, (h4 i hi hi2).2⟩⟩
theorem RowO.drawn {S : Nat → Prop} {w w' : World} {v : Value} {g : List (List Int)} (h : RowO S w v g) (hw : Drawn w w') : RowO S w' v g := h.keep fun _ _ => by rw [hw.heap]
theorem RowO.slice {S : Nat → Prop} {w : World} {v : Value} {g : List (List Int)} (h : RowO S w v g) : ∃ a c, v = .slice a g.length c := by
  obtain ⟨vs, h1, h2, -⟩ := h
  exact h2.isSlice
theorem RowO.nil (S : Nat → Prop) (w : World) : RowO S w (.slice none 0 0) [] := ⟨[], rfl, Own.nil _ _ _ _, fun b hb => by simp [Value.ownBlock] at hb, ApartL.nil, fun i hi => by simp at hi⟩
theorem RowO.rows {S : Nat → Prop} {w : World} {v : Value} {g : List (List Int)} (h : RowO S w v g) : SlR S w v g := by
  obtain ⟨vs, h1, h2, h3, hap, h4⟩ := h
  have hr : RowsTo S w vs g := ⟨by omega, fun i hi hi2 => ((h4 i hi2 hi).1.ints (h4 i hi2 hi).1.leO).weak (fun b hb => ((h4 i hi2 hi).2 b hb).1)⟩
  exact hr.rows h1 (fun b hb => h3 b hb) h2 h2.leO
theorem OwnR.rowO {w : World} {B C : Nat} {u : Value} {g : List (List Int)} (h : OwnR w B C 36 2 u g) : RowO (fun b => B ≤ b ∧ b < C) w u g := by
  obtain ⟨vs, h1, h2, h3, hap, h4⟩ := h
  exact ⟨vs, h1, h2.weak (Nat.zero_le _), fun b hb => ⟨h2.ge b hb, h3 b hb⟩, hap, fun i hi hi2 => ⟨(h4 i hi hi2).1.weak (Nat.zero_le _), fun b hb => ⟨⟨(h4 i hi hi2).1.ge b hb, ((h4 i hi hi2).2 b hb).1⟩, ((h4 i hi hi2).2 b hb).2⟩⟩⟩
theorem RowO.ownR {S : Nat → Prop} {w : World} {B : Nat} {v : Value} {g : List (List Int)} (h : RowO S w v g) (hS : ∀ b, S b → B ≤ b) : OwnR w B w.heap.size 36 2 v g := by
  obtain ⟨vs, h1, h2, h3, hap, h4⟩ := h
  exact ⟨vs, h1, h2.atO fun b hb => hS b (h3 b hb), fun b hb => (h2.lt b hb).2, hap, fun i hi hi2 => ⟨(h4 i hi hi2).1.atO fun b hb => hS b ((h4 i hi hi2).2 b hb).1, fun b hb => ⟨((h4 i hi hi2).1.lt b hb).2, ((h4 i hi hi2).2 b hb).2⟩⟩⟩
end Go.Proofs.YtdbanndcdbikmaaGreatDoor
