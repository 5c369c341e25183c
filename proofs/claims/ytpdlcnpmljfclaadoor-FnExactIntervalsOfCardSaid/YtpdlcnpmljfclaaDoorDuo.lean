/- Two lists of rows that grow side by side. -/
import Derived.Test.YtpdlcnpmljfclaaDoorOwnS
import Derived.Test.YtpdlcnpmljfclaaDoorInto2
namespace Go.Proofs.YtpdlcnpmljfclaaDoor
open Go.RowKit
/-- Blocks from B on, off both arrays. -/
def OffD (w : World) (B : Nat) (u v : Value) (b : Nat) : Prop := B ≤ b ∧ b < w.heap.size ∧ u.ownBlock ≠ some b ∧ v.ownBlock ≠ some b
def Duo (w : World) (B : Nat) (EO : TypeId) (u v : Value) (g h : List (List Int)) : Prop :=
  (∃ vs : List Value, vs.length = g.length ∧ Own w B EO 1 u g.length vs ∧ ∀ i (h : i < g.length) (h2 : i < vs.length), SlI (OffD w B u v) w .i64 vs[i] g[i]) ∧
  (∃ vs : List Value, vs.length = h.length ∧ Own w B EO 1 v h.length vs ∧ ∀ i (h' : i < h.length) (h2 : i < vs.length), SlI (OffD w B u v) w .i64 vs[i] h[i]) ∧ ∀ b, u.ownBlock = some b → v.ownBlock ≠ some b
theorem OffD.swap {w : World} {B : Nat} {u v : Value} {b : Nat} (h : OffD w B u v b) : OffD w B v u b := ⟨h.1, h.2.1, h.2.2.2, h.2.2.1⟩
theorem Duo.swap {w : World} {B : Nat} {EO : TypeId} {u v : Value} {g h : List (List Int)} (d : Duo w B EO u v g h) : Duo w B EO v u h g := by
  obtain ⟨⟨vs, a1, a2, a3⟩, ⟨ws, b1, b2, b3⟩, h3⟩ := d
  exact ⟨⟨ws, b1, b2, fun i h1 h2 => (b3 i h1 h2).weak fun _ h => h.swap⟩, ⟨vs, a1, a2, fun i h1 h2 => (a3 i h1 h2).weak fun _ h => h.swap⟩, fun b hb hb2 => h3 b hb2 hb⟩
theorem OffD.below {w w' : World} {B : Nat} {u v : Value} {b : Nat} (h : OffD w B u v b) (hs : w.heap.size ≤ w'.heap.size) : OffD w' B u v b := ⟨h.1, Nat.lt_of_lt_of_le h.2.1 hs, h.2.2⟩
theorem Duo.below {w w' : World} {B B1 : Nat} {EO : TypeId} {u v : Value} {g h : List (List Int)} (d : Duo w B EO u v g h) (hb : Below B1 w w') (hB : w.heap.size ≤ B1) : Duo w' B EO u v g h := by
  obtain ⟨⟨vs, a1, a2, a3⟩, ⟨ws, b1, b2, b3⟩, h3⟩ := d
  exact ⟨⟨vs, a1, a2.below hb hB, fun i h1 h2 => ((a3 i h1 h2).below hb hB).weak fun _ h => h.below hb.size⟩, ⟨ws, b1, b2.below hb hB, fun i h1 h2 => ((b3 i h1 h2).below hb hB).weak fun _ h => h.below hb.size⟩, h3⟩
theorem SlI.offDB {w w' : World} {B : Nat} {u v x : Value} {k : IntKind} {xs : List Int} (h : SlI (OffD w B u v) w k x xs) (hb : Below w.heap.size w w') : SlI (OffD w' B u v) w' k x xs := (h.below hb (Nat.le_refl _)).weak fun _ h => h.below hb.size
theorem Duo.isSlice {w : World} {B : Nat} {EO : TypeId} {u v : Value} {g h : List (List Int)} (d : Duo w B EO u v g h) : (∃ a c, u = .slice a g.length c) ∧ ∃ a c, v = .slice a h.length c := by
  obtain ⟨⟨vs, a1, a2, a3⟩, ⟨ws, b1, b2, b3⟩, h3⟩ := d
  exact ⟨a2.isSlice, b2.isSlice⟩
theorem Duo.lt {w : World} {B : Nat} {EO : TypeId} {u v : Value} {g h : List (List Int)} (d : Duo w B EO u v g h) : (∀ b, u.ownBlock = some b → B ≤ b ∧ b < w.heap.size) ∧ ∀ b, v.ownBlock = some b → B ≤ b ∧ b < w.heap.size := by
  obtain ⟨⟨vs, a1, a2, a3⟩, ⟨ws, b1, b2, b3⟩, h3⟩ := d
  exact ⟨fun b hb => a2.lt b hb, fun b hb => b2.lt b hb⟩
theorem Duo.size {w : World} {B : Nat} {EO : TypeId} {u v : Value} {g h : List (List Int)} (d : Duo w B EO u v g h) (hg : 0 < g.length) : B ≤ w.heap.size := by
  obtain ⟨⟨vs, a1, a2, a3⟩, -⟩ := d
  obtain ⟨gg, cc, ee⟩ := own_some a2 hg
  rw [ee] at a2
  have := a2.lt gg rfl
  omega
theorem Duo.rowsL {w : World} {B : Nat} {EO : TypeId} {u v : Value} {g h : List (List Int)} (d : Duo w B EO u v g h) (hg : g.length ≤ 9223372036854775807) : SlR (fun b => b < w.heap.size) w u g := by
  obtain ⟨⟨vs, a1, a2, a3⟩, ⟨ws, b1, b2, b3⟩, h3⟩ := d
  exact RowsTo.rows (vs := vs) ⟨by omega, fun i hi hi2 => (a3 i hi2 hi).weak fun b hb => hb.2.1⟩ a1 (fun b hb => (a2.lt b hb).2) a2 hg
theorem Duo.rowsR {w : World} {B : Nat} {EO : TypeId} {u v : Value} {g h : List (List Int)} (d : Duo w B EO u v g h) (hg : h.length ≤ 9223372036854775807) : SlR (fun b => b < w.heap.size) w v h := d.swap.rowsL hg
/-- A step that grows the one array. -/
def StepD (w w' : World) (u u' : Value) : Prop := KeptBut w w' u.ownBlock ∧ ∀ b, u'.ownBlock = some b → u.ownBlock = some b ∨ w.heap.size ≤ b
theorem OffD.left {w w' : World} {B : Nat} {u u' v : Value} {b : Nat} (s : StepD w w' u u') (h : OffD w B u v b) : OffD w' B u' v b := ⟨h.1, Nat.lt_of_lt_of_le h.2.1 s.1.2.2.2.1, fun e => (s.2 b e).elim h.2.2.1 (fun h2 => by have := h.2.1; omega), h.2.2.2⟩
theorem SlI.offL {w w' : World} {B : Nat} {u u' v x : Value} {k : IntKind} {xs : List Int} (h : SlI (OffD w B u v) w k x xs) (s : StepD w w' u u') : SlI (OffD w' B u' v) w' k x xs := (h.keep fun b hb => s.1.2.2.2.2 b hb.2.1 (fun e => hb.2.2.1 e.symm)).weak fun _ h => h.left s
theorem SlI.offR {w w' : World} {B : Nat} {u v v' x : Value} {k : IntKind} {xs : List Int} (h : SlI (OffD w B u v) w k x xs) (s : StepD w w' v v') : SlI (OffD w' B u v') w' k x xs := ((h.weak fun _ h => h.swap).offL s).weak fun _ h => h.swap
theorem StepD.below {w w' : World} {u u' : Value} {B N : Nat} {EO : TypeId} {v : Value} {g h : List (List Int)} {w0 : World} (s : StepD w w' u u') (d : Duo w B EO u v g h) (hB : N ≤ B) (hb : Below N w0 w) (hN : N ≤ w.heap.size) : Below N w0 w' := s.1.below hb hN (fun b hb => Nat.le_trans hB (d.lt.1 b hb).1)
theorem StepD.cell {w w' : World} {u u' : Value} {B : Nat} {EO : TypeId} {v : Value} {g h : List (List Int)} (s : StepD w w' u u') (d : Duo w B EO u v g h) {b i : Nat} {x : Value} (hb : b < B) (hc : w.cell? ⟨b, i, none⟩ = some x) : w'.cell? ⟨b, i, none⟩ = some x :=
  (World.cell?_of_block (a := ⟨b, i, none⟩) (s.1.2.2.2.2 b (cell_lt hc) (fun e => by have := (d.lt.1 b e.symm).1; omega))).trans hc
/-- The one array with rows more. -/
theorem Duo.left {w w' : World} {B : Nat} {EO : TypeId} {u u' v : Value} {g h g2 : List (List Int)} {vs news : List Value} (d : Duo w B EO u v g h) (hl : vs.length = g.length) (hl2 : news.length = g2.length) (hrow : ∀ i (h : i < g.length) (h2 : i < vs.length), SlI (OffD w B u v) w .i64 vs[i] g[i])
    (hnew : ∀ i (h : i < g2.length) (h2 : i < news.length), SlI (OffD w B u v) w .i64 news[i] g2[i]) (hown : Own w' B EO 1 u' (g.length + g2.length) (vs ++ news)) (s : StepD w w' u u') : Duo w' B EO u' v (g ++ g2) h := by
  obtain ⟨-, ⟨ws, b1, b2, b3⟩, h3⟩ := d
  refine ⟨⟨vs ++ news, by simp [hl, hl2], by rw [List.length_append]; exact hown, fun i hi hi2 => ?_⟩, ⟨ws, b1, b2.keep fun b hb => s.1.2.2.2.2 b (b2.lt b hb).2 (fun e => h3 b e.symm hb), fun i h1 h2 => (b3 i h1 h2).offL s⟩, fun b hb hb2 => (s.2 b hb).elim (fun e => h3 b e hb2) (fun e => by have := (b2.lt b hb2).2; omega)⟩
  by_cases e : i < g.length
  · rw [List.getElem_append_left e, List.getElem_append_left (by omega)]
    exact (hrow i e (by omega)).offL s
  · rw [List.getElem_append_right (by omega), List.getElem_append_right (by omega)]
    simp only [hl]
    exact (hnew _ (by simp at hi; omega) (by simp at hi; omega)).offL s
/-- One pair more, the row laid first. -/
theorem Duo.add1 {w : World} {B n : Nat} {E1 EO : TypeId} {u v : Value} {g h : List (List Int)} (d : Duo w B EO u v g h) (y z : Int) (hn : n = w.heap.size) (hB : B ≤ w.heap.size) :
    ∃ vs : List Value, Own (w.alloc (.cells #[.int .i64 y, .int .i64 z] E1)) B EO 1 u g.length vs ∧ ∀ v' w', Own w' B EO 1 v' (g.length + 1) (vs ++ [.slice (some ⟨n, 0, none⟩) 2 2]) → KeptBut (w.alloc (.cells #[.int .i64 y, .int .i64 z] E1)) w' u.ownBlock →
      Moved ((w.alloc (.cells #[.int .i64 y, .int .i64 z] E1)).alloc (.cells #[.slice (some ⟨n, 0, none⟩) 2 2] EO)) u v' → StepD w w' u v' ∧ Duo w' B EO v' v (g ++ [[y, z]]) h := by
  subst hn
  have hb : Below w.heap.size w (w.alloc (.cells #[.int .i64 y, .int .i64 z] E1)) := (Below.refl _ _).alloc (Nat.le_refl _) _
  have d1 := d.below hb (Nat.le_refl _)
  obtain ⟨⟨vs, a1, a2, a3⟩, d2⟩ := d1
  refine ⟨vs, a2, fun v' w' ho hk hm => ?_⟩
  have hs1 : StepD (w.alloc (.cells #[.int .i64 y, .int .i64 z] E1)) w' u v' := ⟨hk, fun b hb => hm.elim (fun h => .inl (by rw [← h]; exact hb)) (fun h => .inr (by rw [h] at hb; have e : _ = b := Option.some.inj hb; rw [← e]; simp))⟩
  have hrow : SlI (OffD (w.alloc (.cells #[.int .i64 y, .int .i64 z] E1)) B u v) (w.alloc (.cells #[.int .i64 y, .int .i64 z] E1)) .i64 (.slice (some ⟨w.heap.size, 0, none⟩) 2 2) [y, z] := by
    refine (SlI.lit w E1 [y, z] 2 rfl (by omega) (by omega)).weak fun b hb => ?_
    subst hb
    exact ⟨hB, by simp, fun e => by have := (d.lt.1 _ e).2; omega, fun e => by have := (d.lt.2 _ e).2; omega⟩
  refine ⟨⟨⟨hk.1.trans hb.os, hk.2.1.trans hb.tape, hk.2.2.1.trans hb.output, Nat.le_trans hb.size hk.2.2.2.1, fun k hk2 hne => (hk.2.2.2.2 k (Nat.lt_of_lt_of_le hk2 hb.size) hne).trans (hb.block k hk2)⟩, fun b hb2 => (hs1.2 b hb2).imp_right (fun h => Nat.le_trans hb.size h)⟩, Duo.left (news := [.slice (some ⟨w.heap.size, 0, none⟩) 2 2]) ⟨⟨vs, a1, a2, a3⟩, d2⟩ a1 rfl a3 (fun i h1 h2 => ?_) ho hs1⟩
  have : i = 0 := by simp at h1; exact h1
  subst this
  exact hrow
/-- append(s, x, y), two elements of one cell each, in a list of operations. -/
theorem wpList_append2 {P : Program} {w : World} {T E : TypeId} {bytes : Nat} {z : Value} (hE : Elem P T E 1 bytes z) {B : Nat}
    {ops : Array Oper} {rest : List Oper} {o : Oper} {a : Act} {Q : Exit → Act → World → Prop} (hgd : o.guard = none) (s x : Operand)
    (ho : o.op = .call { callee := .builtin .append, args := #[s, x], argTypes := #[T, T] })
    {v : Value} {n : Nat} {xs : List Value} (hown : Own w B E 1 v n xs) (hs : a.eval s = v) {u1 u2 : Value} {nb : Nat} (hnb : nb = w.heap.size)
    (hx : a.eval x = .slice (some ⟨nb, 0, none⟩) 2 2) (h1 : u1.oneCell' = true) (h2 : u2.oneCell' = true)
    (h63 : n + 2 ≤ 1099511627) (hbase : B ≤ w.heap.size)
    (h : ∀ v' w', Own w' B E 1 v' (n + 2) (xs ++ [u1, u2]) → KeptBut w w' v.ownBlock → Moved (w.alloc (.cells #[u1, u2] E)) v v' → wpList P ops Q rest (a.put o.dst v') w') : wpList P ops Q (o :: rest) a (w.alloc (.cells #[u1, u2] E)) := by
  subst hnb
  exact wpList_append hE hgd s x ho (World.ownsRow.alloc hown _) hs hx (news := [u1, u2]) rfl (fun j u' hj => by
      match j, hj with
      | 0, hj => simp at hj; subst hj; simp [Addr.add]
      | 1, hj => simp at hj; subst hj; simp [Addr.add])
    (fun u' hu' => by simp at hu'; rcases hu' with rfl | rfl <;> assumption) h63 (by simp; omega) (fun v' w' h2 h3 h4 => h v' w' h2 (.alloc h3) h4)
/-- A row just laid. -/
theorem Duo.lay {w : World} {B : Nat} {E1 EO : TypeId} {u v : Value} {g h : List (List Int)} (d : Duo w B EO u v g h) (hB : B ≤ w.heap.size) (y z : Int) : Below w.heap.size w (w.alloc (.cells #[.int .i64 y, .int .i64 z] E1)) ∧ SlI (OffD (w.alloc (.cells #[.int .i64 y, .int .i64 z] E1)) B u v) (w.alloc (.cells #[.int .i64 y, .int .i64 z] E1)) .i64 (.slice (some ⟨w.heap.size, 0, none⟩) 2 2) [y, z] := by
  refine ⟨(Below.refl _ _).alloc (Nat.le_refl _) _, (SlI.lit w E1 [y, z] 2 rfl (by omega) (by omega)).weak fun b hb => ?_⟩
  subst hb
  exact ⟨hB, by simp, fun e => by have := (d.lt.1 _ e).2; omega, fun e => by have := (d.lt.2 _ e).2; omega⟩
/-- Two rows more. -/
theorem Duo.add2 {w : World} {B : Nat} {EO : TypeId} {u v r1 r2 : Value} {g h : List (List Int)} {x1 x2 : List Int} (d : Duo w B EO u v g h) (h1 : SlI (OffD w B u v) w .i64 r1 x1) (h2 : SlI (OffD w B u v) w .i64 r2 x2) :
    ∃ vs : List Value, Own w B EO 1 v h.length vs ∧ ∀ v' w' M, Own w' B EO 1 v' (h.length + 2) (vs ++ [r1, r2]) → KeptBut w w' v.ownBlock → Moved M v v' → w.heap.size ≤ M.heap.size → StepD w w' v v' ∧ Duo w' B EO u v' g (h ++ [x1, x2]) := by
  obtain ⟨⟨vs, a1, a2, a3⟩, d2⟩ := d.swap
  refine ⟨vs, a2, fun v' w' M ho hk hm hM => ?_⟩
  have hst : StepD w w' v v' := ⟨hk, fun b hb => hm.elim (fun h => .inl (by rw [← h]; exact hb)) (fun h => .inr (by rw [h] at hb; have e : _ = b := Option.some.inj hb; omega))⟩
  refine ⟨hst, (Duo.left (news := [r1, r2]) ⟨⟨vs, a1, a2, a3⟩, d2⟩ a1 rfl a3 (fun i g1 g2 => ?_) ho hst).swap⟩
  match i, g1 with
  | 0, _ => exact h1.weak fun b hb => hb.swap
  | 1, _ => exact h2.weak fun b hb => hb.swap
/-- Both lists as they begin: one pair; the pair and the same turned. -/
theorem Duo.start {w : World} {B n : Nat} {E1 EO : TypeId} (y z : Int) (hn : n = w.heap.size) (hB : B ≤ w.heap.size) :
    Duo (((((w.alloc (.cells #[.int .i64 y, .int .i64 z] E1)).alloc (.cells #[.slice (some ⟨n, 0, none⟩) 2 2] EO)).alloc (.cells #[.int .i64 y, .int .i64 z] E1)).alloc (.cells #[.int .i64 z, .int .i64 y] E1)).alloc (.cells #[.slice (some ⟨n + 2, 0, none⟩) 2 2, .slice (some ⟨n + 3, 0, none⟩) 2 2] EO)) B EO (.slice (some ⟨n + 1, 0, none⟩) 1 1) (.slice (some ⟨n + 4, 0, none⟩) 2 2) [[y, z]] [[y, z], [z, y]] := by
  subst hn
  obtain ⟨w1, hw1⟩ : ∃ w1, w1 = w.alloc (.cells #[.int .i64 y, .int .i64 z] E1) := ⟨_, rfl⟩
  have hs1 : w1.heap.size = w.heap.size + 1 := by rw [hw1]; simp
  have hr1 : SlI (fun b => b = w.heap.size) w1 .i64 (.slice (some ⟨w.heap.size, 0, none⟩) 2 2) [y, z] := by rw [hw1]; exact SlI.lit w E1 [y, z] 2 rfl (by omega) (by omega)
  rw [← hw1]
  have hb2 : Below w1.heap.size w1 (w1.alloc (.cells #[.slice (some ⟨w.heap.size, 0, none⟩) 2 2] EO)) := (Below.refl _ _).alloc (Nat.le_refl _) _
  have ho2 := World.ownsRow_lit (base := B) (e := EO) (size := 1) w1 #[.slice (some ⟨w.heap.size, 0, none⟩) 2 2] 1 (by omega) (by unfold maxLen; omega) rfl
  obtain ⟨w2, hw2⟩ : ∃ w2, w2 = w1.alloc (.cells #[.slice (some ⟨w.heap.size, 0, none⟩) 2 2] EO) := ⟨_, rfl⟩
  have hs2 : w2.heap.size = w.heap.size + 2 := by rw [hw2]; simp; omega
  rw [← hw2] at hb2 ho2 ⊢
  have hb3 : Below w2.heap.size w2 (w2.alloc (.cells #[.int .i64 y, .int .i64 z] E1)) := (Below.refl _ _).alloc (Nat.le_refl _) _
  have hr3 : SlI (fun b => b = w2.heap.size) (w2.alloc (.cells #[.int .i64 y, .int .i64 z] E1)) .i64 (.slice (some ⟨w2.heap.size, 0, none⟩) 2 2) [y, z] := SlI.lit w2 E1 [y, z] 2 rfl (by omega) (by omega)
  obtain ⟨w3, hw3⟩ : ∃ w3, w3 = w2.alloc (.cells #[.int .i64 y, .int .i64 z] E1) := ⟨_, rfl⟩
  have hs3 : w3.heap.size = w.heap.size + 3 := by rw [hw3]; simp; omega
  rw [← hw3] at hb3 hr3 ⊢
  have hb4 : Below w3.heap.size w3 (w3.alloc (.cells #[.int .i64 z, .int .i64 y] E1)) := (Below.refl _ _).alloc (Nat.le_refl _) _
  have hr4 : SlI (fun b => b = w3.heap.size) (w3.alloc (.cells #[.int .i64 z, .int .i64 y] E1)) .i64 (.slice (some ⟨w3.heap.size, 0, none⟩) 2 2) [z, y] := SlI.lit w3 E1 [z, y] 2 rfl (by omega) (by omega)
  obtain ⟨w4, hw4⟩ : ∃ w4, w4 = w3.alloc (.cells #[.int .i64 z, .int .i64 y] E1) := ⟨_, rfl⟩
  have hs4 : w4.heap.size = w.heap.size + 4 := by rw [hw4]; simp; omega
  rw [← hw4] at hb4 hr4 ⊢
  have hb5 : Below w4.heap.size w4 (w4.alloc (.cells #[.slice (some ⟨w.heap.size + 2, 0, none⟩) 2 2, .slice (some ⟨w.heap.size + 3, 0, none⟩) 2 2] EO)) := (Below.refl _ _).alloc (Nat.le_refl _) _
  have ho5 := World.ownsRow_lit (base := B) (e := EO) (size := 1) w4 #[.slice (some ⟨w.heap.size + 2, 0, none⟩) 2 2, .slice (some ⟨w.heap.size + 3, 0, none⟩) 2 2] 2 (by omega) (by unfold maxLen; omega) rfl
  obtain ⟨w5, hw5⟩ : ∃ w5, w5 = w4.alloc (.cells #[.slice (some ⟨w.heap.size + 2, 0, none⟩) 2 2, .slice (some ⟨w.heap.size + 3, 0, none⟩) 2 2] EO) := ⟨_, rfl⟩
  have hs5 : w5.heap.size = w.heap.size + 5 := by rw [hw5]; simp; omega
  rw [← hw5] at hb5 ho5 ⊢
  rw [hs1] at ho2
  rw [hs4] at ho5
  rw [hs2] at hr3
  rw [hs3] at hr4
  have hA := hb3.trans ((hb4.mono (by omega)).trans (hb5.mono (by omega)))
  have hoff : ∀ b, (b = w.heap.size ∨ b = w.heap.size + 2 ∨ b = w.heap.size + 3) → OffD w5 B (.slice (some ⟨w.heap.size + 1, 0, none⟩) 1 1) (.slice (some ⟨w.heap.size + 4, 0, none⟩) 2 2) b := fun b hb => ⟨by omega, by omega, fun e => by have e2 : w.heap.size + 1 = b := Option.some.inj e; omega, fun e => by have e2 : w.heap.size + 4 = b := Option.some.inj e; omega⟩
  refine ⟨⟨_, rfl, Own.below (by simpa [Own] using ho2) hA (Nat.le_refl _), fun i h1 h2 => ?_⟩, ⟨_, rfl, by simpa [Own] using ho5, fun i h1 h2 => ?_⟩, fun b hb hb2 => by have e1 : w.heap.size + 1 = b := Option.some.inj hb; have e2 : w.heap.size + 4 = b := Option.some.inj hb2; omega⟩
  · have : i = 0 := by simp at h1; exact h1
    subst this
    exact ((hr1.below hb2 (Nat.le_refl _)).below hA (Nat.le_refl _)).weak fun b hb => hoff b (.inl hb)
  · match i, h1 with
    | 0, _ => exact ((hr3.below hb4 (Nat.le_refl _)).below hb5 (Nat.le_refl _)).weak fun b hb => hoff b (.inr (.inl hb))
    | 1, _ => exact (hr4.below hb5 (Nat.le_refl _)).weak fun b hb => hoff b (.inr (.inr hb))
/-- l1Into of a list that is only read. -/
theorem intoD_any {S : Nat → Prop} {v : Value} {m x : Nat} {w : World} (hv : SlI S w .i64 v (bitsI m)) (hm : m < 4294967296) (hx : x < 32) :
    Calls Tryd.prog 68 #[v, .int .i64 (x : Int)] w fun e w' => ∃ u, e = .returned u ∧ SlI (fun b => S b ∨ w.heap.size ≤ b ∧ b < w'.heap.size) w' .i64 u (bitsI (m ||| bit x)) ∧ Below w.heap.size w w' := by
  by_cases h : m.testBit x = true
  · refine (l1Into_in hv (bitsI_sorted m) ((mem_bitsI hm).2 ⟨by omega, by simpa using h⟩)).mono ?_
    rintro e w' ⟨rfl, rfl⟩
    have e : m ||| bit x = m := by
      apply nat_ext
      intro i
      rw [Nat.testBit_or, testBit_bit]
      by_cases e : x = i
      · subst e; simp [h]
      · simp [e]
    exact ⟨v, rfl, by rw [e]; exact hv.weak fun b hb => .inl hb, Below.refl _ _⟩
  · refine (l1Into_any v (bitsI m) (x : Int) w hv (by have := bitsI_len m; omega) (bitsI_sorted m) (fun hh => h (by simpa using ((mem_bitsI hm).1 hh).2))).mono ?_
    rintro e w' ⟨u, k, rfl, hk, h1, h2, ho, hb⟩
    rw [bitsI_or hm hx h1 h2] at ho
    have hl : (bitsI m).length + 1 = (bitsI (m ||| bit x)).length := by
      rw [← bitsI_or hm hx h1 h2]
      simp [intoL]; omega
    rw [hl] at ho
    exact ⟨u, rfl, (ho.ints (by have := bitsI_len (m ||| bit x); omega)).weak fun b hb2 => .inr (ho.lt b hb2), hb⟩
end Go.Proofs.YtpdlcnpmljfclaaDoor
