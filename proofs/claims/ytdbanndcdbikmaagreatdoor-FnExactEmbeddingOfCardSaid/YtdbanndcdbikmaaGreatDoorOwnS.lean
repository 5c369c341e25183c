/- A list of rows that is built by append and only read: the array is the call's own, the rows lie anywhere else. -/
import Derived.Test.YtdbanndcdbikmaaGreatDoorLoopL
import Derived.Test.YtdbanndcdbikmaaGreatDoorLaws
namespace Go.Proofs.YtdbanndcdbikmaaGreatDoor
open Go.RowKit
/-- Blocks from B on, off the array of u. -/
def OffB (w : World) (B : Nat) (u : Value) (b : Nat) : Prop := B ≤ b ∧ b < w.heap.size ∧ u.ownBlock ≠ some b
def OwnS (w : World) (B : Nat) (EO : TypeId) (u : Value) (g : List (List Int)) : Prop :=
  ∃ vs : List Value, vs.length = g.length ∧ Own w B EO 1 u g.length vs ∧ ∀ i (h : i < g.length) (h2 : i < vs.length), SlI (OffB w B u) w .i64 vs[i] g[i]
theorem OwnS.nil (w : World) (B : Nat) (EO : TypeId) {u : Value} (h : Own w B EO 1 u 0 []) : OwnS w B EO u [] := ⟨[], rfl, h, fun i h => by simp at h⟩
theorem OwnS.empty (w : World) (B : Nat) (EO : TypeId) (hB : B ≤ w.heap.size) : OwnS (w.alloc (.cells #[] EO)) B EO (.slice (some ⟨w.heap.size, 0, none⟩) 0 0) [] := by
  have := World.ownsRow_lit (base := B) (e := EO) (size := 1) w #[] 0 hB (by unfold maxLen; omega) rfl
  exact .nil _ _ _ (by simpa [Own] using this)
theorem OwnS.below {w w' : World} {B B1 : Nat} {EO : TypeId} {u : Value} {g : List (List Int)} (h : OwnS w B EO u g) (hb : Below B1 w w') (hB : w.heap.size ≤ B1) : OwnS w' B EO u g := by
  obtain ⟨vs, h1, h2, h3⟩ := h
  exact ⟨vs, h1, h2.below hb hB, fun i hi hi2 => ((h3 i hi hi2).below hb hB).weak fun b hb2 => ⟨hb2.1, Nat.lt_of_lt_of_le hb2.2.1 hb.size, hb2.2.2⟩⟩
theorem OwnS.keepB {w w' : World} {B : Nat} {EO : TypeId} {u : Value} {g : List (List Int)} (h : OwnS w B EO u g) (hk : ∀ b, B ≤ b → b < w.heap.size → w'.heap[b]? = w.heap[b]?) (hs : w.heap.size ≤ w'.heap.size) : OwnS w' B EO u g := by
  obtain ⟨vs, h1, h2, h3⟩ := h
  exact ⟨vs, h1, h2.keep fun b hb => hk b (h2.lt b hb).1 (h2.lt b hb).2, fun i hi hi2 => ((h3 i hi hi2).keep fun b hb => hk b hb.1 hb.2.1).weak fun b hb => ⟨hb.1, Nat.lt_of_lt_of_le hb.2.1 hs, hb.2.2⟩⟩
theorem OwnS.drawn {w w' : World} {B : Nat} {EO : TypeId} {u : Value} {g : List (List Int)} (h : OwnS w B EO u g) (hb : Drawn w w') : OwnS w' B EO u g := h.below (hb.below w.heap.size) (Nat.le_refl _)
theorem OwnS.weak {w : World} {B B' : Nat} {EO : TypeId} {u : Value} {g : List (List Int)} (h : OwnS w B EO u g) (hB : B' ≤ B) : OwnS w B' EO u g := by
  obtain ⟨vs, h1, h2, h3⟩ := h
  exact ⟨vs, h1, h2.weak hB, fun i hi hi2 => (h3 i hi hi2).weak fun b hb => ⟨Nat.le_trans hB hb.1, hb.2⟩⟩
theorem OwnS.isSlice {w : World} {B : Nat} {EO : TypeId} {u : Value} {g : List (List Int)} (h : OwnS w B EO u g) : ∃ a c, u = .slice a g.length c := by
  obtain ⟨vs, h1, h2, h3⟩ := h; exact h2.isSlice
theorem OwnS.rows {w : World} {B : Nat} {EO : TypeId} {u : Value} {g : List (List Int)} (h : OwnS w B EO u g) (hg : g.length ≤ 9223372036854775807) : SlR (fun b => b < w.heap.size) w u g := by
  obtain ⟨vs, h1, h2, h3⟩ := h
  exact RowsTo.rows (vs := vs) ⟨by omega, fun i hi hi2 => (h3 i hi2 hi).weak fun b hb => hb.2.1⟩ h1 (fun b hb => (h2.lt b hb).2) h2 hg
theorem OwnS.rowsB {w : World} {B : Nat} {EO : TypeId} {u : Value} {g : List (List Int)} (h : OwnS w B EO u g) (hg : g.length ≤ 9223372036854775807) : SlR (fun b => B ≤ b ∧ b < w.heap.size) w u g := by
  obtain ⟨vs, h1, h2, h3⟩ := h
  exact RowsTo.rows (vs := vs) ⟨by omega, fun i hi hi2 => (h3 i hi2 hi).weak fun b hb => ⟨hb.1, hb.2.1⟩⟩ h1 (fun b hb => h2.lt b hb) h2 hg
/-- Old blocks off the array of u, as u grows. -/
def Off1 (w : World) (u : Value) (b : Nat) : Prop := b < w.heap.size ∧ u.ownBlock ≠ some b
theorem Off1.app {w w' M : World} {u u' : Value} (hk : KeptBut w w' u.ownBlock) (hm : Moved M u u') (hM : w.heap.size ≤ M.heap.size) {b : Nat} (h : Off1 w u b) : Off1 w' u' b := ⟨Nat.lt_of_lt_of_le h.1 hk.2.2.2.1, fun e => by
    rcases hm with h2 | h2
    · rw [h2] at e; exact h.2 e
    · rw [h2] at e; have := h.1; simp at e; omega⟩
theorem SlR.offApp {w w' M : World} {u u' v : Value} {g : List (List Int)} (h : SlR (Off1 w u) w v g) (hk : KeptBut w w' u.ownBlock) (hm : Moved M u u') (hM : w.heap.size ≤ M.heap.size) : SlR (Off1 w' u') w' v g :=
  (h.keep fun b hb => hk.2.2.2.2 b hb.1 (fun e => hb.2 e.symm)).weak fun b hb => hb.app hk hm hM
theorem SlI.offApp {w w' M : World} {u u' v : Value} {k : IntKind} {g : List Int} (h : SlI (Off1 w u) w k v g) (hk : KeptBut w w' u.ownBlock) (hm : Moved M u u') (hM : w.heap.size ≤ M.heap.size) : SlI (Off1 w' u') w' k v g :=
  (h.keep fun b hb => hk.2.2.2.2 b hb.1 (fun e => hb.2 e.symm)).weak fun b hb => hb.app hk hm hM
theorem SlR.offBelow {w w' : World} {u v : Value} {g : List (List Int)} (h : SlR (Off1 w u) w v g) (hb : Below w.heap.size w w') : SlR (Off1 w' u) w' v g := (h.below hb (Nat.le_refl _)).weak fun _ h => ⟨Nat.lt_of_lt_of_le h.1 hb.size, h.2⟩
theorem SlI.offBelow {w w' : World} {u v : Value} {k : IntKind} {g : List Int} (h : SlI (Off1 w u) w k v g) (hb : Below w.heap.size w w') : SlI (Off1 w' u) w' k v g := (h.below hb (Nat.le_refl _)).weak fun _ h => ⟨Nat.lt_of_lt_of_le h.1 hb.size, h.2⟩
/-- append(s, x, y), two elements of one cell each. -/
theorem opWp_append2 {P : Program} {w : World} {T E : TypeId} {bytes : Nat} {z : Value} (hE : Elem P T E 1 bytes z) {B : Nat}
    {o : Oper} {a : Act} {K : Act → World → Prop} {Q : Exit → Act → World → Prop} (s x : Operand)
    (ho : o.op = .call { callee := .builtin .append, args := #[s, x], argTypes := #[T, T] })
    {v : Value} {n : Nat} {xs : List Value} (hown : Own w B E 1 v n xs) (hs : a.eval s = v) {u1 u2 : Value} {nb : Nat} (hnb : nb = w.heap.size)
    (hx : a.eval x = .slice (some ⟨nb, 0, none⟩) 2 2) (h1 : u1.oneCell' = true) (h2 : u2.oneCell' = true)
    (h63 : n + 2 ≤ 1099511627) (hbase : B ≤ w.heap.size)
    (h : ∀ v' w', Own w' B E 1 v' (n + 2) (xs ++ [u1, u2]) → KeptBut w w' v.ownBlock → Moved (w.alloc (.cells #[u1, u2] E)) v v' → K (a.put o.dst v') w') : o.wp P a (w.alloc (.cells #[u1, u2] E)) K Q := by
  subst hnb
  obtain ⟨v', w', hr, h2, h3, h4⟩ := append_run (w := w.alloc (.cells #[u1, u2] E)) (ty := o.type) hE v n xs (World.ownsRow.alloc hown _) ⟨w.heap.size, 0, none⟩ 2 2 [u1, u2] rfl (fun j u' hj => by
      match j, hj with
      | 0, hj => simp at hj; subst hj; simp [Addr.add]
      | 1, hj => simp at hj; subst hj; simp [Addr.add])
    (fun u' hu' => by
      rcases List.mem_cons.1 hu' with rfl | hu'
      · exact h1
      · simp at hu'; subst hu'; exact h2) h63 (by simp; omega)
  unfold Oper.wp execOp
  simp only [ho, resolve, invoke, builtin, Sem.run_bind, Sem.run_pure, Result.andThen_ok, List.map_toArray, List.map_cons, List.map_nil, hs, hx, hr]
  exact h v' w' h2 (.alloc h3) h4
/-- A pair of numbers, just laid. -/
theorem lit2 (w : World) (E : TypeId) (x y : Int) {N : Nat} (hN : N ≤ w.heap.size) : Below w.heap.size w (w.alloc (.cells #[.int .i64 x, .int .i64 y] E)) ∧ SlI (fun b => N ≤ b) (w.alloc (.cells #[.int .i64 x, .int .i64 y] E)) .i64 (.slice (some ⟨w.heap.size, 0, none⟩) 2 2) [x, y] := by
  refine ⟨(Below.refl _ _).alloc (Nat.le_refl _) _, ⟨_, w.heap.size, 0, 2, rfl, by simp, fun _ => ⟨rfl, hN⟩, fun i hi => ?_⟩⟩
  match i, hi with
  | 0, _ => simp [go_sem]
  | 1, _ => simp [go_sem]
/-- Rows more, laid behind all that was. -/
theorem OwnS.app {w w' M : World} {B : Nat} {EO : TypeId} {u u' : Value} {g g2 : List (List Int)} {vs news : List Value} (hl : vs.length = g.length) (hl2 : news.length = g2.length) (hrow : ∀ i (h : i < g.length) (h2 : i < vs.length), SlI (OffB w B u) w .i64 vs[i] g[i])
    (hnew : ∀ i (h : i < g2.length) (h2 : i < news.length), SlI (OffB w B u) w .i64 news[i] g2[i]) (hown : Own w' B EO 1 u' (g.length + g2.length) (vs ++ news)) (hk : KeptBut w w' u.ownBlock) (hm : Moved M u u') (hM : w.heap.size ≤ M.heap.size) : OwnS w' B EO u' (g ++ g2) := by
  have ho : ∀ b, OffB w B u b → OffB w' B u' b := fun b hb => ⟨hb.1, Off1.app hk hm hM hb.2⟩
  have hke : ∀ {v : Value} {xs : List Int}, SlI (OffB w B u) w .i64 v xs → SlI (OffB w' B u') w' .i64 v xs := fun h => (h.keep fun b hb => hk.2.2.2.2 b hb.2.1 (fun e => hb.2.2 e.symm)).weak ho
  refine ⟨vs ++ news, by simp [hl, hl2], by rw [List.length_append]; exact hown, fun i hi hi2 => ?_⟩
  by_cases e : i < g.length
  · rw [List.getElem_append_left e, List.getElem_append_left (by omega)]
    exact hke (hrow i e (by omega))
  · rw [List.getElem_append_right (by omega), List.getElem_append_right (by omega)]
    simp only [hl]
    exact hke (hnew _ (by simp at hi; omega) (by simp at hi; omega))
/-- A literal of numbers, just laid. -/
theorem SlI.lit (w : World) (E : TypeId) (xs : List Int) (n : Nat) (hn : n = xs.length) (h0 : 0 < n) (h : n ≤ 9223372036854775807) : SlI (fun b => b = w.heap.size) (w.alloc (.cells (xs.map (Value.int .i64)).toArray E)) .i64 (.slice (some ⟨w.heap.size, 0, none⟩) n n) xs := by
  subst hn
  refine ⟨_, w.heap.size, 0, xs.length, rfl, ⟨Nat.le_refl _, h⟩, fun _ => ⟨rfl, rfl⟩, fun i hi => ?_⟩
  simp [go_sem, hi]
end Go.Proofs.YtdbanndcdbikmaaGreatDoor
