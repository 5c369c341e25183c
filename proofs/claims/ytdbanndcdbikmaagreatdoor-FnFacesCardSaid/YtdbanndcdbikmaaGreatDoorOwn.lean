/- Slices that a call has made: reading, storing, appending; where the new array lies. -/
import Derived.Test.YtdbanndcdbikmaaGreatDoorBase
namespace Go.Proofs.YtdbanndcdbikmaaGreatDoor
open Go.RowKit

/-- A slice type and its element type. -/
structure Elem (P : Program) (T E : TypeId) (size bytes : Nat) (z : Value) : Prop where
  ht : P.underlying T = some (.slice E)
  hi : (P.info? E).map (fun i => (i.zero, i.size, i.bytes)) = some (some z, size, bytes)
  hz : z.cells.size = size
  hs : 0 < size
  hb : bytes ≤ 4096

/-- v is a slice of n elements of the call's own (its block from B on); its cells are xs. -/
def Own (w : World) (B : Nat) (E : TypeId) (size : Nat) (v : Value) (n : Nat) (xs : List Value) : Prop := w.ownsRow B E size v n xs

/-- Where the array lies behind an append: where it lay, or in the newest block. -/
def Moved (w : World) (v v' : Value) : Prop := v'.ownBlock = v.ownBlock ∨ v'.ownBlock = some w.heap.size

theorem append_run {P : Program} {w : World} {T ty E : TypeId} {size bytes : Nat} {z : Value} (hE : Elem P T E size bytes z) {B : Nat}
    (v : Value) (n : Nat) (xs : List Value) (hown : Own w B E size v n xs)
    (a : Addr) (m c : Nat) (news : List Value) (hl : news.length = m * size) (hnews : ∀ j u, news[j]? = some u → w.cell? (a.add j) = some u) (h1 : ∀ u ∈ news, u.oneCell' = true)
    (h63 : n + m ≤ 1099511627) (hbase : B ≤ w.heap.size) :
    ∃ v' w', (Builtin.append_ #[T, T] ty #[v, .slice (some a) m c]).run P w = .ok v' w' ∧ Own w' B E size v' (n + m) (xs ++ news) ∧ w.grownBy w' v.ownBlock ∧ Moved w v v' := by
  obtain ⟨i, hi, hzz⟩ := Option.map_eq_some_iff.1 hE.hi
  simp only [Prod.mk.injEq] at hzz
  obtain ⟨hz, hsz, hby⟩ := hzz
  have hbb := hE.hb
  have hbytes : (n + m) * i.bytes ≤ 140737488355328 := by
    rw [hby]
    have : (n + m) * bytes ≤ 1099511627 * 4096 := Nat.mul_le_mul h63 hbb
    omega
  have h63' : n + m ≤ maxLen := by unfold maxLen; omega
  obtain ⟨hlen, hown⟩ := hown
  have hll : (xs ++ news).length = (n + m) * size := by rw [List.length_append, hlen, hl, Nat.add_mul]
  have grown : ∀ (old : Nat), old < n + m → ∀ (row : Option Nat),
      Own (w.drew.alloc (.cells (xs.toArray ++ news.toArray ++ Builtin.zeroCells z.cells (grownCap w (n + m) old E - (n + m))) E)) B E size
        (.slice (some ⟨w.heap.size, 0, none⟩) (n + m) (grownCap w (n + m) old E)) (n + m) (xs ++ news) ∧
      w.grownBy (w.drew.alloc (.cells (xs.toArray ++ news.toArray ++ Builtin.zeroCells z.cells (grownCap w (n + m) old E - (n + m))) E)) row := by
    intro old ho row
    have hge := grownCap_ge w (n + m) old E
    have hcm : grownCap w (n + m) old E ≤ maxLen := grownCap_le_maxLen w (n + m) old E h63'
    refine ⟨⟨hll, .inr ⟨w.heap.size, _, _, rfl, hbase, heap_alloc_new w.drew _, hge, hcm, ?_, ?_⟩⟩, ⟨rfl, rfl, rfl, by simp, fun k hk _ => Below.heap_alloc w.drew _ k hk⟩⟩
    · simp only [Array.size_append, List.size_toArray, size_zeroCells, hE.hz, hlen, hl, ← Nat.add_mul]
      congr 1; omega
    · simp only [Array.toList_append, List.append_assoc]
      rw [← List.append_assoc, ← hll]
      exact List.take_left
  rcases hown with ⟨rfl, rfl⟩ | ⟨g, cap, cur, rfl, hbg, hg, hnc, hcm, hcs, htake⟩
  · have hx : xs = [] := List.eq_nil_of_length_eq_zero (by simpa using hlen)
    subst hx
    by_cases hm : m = 0
    · subst hm
      have hn : news = [] := List.eq_nil_of_length_eq_zero (by simpa using hl)
      subst hn
      refine ⟨.slice none 0 0, w, ?_, World.ownsRow_nil w B E size, ⟨rfl, rfl, rfl, Nat.le_refl _, fun _ _ _ => rfl⟩, .inl rfl⟩
      simp [Builtin.append_, run_underlying hE.ht, sizeOf, typeInfo, hi, Builtin.lenOf, Builtin.firstCells, loadCells, loadCellsFrom]
    · have hr := run_append_nil (P := P) w T ty E i z hE.ht hi hz a m c news (by rw [hl, hsz]) hnews (by omega) (by omega) (by have hb := hbytes; simp only [Nat.zero_add] at hb; omega)
      have hgr := grown 0 (by omega) (Value.ownBlock (.slice none 0 0))
      simp only [Nat.zero_add, List.nil_append, Array.empty_append] at hgr ⊢
      exact ⟨_, _, hr, hgr.1, hgr.2, .inr rfl⟩
  · by_cases hroom : n + m ≤ cap
    · have hfit : n * i.size + news.length ≤ cur.size := by rw [hl, hcs, hsz, ← Nat.add_mul]; exact Nat.mul_le_mul_right _ hroom
      have hr := run_append_room (P := P) w T ty E i hE.ht hi g n cap cur hg a m c news (by rw [hl, hsz]) hnews h1 hroom hfit
      refine ⟨_, _, hr, ⟨hll, .inr ⟨g, cap, _, rfl, hbg, setRow_heap w g cur _ E _ hg, hroom, hcm, ?_, ?_⟩⟩, ⟨rfl, rfl, rfl, by simp, fun k _ hk => setRow_other w g k _ (fun e => hk (by simp [Value.ownBlock, e]))⟩, .inl rfl⟩
      · simp only [List.size_toArray, List.length_append, List.length_take, List.length_drop, Array.length_toList]
        omega
      · rw [hsz, htake, ← hll]
        exact List.take_left
    · have holds : ∀ j u, xs[j]? = some u → w.cell? ((⟨g, 0, none⟩ : Addr).add j) = some u :=
        World.ownsRow.cells (base := B) (e := E) (size := size) (v := .slice (some ⟨g, 0, none⟩) n cap) (n := n) ⟨hlen, .inr ⟨g, cap, cur, rfl, hbg, hg, hnc, hcm, hcs, htake⟩⟩ (g := g) rfl
      have hr := run_append_grow (P := P) w T ty E i z hE.ht hi hz ⟨g, 0, none⟩ n cap xs (by rw [hlen, hsz]) holds a m c news (by rw [hl, hsz]) hnews (by omega) (by omega) (growslice_fits (by omega) hbytes)
      have hgr := grown cap (by omega) (Value.ownBlock (.slice (some ⟨g, 0, none⟩) n cap))
      exact ⟨_, _, hr, hgr.1, hgr.2, .inr rfl⟩

/-- append(s, x...) where x is empty. -/
theorem append_run0 {P : Program} {w : World} {T ty E : TypeId} {size bytes : Nat} {z : Value} (hE : Elem P T E size bytes z) {B : Nat}
    (v : Value) (n : Nat) (xs : List Value) (hown : Own w B E size v n xs) (a : Option Addr) (c : Nat) :
    (Builtin.append_ #[T, T] ty #[v, .slice a 0 c]).run P w = .ok v w := by
  obtain ⟨i, hi, _⟩ := Option.map_eq_some_iff.1 hE.hi
  rcases hown.2 with ⟨rfl, rfl⟩ | ⟨g, cap, cur, rfl, _, _, hnc, _⟩
  · cases a <;> simp [Builtin.append_, run_underlying hE.ht, sizeOf, typeInfo, hi, Builtin.lenOf, Builtin.firstCells, loadCells, loadCellsFrom]
  · cases a <;> simp [Builtin.append_, run_underlying hE.ht, sizeOf, typeInfo, hi, Builtin.lenOf, Builtin.firstCells, loadCells, loadCellsFrom, hnc, storeCells]
theorem wpList_append0 {P : Program} {w : World} {T E : TypeId} {size bytes : Nat} {z : Value} (hE : Elem P T E size bytes z) {B : Nat}
    {ops : Array Oper} {rest : List Oper} {o : Oper} {a : Act} {Q : Exit → Act → World → Prop} (hgd : o.guard = none) (s x : Operand)
    (ho : o.op = .call { callee := .builtin .append, args := #[s, x], argTypes := #[T, T] })
    {v : Value} {n : Nat} {xs : List Value} (hown : Own w B E size v n xs) (hs : a.eval s = v)
    {ad : Option Addr} {c : Nat} (hx : a.eval x = .slice ad 0 c) (h : wpList P ops Q rest (a.put o.dst v) w) : wpList P ops Q (o :: rest) a w :=
  wpList_plain hgd fun _ hK => by
    have hr := append_run0 (ty := o.type) hE v n xs hown ad c
    unfold Oper.wp execOp
    simp only [ho, resolve, invoke, builtin, Sem.run_bind, Sem.run_pure, Result.andThen_ok, List.map_toArray, List.map_cons, List.map_nil, hs, hx, hr]
    exact hK _ _ h

/-- append(s, x...) with x a slice whose cells are known. -/
theorem wpList_append {P : Program} {w : World} {T E : TypeId} {size bytes : Nat} {z : Value} (hE : Elem P T E size bytes z) {B : Nat}
    {ops : Array Oper} {rest : List Oper} {o : Oper} {a : Act} {Q : Exit → Act → World → Prop} (hgd : o.guard = none) (s x : Operand)
    (ho : o.op = .call { callee := .builtin .append, args := #[s, x], argTypes := #[T, T] })
    {v : Value} {n : Nat} {xs : List Value} (hown : Own w B E size v n xs) (hs : a.eval s = v)
    {ad : Addr} {m c : Nat} {news : List Value} (hx : a.eval x = .slice (some ad) m c) (hl : news.length = m * size) (hnews : ∀ j u, news[j]? = some u → w.cell? (ad.add j) = some u) (h1 : ∀ u ∈ news, u.oneCell' = true)
    (h63 : n + m ≤ 1099511627) (hbase : B ≤ w.heap.size)
    (h : ∀ v' w', Own w' B E size v' (n + m) (xs ++ news) → w.grownBy w' v.ownBlock → Moved w v v' → wpList P ops Q rest (a.put o.dst v') w') : wpList P ops Q (o :: rest) a w :=
  wpList_plain hgd fun _ hK => by
    obtain ⟨v', w', hr, h2, h3, h4⟩ := append_run (ty := o.type) hE v n xs hown ad m c news hl hnews h1 h63 hbase
    unfold Oper.wp execOp
    simp only [ho, resolve, invoke, builtin, Sem.run_bind, Sem.run_pure, Result.andThen_ok, List.map_toArray, List.map_cons, List.map_nil, hs, hx, hr]
    exact hK _ _ (h v' w' h2 h3 h4)

/-- Old blocks but the written one are as they were. -/
def KeptBut (w w' : World) (row : Option Nat) : Prop := w'.os = w.os ∧ w'.tape = w.tape ∧ w'.output = w.output ∧ w.heap.size ≤ w'.heap.size ∧ ∀ k, k < w.heap.size → some k ≠ row → w'.heap[k]? = w.heap[k]?
theorem KeptBut.of_grown {w w' : World} {row : Option Nat} (h : w.grownBy w' row) : KeptBut w w' row := ⟨h.os, h.tape, h.output, h.size, h.block⟩
theorem KeptBut.alloc {w w' : World} {row : Option Nat} {o : Obj} (h : (w.alloc o).grownBy w' row) : KeptBut w w' row :=
  ⟨h.os, h.tape, h.output, Nat.le_trans (by simp) h.size, fun k hk hr => (h.block k (by simp; omega) hr).trans (Below.heap_alloc w o k hk)⟩
theorem KeptBut.below {w0 w w' : World} {B : Nat} {row : Option Nat} (h : KeptBut w w' row) (hb : Below B w0 w) (hB : B ≤ w.heap.size) (hr : ∀ k, row = some k → B ≤ k) : Below B w0 w' :=
  hb.trans ⟨h.1, h.2.1, h.2.2.1, h.2.2.2.1, fun k hk => h.2.2.2.2 k (by omega) (fun e => by have := hr k e.symm; omega)⟩

/-- append(s, x), one element of one cell: the translation lays x in a block of its own first. -/
theorem wpList_append1 {P : Program} {w : World} {T E : TypeId} {bytes : Nat} {z : Value} (hE : Elem P T E 1 bytes z) {B : Nat}
    {ops : Array Oper} {rest : List Oper} {o : Oper} {a : Act} {Q : Exit → Act → World → Prop} (hgd : o.guard = none) (s x : Operand)
    (ho : o.op = .call { callee := .builtin .append, args := #[s, x], argTypes := #[T, T] })
    {v : Value} {n : Nat} {xs : List Value} (hown : Own w B E 1 v n xs) (hs : a.eval s = v) {u : Value}
    (hx : a.eval x = .slice (some ⟨w.heap.size, 0, none⟩) 1 1) (h1 : u.oneCell' = true)
    (h63 : n + 1 ≤ 1099511627) (hbase : B ≤ w.heap.size)
    (h : ∀ v' w', Own w' B E 1 v' (n + 1) (xs ++ [u]) → KeptBut w w' v.ownBlock → Moved (w.alloc (.cells #[u] E)) v v' → wpList P ops Q rest (a.put o.dst v') w') : wpList P ops Q (o :: rest) a (w.alloc (.cells #[u] E)) :=
  wpList_append hE hgd s x ho (World.ownsRow.alloc hown _) hs hx (news := [u]) rfl (fun j u' hj => by
      match j, hj with
      | 0, hj => simp at hj; subst hj; simp [Addr.add])
    (fun u' hu' => by simp at hu'; subst hu'; exact h1) h63 (by simp; omega) (fun v' w' h2 h3 h4 => h v' w' h2 (.alloc h3) h4)

/-- append(s, x), one element of one cell: the translation lays x in a block of its own first. -/
theorem wpList_append1b {P : Program} {w : World} {T E : TypeId} {bytes : Nat} {z : Value} (hE : Elem P T E 1 bytes z) {B : Nat}
    {ops : Array Oper} {rest : List Oper} {o : Oper} {a : Act} {Q : Exit → Act → World → Prop} (hgd : o.guard = none) (s x : Operand)
    (ho : o.op = .call { callee := .builtin .append, args := #[s, x], argTypes := #[T, T] })
    {v : Value} {n : Nat} {xs : List Value} (hown : Own w B E 1 v n xs) (hs : a.eval s = v) {u : Value} {nb : Nat} (hnb : nb = w.heap.size)
    (hx : a.eval x = .slice (some ⟨nb, 0, none⟩) 1 1) (h1 : u.oneCell' = true)
    (h63 : n + 1 ≤ 1099511627) (hbase : B ≤ w.heap.size)
    (h : ∀ v' w', Own w' B E 1 v' (n + 1) (xs ++ [u]) → KeptBut w w' v.ownBlock → Moved (w.alloc (.cells #[u] E)) v v' → wpList P ops Q rest (a.put o.dst v') w') : wpList P ops Q (o :: rest) a (w.alloc (.cells #[u] E)) := by
  subst hnb
  exact wpList_append hE hgd s x ho (World.ownsRow.alloc hown _) hs hx (news := [u]) rfl (fun j u' hj => by
      match j, hj with
      | 0, hj => simp at hj; subst hj; simp [Addr.add])
    (fun u' hu' => by simp at hu'; subst hu'; exact h1) h63 (by simp; omega) (fun v' w' h2 h3 h4 => h v' w' h2 (.alloc h3) h4)

theorem SlI.at_ {S : Nat → Prop} {w : World} {k : IntKind} {v : Value} {xs : List Int} (h : SlI S w k v xs) : ∃ b off cap, (0 < xs.length → v = .slice (some ⟨b, off, none⟩) xs.length cap) ∧ ∀ i (h : i < xs.length), w.cell? ⟨b, off + i, none⟩ = some (.int k xs[i]) := by
  obtain ⟨a, b, off, cap, rfl, hl, ha, hc⟩ := h
  exact ⟨b, off, cap, fun h0 => by rw [(ha h0).1], hc⟩
theorem SlI.capOf {S : Nat → Prop} {w : World} {k : IntKind} {a : Option Addr} {n c : Nat} {xs : List Int} (h : SlI S w k (.slice a n c) xs) : n = xs.length ∧ n ≤ c ∧ c ≤ 9223372036854775807 := by
  obtain ⟨a', b, off, cap, hv, hl, ha, hc⟩ := h
  simp only [Value.slice.injEq] at hv
  omega
theorem Own.lt {w : World} {B : Nat} {E : TypeId} {size : Nat} {v : Value} {n : Nat} {xs : List Value} (h : Own w B E size v n xs) : ∀ k, v.ownBlock = some k → B ≤ k ∧ k < w.heap.size := World.ownsRow.lt h
theorem Own.ge {w : World} {B : Nat} {E : TypeId} {size : Nat} {v : Value} {n : Nat} {xs : List Value} (h : Own w B E size v n xs) : ∀ k, v.ownBlock = some k → B ≤ k := fun k hk => (h.lt k hk).1
theorem Own.alloc {w : World} {B : Nat} {E : TypeId} {size : Nat} {v : Value} {n : Nat} {xs : List Value} (h : Own w B E size v n xs) (o : Obj) : Own (w.alloc o) B E size v n xs := World.ownsRow.alloc h o
theorem Own.nil (w : World) (B : Nat) (E : TypeId) (size : Nat) : Own w B E size (.slice none 0 0) 0 [] := World.ownsRow_nil _ _ _ _
theorem Own.keep {w w' : World} {B : Nat} {E : TypeId} {size : Nat} {v : Value} {n : Nat} {xs : List Value} (h : Own w B E size v n xs) (hk : ∀ k, v.ownBlock = some k → w'.heap[k]? = w.heap[k]?) : Own w' B E size v n xs := by
  refine ⟨h.1, ?_⟩
  rcases h.2 with hn | ⟨g, cap, cur, rfl, hb, hgg, rest⟩
  · exact .inl hn
  · exact .inr ⟨g, cap, cur, rfl, hb, by rw [hk g rfl]; exact hgg, rest⟩
theorem Own.below {w w' : World} {B B1 : Nat} {E : TypeId} {size : Nat} {v : Value} {n : Nat} {xs : List Value} (h : Own w B E size v n xs) (hb : Below B1 w w') (hB : w.heap.size ≤ B1) : Own w' B E size v n xs :=
  h.keep fun k hk => hb.block k (by have := (h.lt k hk).2; omega)
theorem Own.drawn {w w' : World} {B : Nat} {E : TypeId} {size : Nat} {v : Value} {n : Nat} {xs : List Value} (h : Own w B E size v n xs) (hb : Drawn w w') : Own w' B E size v n xs :=
  h.keep fun k _ => by rw [hb.heap]
theorem Own.weak {w : World} {B B' : Nat} {E : TypeId} {size : Nat} {v : Value} {n : Nat} {xs : List Value} (h : Own w B E size v n xs) (hB : B' ≤ B) : Own w B' E size v n xs := by
  refine ⟨h.1, ?_⟩
  rcases h.2 with hn | ⟨g, cap, cur, rfl, hb, rest⟩
  · exact .inl hn
  · exact .inr ⟨g, cap, cur, rfl, Nat.le_trans hB hb, rest⟩
theorem Own.slice {w : World} {B : Nat} {E : TypeId} {size : Nat} {v : Value} {n : Nat} {xs : List Value} (h : Own w B E size v n xs) :
    ∃ g cap, (v = .slice none 0 0 ∧ n = 0 ∧ xs = [] ∨ v = .slice (some ⟨g, 0, none⟩) n cap ∧ B ≤ g ∧ g < w.heap.size ∧ n ≤ cap ∧ cap ≤ 9223372036854775807) ∧ ∀ j (h : j < xs.length), w.cell? ⟨g, j, none⟩ = some xs[j] := by
  rcases h.2 with ⟨hv, hn⟩ | ⟨g, cap, cur, hv, hb, hg, hnc, hcm, hcs, htake⟩
  · subst hn
    have : xs = [] := List.eq_nil_of_length_eq_zero (by simpa using h.1)
    exact ⟨0, 0, .inl ⟨hv, rfl, this⟩, fun j hj => by subst this; simp at hj⟩
  · refine ⟨g, cap, .inr ⟨hv, hb, (Array.getElem?_eq_some_iff.1 hg).1, hnc, by unfold maxLen at hcm; omega⟩, fun j hj => ?_⟩
    rw [cell_of_row w g j cur E (0, 0) hg]
    subst htake
    have hj' : j < n * size ∧ j < cur.size := by
      have : j < min (n * size) cur.size := by simpa [List.length_take] using hj
      omega
    simp [hj'.2]

/-- Two slices that lie apart. -/
def Apart (a b : Value) : Prop := ∀ k, a.ownBlock = some k → b.ownBlock ≠ some k
theorem Own.kept {w w' : World} {B : Nat} {E : TypeId} {size : Nat} {v : Value} {n : Nat} {xs : List Value} {row : Option Nat} (h : Own w B E size v n xs) (hk : KeptBut w w' row) (hr : ∀ k, v.ownBlock = some k → row ≠ some k) : Own w' B E size v n xs :=
  h.keep fun k hv => hk.2.2.2.2 k (h.lt k hv).2 (fun e => hr k hv e.symm)
theorem Own.reslice {w : World} {B : Nat} {E : TypeId} {size : Nat} {a : Option Addr} {n c m : Nat} {xs : List Value} (h : Own w B E size (.slice a n c) n xs) (hm : m ≤ n) : Own w B E size (.slice a m c) m (xs.take (m * size)) := by
  have hl := h.1
  have hms : m * size ≤ n * size := Nat.mul_le_mul_right _ hm
  refine ⟨by rw [List.length_take]; omega, ?_⟩
  rcases h.2 with ⟨hv, hn⟩ | ⟨g, cap, cur, hv, hb, hg, hnc, hcm, hcs, ht⟩
  · simp only [Value.slice.injEq] at hv
    obtain ⟨rfl, rfl, rfl⟩ := hv
    obtain rfl : m = 0 := by omega
    exact .inl ⟨rfl, rfl⟩
  · simp only [Value.slice.injEq, true_and] at hv
    obtain ⟨rfl, rfl⟩ := hv
    refine .inr ⟨g, c, cur, rfl, hb, hg, by omega, hcm, hcs, ?_⟩
    rw [← ht, List.take_take]; congr 1; omega

theorem Own.isSlice {w : World} {B : Nat} {E : TypeId} {size : Nat} {v : Value} {n : Nat} {xs : List Value} (h : Own w B E size v n xs) : ∃ a c, v = .slice a n c := by
  rcases h.2 with ⟨rfl, rfl⟩ | ⟨g, cap, cur, rfl, _⟩
  · exact ⟨none, 0, rfl⟩
  · exact ⟨_, cap, rfl⟩
/-- An own slice of integers, read. -/
theorem Own.ints {w : World} {B : Nat} {E : TypeId} {v : Value} {n : Nat} {k : IntKind} {xs : List Int} (h : Own w B E 1 v n (xs.map (.int k))) (hn : n ≤ 9223372036854775807) : SlI (fun b => v.ownBlock = some b) w k v xs := by
  have hl := h.1
  simp only [List.length_map, Nat.mul_one] at hl
  obtain ⟨g, cap, hv, hc⟩ := h.slice
  have hc' : IntsAt w k g 0 xs := fun i hi => by
    have := hc i (by simpa using hi)
    rw [List.getElem_map] at this
    simpa using this
  rcases hv with ⟨rfl, rfl, hx⟩ | ⟨rfl, hb, _, hc1, hc2⟩
  · have : xs = [] := by simpa using hx
    subst this
    exact ⟨none, 0, 0, 0, rfl, by simp, fun h => by simp at h, fun i hi => by simp at hi⟩
  · subst hl
    exact ⟨some ⟨g, 0, none⟩, g, 0, cap, rfl, ⟨hc1, hc2⟩, fun _ => ⟨rfl, rfl⟩, hc'⟩

theorem Own.made (w : World) (B : Nat) (E : TypeId) (z : Value) (n : Nat) (hB : B ≤ w.heap.size) (hn : n ≤ 1099511627) :
    Own (w.alloc (.cells (madeCells #[z] n) E)) B E 1 (.slice (some ⟨w.heap.size, 0, none⟩) n n) n (List.replicate n z) := by
  have h := World.ownsRow_lit (base := B) (e := E) (size := 1) w (madeCells #[z] n) n hB (by unfold maxLen; omega) (by simp [madeCells])
  rw [toList_madeCells_one] at h
  exact h

theorem Own.stored {w : World} {B : Nat} {E : TypeId} {size g n cap : Nat} {xs : List Value} (h : Own w B E size (.slice (some ⟨g, 0, none⟩) n cap) n xs) (j : Nat) (u : Value) :
    Own (w.setCell ⟨g, j, none⟩ u) B E size (.slice (some ⟨g, 0, none⟩) n cap) n (xs.set j u) := (World.ownsRow.stored h j u).1




/-- Rows one by one. -/
def RowsTo (S : Nat → Prop) (w : World) (vs : List Value) (g : List (List Int)) : Prop := vs.length ≤ g.length ∧ ∀ i (h : i < vs.length) (h2 : i < g.length), SlI S w .i64 vs[i] g[i]
theorem RowsTo.below {S : Nat → Prop} {w w' : World} {B : Nat} {vs : List Value} {g : List (List Int)} (h : RowsTo S w vs g) (hb : Below B w w') (hB : w.heap.size ≤ B) : RowsTo S w' vs g :=
  ⟨h.1, fun i h1 h2 => (h.2 i h1 h2).below hb hB⟩
theorem RowsTo.weak' {S S' : Nat → Prop} {w : World} {vs : List Value} {g : List (List Int)} (h : RowsTo S w vs g) (hS : ∀ b, S b → S' b) : RowsTo S' w vs g :=
  ⟨h.1, fun i h1 h2 => (h.2 i h1 h2).weak hS⟩
theorem RowsTo.rows {S : Nat → Prop} {w : World} {vs : List Value} {g : List (List Int)} {B : Nat} {E : TypeId} {v : Value} {n : Nat} (h : RowsTo S w vs g) (hv : vs.length = g.length) (hS : ∀ b, v.ownBlock = some b → S b)
    (hown : Own w B E 1 v n vs) (hn : n ≤ 9223372036854775807) : SlR S w v g := by
  have hl := hown.1
  simp only [Nat.mul_one] at hl
  obtain ⟨b, cap, hw, hc⟩ := hown.slice
  have hc' : RowsAt S w b 0 (fun i => vs.getD i undef) g := fun i hi => by
    have hi' : i < vs.length := by omega
    have := hc i hi'
    refine ⟨by simpa [hi'] using this, by simpa [hi'] using h.2 i hi' hi⟩
  rcases hw with ⟨rfl, rfl, hx⟩ | ⟨rfl, hb, _, hc1, hc2⟩
  · have : g = [] := List.eq_nil_of_length_eq_zero (by rw [← hv, hx]; rfl)
    subst this
    exact ⟨none, 0, 0, 0, fun _ => undef, rfl, by simp, fun h => by simp at h, fun i hi => by simp at hi⟩
  · obtain rfl : n = g.length := by omega
    exact ⟨some ⟨b, 0, none⟩, b, 0, cap, _, rfl, ⟨hc1, hc2⟩, fun _ => ⟨rfl, hS _ rfl⟩, hc'⟩

theorem elI64 : Elem Tryz.prog 36 2 1 8 (.int .i64 0) := ⟨Tryz.underlying36, by kernel_rfl, rfl, by omega, by omega⟩
end Go.Proofs.YtdbanndcdbikmaaGreatDoor
