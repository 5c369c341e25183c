/- Widths: the reference's number of a set, marks, table and what is behind. -/
import Derived.Test.YtdbanndcdbikmaaGreatDoorDistM
import Derived.Test.YtdbanndcdbikmaaGreatDoorMod3
import Derived.Test.YtdbanndcdbikmaaGreatDoorReach2
namespace Go.Proofs.YtdbanndcdbikmaaGreatDoor
open Go.RowKit
/-- Old blocks stand, but x and y. -/
structure Kept2 (w w' : World) (x y : Nat) : Prop where
  os : w'.os = w.os
  tape : w'.tape = w.tape
  output : w'.output = w.output
  size : w.heap.size ≤ w'.heap.size
  block : ∀ b, b < w.heap.size → b ≠ x → b ≠ y → w'.heap[b]? = w.heap[b]?
theorem Kept2.refl (w : World) (x y : Nat) : Kept2 w w x y := ⟨rfl, rfl, rfl, Nat.le_refl _, fun _ _ _ _ => rfl⟩
theorem Kept2.trans {w w' w'' : World} {x y : Nat} (h : Kept2 w w' x y) (k : Kept2 w' w'' x y) : Kept2 w w'' x y :=
  ⟨k.os.trans h.os, k.tape.trans h.tape, k.output.trans h.output, Nat.le_trans h.size k.size, fun b hb hx hy => (k.block b (Nat.lt_of_lt_of_le hb h.size) hx hy).trans (h.block b hb hx hy)⟩
theorem Kept2.of {w w' : World} {B x y : Nat} (h : Below B w w') (hB : w.heap.size ≤ B) : Kept2 w w' x y := ⟨h.os, h.tape, h.output, h.size, fun b hb _ _ => h.block b (by omega)⟩
theorem Kept2.set {w : World} {x y z j : Nat} {v : Value} (hz : z = x ∨ z = y) : Kept2 w (w.setCell ⟨z, j, none⟩ v) x y :=
  ⟨rfl, rfl, rfl, by simp, fun b _ hx hy => Below.heap_setCell _ _ _ _ (by simp; omega)⟩
theorem Kept2.below {w0 w w' : World} {B x y : Nat} (h : Kept2 w w' x y) (hb : Below B w0 w) (hB : B ≤ w.heap.size) (hx : B ≤ x) (hy : B ≤ y) : Below B w0 w' :=
  hb.trans ⟨h.os, h.tape, h.output, h.size, fun b hb => h.block b (by omega) (by omega) (by omega)⟩
theorem Kept2.cell {w w' : World} {x y b i : Nat} {v : Value} (h : Kept2 w w' x y) (hc : w.cell? ⟨b, i, none⟩ = some v) (hx : b ≠ x) (hy : b ≠ y) : w'.cell? ⟨b, i, none⟩ = some v :=
  (World.cell?_of_block (a := ⟨b, i, none⟩) (h.block b (cell_lt hc) hx hy)).trans hc
theorem Kept2.rows {w w' : World} {x y : Nat} {v : Value} {g : List (List Int)} (h : Kept2 w w' x y) (hv : SlR (fun b => b ≠ x ∧ b ≠ y ∧ b < w.heap.size) w v g) : SlR (fun b => b ≠ x ∧ b ≠ y ∧ b < w'.heap.size) w' v g :=
  (hv.keep fun b hb => h.block b hb.2.2 hb.1 hb.2.1).weak fun b hb => ⟨hb.1, hb.2.1, Nat.lt_of_lt_of_le hb.2.2 h.size⟩
/-- n cells that may be stored to. -/
def Row (w : World) (b n : Nat) (f : Nat → Value) : Prop := ∀ i, i < n → w.cell? ⟨b, i, none⟩ = some (f i) ∧ w.frozen? ⟨b, i, none⟩ = false
theorem Row.keep {w w' : World} {b n : Nat} {f : Nat → Value} (h : Row w b n f) (hk : w'.heap[b]? = w.heap[b]?) : Row w' b n f := fun i hi =>
  ⟨(World.cell?_of_block (a := ⟨b, i, none⟩) hk).trans (h i hi).1, by have := (h i hi).2; simp only [World.frozen?] at *; rw [hk]; exact this⟩
theorem Row.lt {w : World} {b n : Nat} {f : Nat → Value} (h : Row w b n f) (hn : 0 < n) : b < w.heap.size := cell_lt (h 0 hn).1
theorem Row.below {w w' : World} {B b n : Nat} {f : Nat → Value} (h : Row w b n f) (hb : Below B w w') (hB : w.heap.size ≤ B) : Row w' b n f := fun i hi =>
  have hl : b < w.heap.size := cell_lt (h i hi).1
  ⟨(hb.cell (p := ⟨b, i, none⟩) (Nat.lt_of_lt_of_le hl hB)).trans (h i hi).1, (hb.frozen (p := ⟨b, i, none⟩) (Nat.lt_of_lt_of_le hl hB)).trans (h i hi).2⟩
theorem Row.other {w : World} {b b' n j : Nat} {f : Nat → Value} {v : Value} (h : Row w b n f) (hne : b ≠ b') : Row (w.setCell ⟨b', j, none⟩ v) b n f := h.keep (Below.heap_setCell _ _ _ _ (by simpa using hne))
theorem Row.set {w : World} {b n j : Nat} {f f' : Nat → Value} {v : Value} (h : Row w b n f) (hj : j < n) (hf : ∀ i, i < n → f' i = if j = i then v else f i) : Row (w.setCell ⟨b, j, none⟩ v) b n f' := fun i hi => by
  obtain ⟨h1, h2⟩ := h i hi
  obtain ⟨k1, k2⟩ := h j hj
  rw [hf i hi]
  by_cases e : j = i
  · subst e
    rw [if_pos rfl]
    refine ⟨by simp [go_sem, k1], by simp [go_sem, k2]⟩
  · rw [if_neg e]
    refine ⟨?_, by simp [go_sem, h2]⟩
    have : ¬ i = j := fun h => e h.symm
    simp [go_sem, h1, e, this]
/-- The marks of a set. -/
def markV (gone : Nat) : Nat → Value := fun i => .bool (gone.testBit i)
theorem mark_set {w : World} {b n gone v : Nat} (h : Row w b n (markV gone)) (hv : v < n) : Row (w.setCell ⟨b, v, none⟩ (.bool true)) b n (markV (gone ||| bit v)) :=
  h.set hv fun i _ => by
    unfold markV
    rw [Nat.testBit_or, testBit_bit]
    by_cases e : v = i <;> simp [e]
theorem mark_unset {w : World} {b n gone v : Nat} (h : Row w b n (markV (gone ||| bit v))) (hv : v < n) (hg : gone.testBit v = false) : Row (w.setCell ⟨b, v, none⟩ (.bool false)) b n (markV gone) :=
  h.set hv fun i _ => by
    unfold markV
    rw [Nat.testBit_or, testBit_bit]
    by_cases e : v = i
    · subst e; simp [hg]
    · simp [e]
/-- The table of widths: what is there is right. -/
def Known (a : List Nat) (n : Nat) (K : Nat → Int) : Prop := ∀ c, c < 2 ^ n → K c = -1 ∨ K c = (widthN a n c : Int)
def tabV (K : Nat → Int) : Nat → Value := fun c => .int .i64 (K c)
theorem tab_set {w : World} {b N c : Nat} {K : Nat → Int} {x : Int} (h : Row w b N (tabV K)) (hc : c < N) : Row (w.setCell ⟨b, c, none⟩ (.int .i64 x)) b N (tabV (fun i => if c = i then x else K i)) :=
  h.set hc fun i _ => by unfold tabV; by_cases e : c = i <;> simp [e]
theorem Known.put {a : List Nat} {n c : Nat} {K : Nat → Int} (h : Known a n K) : Known a n (fun i => if c = i then (widthN a n c : Int) else K i) := fun i hi => by
  by_cases e : c = i
  · subst e; simp
  · simp only [if_neg e]; exact h i hi
/-- The number of a set, from above. -/
theorem half_step (m v : Nat) : m / 2 ^ v = 2 * (m / 2 ^ (v + 1)) + if m.testBit v = true then 1 else 0 := by
  have h1 : m / 2 ^ (v + 1) = m / 2 ^ v / 2 := by rw [Nat.pow_succ, Nat.div_div_eq_div_mul]
  have h2 : m.testBit v = decide (m / 2 ^ v % 2 = 1) := Nat.testBit_eq_decide_div_mod_eq
  rw [h1, h2]
  by_cases h : m / 2 ^ v % 2 = 1
  · simp only [h, decide_true, if_true]; omega
  · simp only [h, decide_false, if_false, Bool.false_eq_true]; omega
noncomputable def wideB (g : List (List Int)) : Bool := gokB g && decide (g.length ≤ 10)
theorem WideI.of {g : List (List Int)} (hg : GOk g) : WideI (netsL g) g.length := by
  refine ⟨by simp [netsL], hg.hi, fun m hm => ?_⟩
  unfold netsL at hm
  obtain ⟨r, hr, rfl⟩ := List.mem_map.1 hm
  obtain ⟨u, hu, rfl⟩ := List.getElem_of_mem hr
  exact maskL_lt fun x hx => hg.ge hu x hx
theorem wSize_any {S : Nat → Prop} {v : Value} {g : List (List Int)} {w : World} (hv : SlR S w v g) : Calls Tryz.prog 82 #[.agg #[v]] w fun e w' => e = .returned (.int .i64 (g.length : Int)) ∧ Below w.heap.size w w' := by
  have hb : Below w.heap.size w (w.alloc (.cells #[v] 26)) := (Below.refl _ _).alloc (Nat.le_refl _) _
  have hlen := hv.len
  obtain ⟨va, vc, rfl⟩ := hv.slice
  go_enter Tryz.func82, Tryz.ntmps82
  go_wp2
  go_ret
  exact ⟨rfl, hb⟩
def hiN (m v : Nat) : Nat := m / 2 ^ v
theorem hiN_step (m v : Nat) : hiN m v = 2 * hiN m (v + 1) + if m.testBit v = true then 1 else 0 := half_step m v
theorem hiN_top {m n : Nat} (h : m < 2 ^ n) : hiN m n = 0 := Nat.div_eq_of_lt h
theorem hiN_zero (m : Nat) : hiN m 0 = m := by simp [hiN]
theorem hiN_le (m v : Nat) : hiN m v ≤ m := Nat.div_le_self _ _
theorem Row.ofOwn {w : World} {B b n c : Nat} {E : TypeId} {xs : List Value} {f : Nat → Value} (h : Own w B E 1 (.slice (some ⟨b, 0, none⟩) n c) n xs) (hf : ∀ i (hi : i < xs.length), xs[i] = f i) : Row w b n f := fun i hi => by
  have hl : xs.length = n := by have := h.1; omega
  have h1 := World.ownsRow.cellAt h i (by omega)
  have h2 := World.ownsRow.frozenAt h i
  refine ⟨?_, h2⟩
  rw [h1, List.getElem?_eq_getElem (by omega), hf]
