/- The state of the reference's draw of a graph and a rotation system. -/
import Derived.Test.YtdbanndcdbikmaaGreatDoorDraw
import Derived.Test.YtdbanndcdbikmaaGreatDoorRowO
namespace Go.Proofs.YtdbanndcdbikmaaGreatDoor
open Go.RowKit
/-- The cursor, both results' cells, the graph's and the system's cells, the graph and the system's own rows. -/
structure D22 (w W : World) (d : Nat) (bs : List Int) (gb xb C : Nat) (gv : Value) (g : List (List Int)) (xv : Value) (r : List (List Int)) : Prop where
  mv : Mv w W d bs
  lt : d < w.heap.size
  lo : w.heap.size + 2 ≤ gb ∧ gb < xb
  r0 : Own W w.heap.size 26 1 (.slice (some ⟨w.heap.size, 0, none⟩) 1 1) 1 [.slice none 0 0]
  r1 : Own W w.heap.size 28 1 (.slice (some ⟨w.heap.size + 1, 0, none⟩) 1 1) 1 [.slice none 0 0]
  bg : Own W w.heap.size 26 1 (.slice (some ⟨gb, 0, none⟩) 1 1) 1 [gv]
  bx : Own W w.heap.size 28 1 (.slice (some ⟨xb, 0, none⟩) 1 1) 1 [xv]
  sg : SlR (fun b => w.heap.size + 2 ≤ b ∧ b < gb) W gv g
  ow : OwnR W (gb + 1) C 36 2 xv r
theorem D22.hi {w W : World} {d : Nat} {bs : List Int} {gb xb C : Nat} {gv xv : Value} {g r : List (List Int)} (h : D22 w W d bs gb xb C gv g xv r) : xb < W.heap.size := (h.bx.lt xb rfl).2
theorem D22.kept {w W W' : World} {d : Nat} {bs : List Int} {gb xb C : Nat} {gv xv : Value} {g r : List (List Int)} (h : D22 w W d bs gb xb C gv g xv r) (k : Mv W W' d bs) : D22 w W' d bs gb xb C gv g xv r := by
  have hl := h.lt
  have hlo := h.lo
  have hhi := h.hi
  have hk : ∀ b, w.heap.size ≤ b → b < W.heap.size → W'.heap[b]? = W.heap[b]? := fun b h1 h2 => k.2.2.2.2.2 b h2 (by simp; omega)
  refine ⟨h.mv.trans k, hl, hlo, own1_keep h.r0 (hk _ (by omega) (by omega)), own1_keep h.r1 (hk _ (by omega) (by omega)), own1_keep h.bg (hk _ (by omega) (by omega)), own1_keep h.bx (hk _ (by omega) (by omega)), h.sg.keep fun b hb => hk b (by omega) (by omega), ?_⟩
  exact h.ow.kept k.2 (by simp; omega)
theorem D22.below {w W W' : World} {d B : Nat} {bs : List Int} {gb xb C : Nat} {gv xv : Value} {g r : List (List Int)} (h : D22 w W d bs gb xb C gv g xv r) (k : Below B W W') (hB : W.heap.size ≤ B) : D22 w W' d bs gb xb C gv g xv r :=
  ⟨h.mv.below k hB, h.lt, h.lo, h.r0.below k hB, h.r1.below k hB, h.bg.below k hB, h.bx.below k hB, h.sg.below k hB, h.ow.below k hB⟩
theorem D22.drawn {w W W' : World} {d : Nat} {bs : List Int} {gb xb C : Nat} {gv xv : Value} {g r : List (List Int)} (h : D22 w W d bs gb xb C gv g xv r) (k : Drawn W W') : D22 w W' d bs gb xb C gv g xv r := h.below (k.below W.heap.size) (Nat.le_refl _)
theorem D22.room {w W : World} {d : Nat} {bs : List Int} {gb xb C C' : Nat} {gv xv : Value} {g r : List (List Int)} (h : D22 w W d bs gb xb C gv g xv r) (hC : C ≤ C') : D22 w W d bs gb xb C' gv g xv r := ⟨h.mv, h.lt, h.lo, h.r0, h.r1, h.bg, h.bx, h.sg, h.ow.weaken (Nat.le_refl _) hC⟩
/-- The system's cell is set to other own rows. -/
theorem D22.put {w W : World} {d : Nat} {bs : List Int} {gb xb C C' : Nat} {gv xv yv : Value} {g r r' : List (List Int)} (h : D22 w W d bs gb xb C gv g xv r) (hr : OwnR W (gb + 1) C' 36 2 yv r') : D22 w (W.setCell ⟨xb, 0, none⟩ yv) d bs gb xb C' gv g yv r' := by
  have hl := h.lt
  have hlo := h.lo
  have hhi := h.hi
  have hk : ∀ b, b ≠ xb → (W.setCell ⟨xb, 0, none⟩ yv).heap[b]? = W.heap[b]? := fun b hb => Below.heap_setCell _ _ _ _ (by simpa using hb)
  refine ⟨h.mv.base ((Below.refl w.heap.size W).setCell (p := ⟨xb, 0, none⟩) (by simp; omega) yv) hl, hl, hlo, own1_keep h.r0 (hk _ (by omega)), own1_keep h.r1 (hk _ (by omega)), own1_keep h.bg (hk _ (by omega)), own_set h.bx yv, h.sg.keep fun b hb => hk b (by omega), hr.setOther h.bx (by decide) (by decide) yv⟩
/-- What a draw hands back. -/
def Res22 (w : World) (d : Nat) (bs : List Int) (e : Ending) (w' : World) : Prop :=
  ∃ u g x r, e = .returned (.tuple #[.agg #[u], .agg #[x]]) ∧ SlR (fun b => w.heap.size ≤ b ∧ b < w'.heap.size) w' u g ∧ g.length ≤ 17 ∧ SlR (fun b => w.heap.size ≤ b ∧ b < w'.heap.size) w' x r ∧ r.length ≤ 2000 ∧ (∀ y ∈ r, y.length ≤ 2000) ∧ Mv w w' d bs
/-- The last two stores. -/
theorem fin22 {w W : World} {d : Nat} {bs : List Int} {gv xv : Value} {g r : List (List Int)} {gb : Nat} (hm : Mv w W d bs) (hd : d < w.heap.size) (hg : SlR (fun b => w.heap.size + 2 ≤ b ∧ b < gb) W gv g) (hgb : gb ≤ W.heap.size) (hg17 : g.length ≤ 17)
    (hx : SlR (fun b => w.heap.size + 2 ≤ b ∧ b < W.heap.size) W xv r) (hr : r.length ≤ 2000) (hr2 : ∀ y ∈ r, y.length ≤ 2000)
    (r0 : Own W w.heap.size 26 1 (.slice (some ⟨w.heap.size, 0, none⟩) 1 1) 1 [.slice none 0 0]) (r1 : Own W w.heap.size 28 1 (.slice (some ⟨w.heap.size + 1, 0, none⟩) 1 1) 1 [.slice none 0 0]) :
    ∀ W', (W' = (W.setCell ⟨w.heap.size, 0, none⟩ gv).setCell ⟨w.heap.size + 1, 0, none⟩ xv ∨ W' = (W.setCell ⟨w.heap.size + 1, 0, none⟩ xv).setCell ⟨w.heap.size, 0, none⟩ gv) →
      W'.cell? ⟨w.heap.size, 0, none⟩ = some gv ∧ W'.cell? ⟨w.heap.size + 1, 0, none⟩ = some xv ∧ Res22 w d bs (.returned (.tuple #[.agg #[gv], .agg #[xv]])) W' := by
  have c0 := (own_cell r0).1
  have c1 := (own_cell r1).1
  have hn : (⟨w.heap.size, 0, none⟩ : Addr) ≠ ⟨w.heap.size + 1, 0, none⟩ := fun e => by have := congrArg Addr.block e; simp at this
  intro W' hW
  have hk : (∀ b, w.heap.size + 2 ≤ b → W'.heap[b]? = W.heap[b]?) ∧ W'.heap.size = W.heap.size ∧ Mv w W' d bs := by
    rcases hW with rfl | rfl
    · refine ⟨fun b hb => (Below.heap_setCell _ _ _ _ (by simp; omega)).trans (Below.heap_setCell _ _ _ _ (by simp; omega)), by simp, ?_⟩
      exact (hm.base ((Below.refl w.heap.size W).setCell (p := ⟨w.heap.size, 0, none⟩) (by simp) gv) hd).base ((Below.refl w.heap.size _).setCell (p := ⟨w.heap.size + 1, 0, none⟩) (by simp) xv) hd
    · refine ⟨fun b hb => (Below.heap_setCell _ _ _ _ (by simp; omega)).trans (Below.heap_setCell _ _ _ _ (by simp; omega)), by simp, ?_⟩
      exact (hm.base ((Below.refl w.heap.size W).setCell (p := ⟨w.heap.size + 1, 0, none⟩) (by simp) xv) hd).base ((Below.refl w.heap.size _).setCell (p := ⟨w.heap.size, 0, none⟩) (by simp) gv) hd
  obtain ⟨h1, h2, h3⟩ := hk
  refine ⟨?_, ?_, gv, g, xv, r, rfl, (hg.keep fun b hb => h1 b hb.1).weak fun b hb => ⟨by omega, by omega⟩, hg17, (hx.keep fun b hb => h1 b hb.1).weak fun b hb => ⟨by omega, by omega⟩, hr, hr2, h3⟩
  · rcases hW with rfl | rfl
    · rw [World.cell?_setCell_other _ _ _ _ (fun e => hn e.symm), World.cell?_setCell_same _ _ _ c0]
    · obtain ⟨y, hy⟩ := cell?_setCell_some (p := ⟨w.heap.size + 1, 0, none⟩) (x := xv) c0
      rw [World.cell?_setCell_same _ _ _ hy]
  · rcases hW with rfl | rfl
    · obtain ⟨y, hy⟩ := cell?_setCell_some (p := ⟨w.heap.size, 0, none⟩) (x := gv) c1
      rw [World.cell?_setCell_same _ _ _ hy]
    · rw [World.cell?_setCell_other _ _ _ _ hn, World.cell?_setCell_same _ _ _ c1]
/-- The state ahead of the last two stores: the system is read alone. -/
structure E22 (w W : World) (d : Nat) (bs : List Int) (gb xb : Nat) (gv : Value) (g : List (List Int)) (xv : Value) (r : List (List Int)) : Prop where
  mv : Mv w W d bs
  lt : d < w.heap.size
  lo : w.heap.size + 2 ≤ gb ∧ gb < xb
  r0 : Own W w.heap.size 26 1 (.slice (some ⟨w.heap.size, 0, none⟩) 1 1) 1 [.slice none 0 0]
  r1 : Own W w.heap.size 28 1 (.slice (some ⟨w.heap.size + 1, 0, none⟩) 1 1) 1 [.slice none 0 0]
  bg : Own W w.heap.size 26 1 (.slice (some ⟨gb, 0, none⟩) 1 1) 1 [gv]
  bx : Own W w.heap.size 28 1 (.slice (some ⟨xb, 0, none⟩) 1 1) 1 [xv]
  sg : SlR (fun b => w.heap.size + 2 ≤ b ∧ b < gb) W gv g
  sl : SlR (fun b => w.heap.size + 2 ≤ b ∧ b < W.heap.size) W xv r
theorem D22.e22 {w W : World} {d : Nat} {bs : List Int} {gb xb C : Nat} {gv xv : Value} {g r : List (List Int)} (h : D22 w W d bs gb xb C gv g xv r) (hC : C ≤ W.heap.size) (hs : SmallR r 1048576) : E22 w W d bs gb xb gv g xv r :=
  ⟨h.mv, h.lt, h.lo, h.r0, h.r1, h.bg, h.bx, h.sg, (h.ow.rows hs).weak fun b hb => ⟨by have := h.lo; omega, by omega⟩⟩
theorem E22.drawn {w W W' : World} {d : Nat} {bs : List Int} {gb xb : Nat} {gv xv : Value} {g r : List (List Int)} (h : E22 w W d bs gb xb gv g xv r) (k : Drawn W W') : E22 w W' d bs gb xb gv g xv r := by
  have kb := k.below W.heap.size
  have hs : W'.heap.size = W.heap.size := by rw [k.heap]
  exact ⟨h.mv.below kb (Nat.le_refl _), h.lt, h.lo, h.r0.below kb (Nat.le_refl _), h.r1.below kb (Nat.le_refl _), h.bg.below kb (Nat.le_refl _), h.bx.below kb (Nat.le_refl _), h.sg.below kb (Nat.le_refl _), (h.sl.below kb (Nat.le_refl _)).weak fun b hb => by rw [hs]; exact hb⟩
theorem E22.fin {w W : World} {d : Nat} {bs : List Int} {gb xb : Nat} {gv xv : Value} {g r : List (List Int)} (h : E22 w W d bs gb xb gv g xv r) (hg17 : g.length ≤ 17) (hr : r.length ≤ 2000) (hr2 : ∀ y ∈ r, y.length ≤ 2000) :
    ∀ W', (W' = (W.setCell ⟨w.heap.size, 0, none⟩ gv).setCell ⟨w.heap.size + 1, 0, none⟩ xv ∨ W' = (W.setCell ⟨w.heap.size + 1, 0, none⟩ xv).setCell ⟨w.heap.size, 0, none⟩ gv) →
      W'.cell? ⟨w.heap.size, 0, none⟩ = some gv ∧ W'.cell? ⟨w.heap.size + 1, 0, none⟩ = some xv ∧ Res22 w d bs (.returned (.tuple #[.agg #[gv], .agg #[xv]])) W' :=
  fin22 h.mv h.lt h.sg (by have := (h.bg.lt gb rfl).2; omega) hg17 h.sl hr hr2 h.r0 h.r1
/-- The system's cell is set to another slice of rows that are there. -/
theorem E22.put {w W : World} {d : Nat} {bs : List Int} {gb xb : Nat} {gv xv yv : Value} {g r r' : List (List Int)} (h : E22 w W d bs gb xb gv g xv r) (hr : SlR (fun b => w.heap.size + 2 ≤ b ∧ b < W.heap.size ∧ b ≠ xb) W yv r') : E22 w (W.setCell ⟨xb, 0, none⟩ yv) d bs gb xb gv g yv r' := by
  have hl := h.lt
  have hlo := h.lo
  have hk : ∀ b, b ≠ xb → (W.setCell ⟨xb, 0, none⟩ yv).heap[b]? = W.heap[b]? := fun b hb => Below.heap_setCell _ _ _ _ (by simpa using hb)
  exact ⟨h.mv.base ((Below.refl w.heap.size W).setCell (p := ⟨xb, 0, none⟩) (by simp; omega) yv) hl, hl, hlo, own1_keep h.r0 (hk _ (by omega)), own1_keep h.r1 (hk _ (by omega)), own1_keep h.bg (hk _ (by omega)), own_set h.bx yv, h.sg.keep fun b hb => hk b (by omega), (hr.keep fun b hb => hk b hb.2.2).weak fun b hb => ⟨hb.1, by simpa using hb.2.1⟩⟩
/-- A row that grew, or was laid anew, is stored. -/
theorem D22.row {w wn w8 : World} {d : Nat} {bs : List Int} {gb xb C ab v n c : Nat} {gv rv : Value} {g r r' : List (List Int)} {q : Option Nat} (h : D22 w wn d bs gb xb C gv g (.slice (some ⟨ab, 0, none⟩) n c) r) (hk : KeptBut wn w8 q) (hq : ∀ b, q = some b → gb + 1 ≤ b ∧ b ≠ xb)
    (hab : gb + 1 ≤ ab) (hax : ab ≠ xb) (hS : SlR (fun b => gb + 1 ≤ b ∧ b < w8.heap.size) (w8.setCell ⟨ab, v, none⟩ rv) (.slice (some ⟨ab, 0, none⟩) n c) r') : E22 w (w8.setCell ⟨ab, v, none⟩ rv) d bs gb xb gv g (.slice (some ⟨ab, 0, none⟩) n c) r' := by
  have hl := h.lt
  have hlo := h.lo
  have hhi := h.hi
  have hk8 : ∀ b, b < wn.heap.size → (b < gb + 1 ∨ b = xb) → w8.heap[b]? = wn.heap[b]? := fun b h1 h2 => hk.2.2.2.2 b h1 (fun e => by have := hq b e.symm; omega)
  have hks : ∀ b, b ≠ ab → (w8.setCell ⟨ab, v, none⟩ rv).heap[b]? = w8.heap[b]? := fun b hb => Below.heap_setCell _ _ _ _ (by simpa using hb)
  have hkk : ∀ b, b < wn.heap.size → (b < gb + 1 ∨ b = xb) → (w8.setCell ⟨ab, v, none⟩ rv).heap[b]? = wn.heap[b]? := fun b h1 h2 => (hks b (by omega)).trans (hk8 b h1 h2)
  have hm8 : Mv w w8 d bs := ⟨h.mv.1.kept hk (fun b hb => by have := hq b hb; omega), kept_app h.mv.2 hk (fun b hb => by have := hq b hb; omega)⟩
  exact ⟨hm8.base ((Below.refl w.heap.size w8).setCell (p := ⟨ab, v, none⟩) (by simp; omega) rv) hl, hl, hlo, own1_keep h.r0 (hkk _ (by omega) (by omega)), own1_keep h.r1 (hkk _ (by omega) (by omega)), own1_keep h.bg (hkk _ (by omega) (by omega)), own1_keep h.bx (hkk _ (by omega) (by omega)), h.sg.keep fun b hb => hkk b (by omega) (by omega), hS.weak fun b hb => ⟨by omega, by simpa using hb.2⟩⟩
theorem OwnR.lo22 {w : World} {B C : Nat} {EO EI : TypeId} {u : Value} {g : List (List Int)} (h : OwnR w B C EO EI u g) : ∀ b, u.ownBlock = some b → B ≤ b ∧ b < w.heap.size := fun b hb => by
  obtain ⟨vs, -, h2, -⟩ := h
  exact h2.lt b hb
theorem D22.snoc {w W W5 : World} {d : Nat} {bs : List Int} {gb xb C C' : Nat} {gv xv x5 : Value} {g r r' : List (List Int)} (h : D22 w W d bs gb xb C gv g xv r) (k : KeptBut W W5 xv.ownBlock) (hx : OwnR W5 (gb + 1) C' 36 2 x5 r') :
    W5.cell? ⟨xb, 0, none⟩ = some xv ∧ W5.frozen? ⟨xb, 0, none⟩ = false ∧ D22 w (W5.setCell ⟨xb, 0, none⟩ x5) d bs gb xb C' gv g x5 r' := by
  have hl := h.lt
  have hlo := h.lo
  have hhi := h.hi
  have hq : ∀ b, xv.ownBlock = some b → gb + 1 ≤ b := fun b hb => (h.ow.lo22 b hb).1
  have h0 := own1_kept h.r0 k (fun e => by have := hq _ e; omega)
  have h1 := own1_kept h.r1 k (fun e => by have := hq _ e; omega)
  have hg := own1_kept h.bg k (fun e => by have := hq _ e; omega)
  have hb := own1_kept h.bx k (h.ow.other h.bx (by decide))
  have hs := h.sg.keep fun b hb => k.2.2.2.2 b (by omega) (fun e => by have := hq _ e.symm; omega)
  have hm8 : Mv w W5 d bs := ⟨h.mv.1.kept k (fun b hb => by have := hq b hb; omega), kept_app h.mv.2 k (fun b hb => by have := hq b hb; omega)⟩
  obtain ⟨z1, z2, -, -⟩ := own_cell hb
  have hhi5 := (hb.lt xb rfl).2
  have hk : ∀ b, b ≠ xb → (W5.setCell ⟨xb, 0, none⟩ x5).heap[b]? = W5.heap[b]? := fun b hb => Below.heap_setCell _ _ _ _ (by simpa using hb)
  exact ⟨z1, z2, hm8.base ((Below.refl w.heap.size W5).setCell (p := ⟨xb, 0, none⟩) (by simp; omega) x5) hl, hl, hlo, own1_keep h0 (hk _ (by omega)), own1_keep h1 (hk _ (by omega)), own1_keep hg (hk _ (by omega)), own_set hb x5, hs.keep fun b hb => hk b (by omega), hx.setOther hb (by decide) (by decide) x5⟩
/-- A row of the graph. -/
structure RowG (w W : World) (gb gk go v : Nat) (fa : Option Addr) (fc : Nat) (row : List Int) : Prop where
  cell : W.cell? ⟨gk, go + v, none⟩ = some (.slice fa row.length fc)
  sl : SlI (fun b => w.heap.size + 2 ≤ b ∧ b < gb) W .i64 (.slice fa row.length fc) row
  lo : w.heap.size + 2 ≤ gk ∧ gk < gb
theorem RowG.below {w W W' : World} {gb gk go v fc B : Nat} {fa : Option Addr} {row : List Int} (h : RowG w W gb gk go v fa fc row) (k : Below B W W') (hB : W.heap.size ≤ B) : RowG w W' gb gk go v fa fc row :=
  ⟨(k.cell (Nat.lt_of_lt_of_le (cell_lt h.cell) hB)).trans h.cell, h.sl.below k hB, h.lo⟩
theorem RowG.kept {w W W' : World} {d gb gk go v fc : Nat} {bs : List Int} {fa : Option Addr} {row : List Int} (h : RowG w W gb gk go v fa fc row) (k : Mv W W' d bs) (hd : d < w.heap.size) (hg : gb ≤ W.heap.size) : RowG w W' gb gk go v fa fc row := by
  have hl := h.lo
  have hk : ∀ b, w.heap.size + 2 ≤ b → b < gb → W'.heap[b]? = W.heap[b]? := fun b h1 h2 => k.2.2.2.2.2 b (by omega) (by simp; omega)
  exact ⟨(World.cell?_of_block (a := ⟨gk, go + v, none⟩) (hk gk hl.1 hl.2)).trans h.cell, h.sl.keep fun b hb => hk b hb.1 hb.2, hl⟩
theorem RowG.elem {w W : World} {gb gk go v fc k : Nat} {fa : Option Addr} {row : List Int} (h : RowG w W gb gk go v fa fc row) (hk : k < row.length) : ∃ fk fo x, fa = some ⟨fk, fo, none⟩ ∧ W.cell? ⟨fk, fo + k, none⟩ = some (.int .i64 x) := by
  obtain ⟨a', b', o', c', he', hl', ha', hc'⟩ := h.sl
  obtain ⟨q1, q2⟩ := ha' (by omega)
  simp only [Value.slice.injEq] at he'
  exact ⟨b', o', row[k], by rw [he'.1, q1], hc' k hk⟩
theorem D22.next {w W : World} {d : Nat} {bs : List Int} {gb xb C gk go uc v : Nat} {xv : Value} {g r : List (List Int)} (h : D22 w W d bs gb xb C (.slice (some ⟨gk, go, none⟩) g.length uc) g xv r) (hv : v < g.length) :
    ∃ fa fc, RowG w W gb gk go v fa fc g[v] := by
  obtain ⟨a, b, off, cap, f, he, hl, ha, hc⟩ := h.sg
  obtain ⟨ha1, ha2⟩ := ha (by omega)
  rw [ha1] at he
  simp only [Value.slice.injEq, Option.some.injEq, Addr.mk.injEq, and_true, true_and] at he
  obtain ⟨⟨rfl, rfl⟩, rfl⟩ := he
  obtain ⟨h1, h2⟩ := hc v hv
  obtain ⟨fa, fc, e⟩ := h2.slice
  rw [e] at h1 h2
  exact ⟨fa, fc, h1, h2, ha2⟩
theorem OwnR.rowsNe {w : World} {B C B' xb : Nat} {EO EI E : TypeId} {u : Value} {g : List (List Int)} {xs : List Value} (h : OwnR w B C EO EI u g) (h' : Own w B' E 1 (.slice (some ⟨xb, 0, none⟩) 1 1) 1 xs) (h1 : EO ≠ E) (h2 : EI ≠ E) (hs : SmallR g 1048576) : SlR (fun b => B ≤ b ∧ b < C ∧ b ≠ xb) w u g := by
  have ho := h.other h' h1
  obtain ⟨vs, g1, g2, g3, hap, g4⟩ := h
  have hl : g.length ≤ 1048576 := by have := hs.1; omega
  have hr : RowsTo (fun b => B ≤ b ∧ b < C ∧ b ≠ xb) w vs g := ⟨by omega, fun i hi hi2 => by
    have := (g4 i hi2 hi).1.ints (by have := hs.2 i hi2 hi2; omega)
    exact this.weak (fun b hb => ⟨(g4 i hi2 hi).1.ge b hb, ((g4 i hi2 hi).2 b hb).1, fun e => own_type (g4 i hi2 hi).1 h' h2 b hb (by rw [e]; rfl)⟩)⟩
  exact hr.rows g1 (fun b hb => ⟨g2.ge b hb, g3 b hb, fun e => ho (by rw [← e]; exact hb)⟩) g2 (by omega)
theorem meetD1 {H G : Value → Option Addr → Nat → Nat → World → Prop} {R : Prop} (rest : ∀ a b c d e, H a b c d e → G a b c d e) (orders : (∀ a b c d e, H a b c d e → G a b c d e) → R) : R := orders rest
end Go.Proofs.YtdbanndcdbikmaaGreatDoor
