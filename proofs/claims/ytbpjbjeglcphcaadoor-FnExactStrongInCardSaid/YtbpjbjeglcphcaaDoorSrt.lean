/- The worlds that slices.SortFunc passes through, at an own slice of sets. -/
import Derived.Test.YtbpjbjeglcphcaaDoorGrw
import Derived.Lib.OwnBridge
namespace Go.Proofs.YtbpjbjeglcphcaaDoor
open Go.RowKit
open Go.Sort in
def encS (x : Sub16) : Value := .int .u32 (x.1 : Int)
instance : Inhabited Sub16 := ⟨⟨0, by omega⟩⟩
open Go.Sort in
theorem heap_sortS {w : World} {g n : Nat} {os : Array Obj} {cur : Array Value} {e : TypeId} {fr : Nat × Nat} (d : Array Sub16) (hb : w.heap[g]? = some (.cells cur e fr)) :
    (sortWorld encS w g 0 n d os).heap[g]? = some (.cells (putCells encS 0 d cur) e fr) := by
  have hg : g < w.heap.size := (Array.getElem?_eq_some_iff.1 hb).1
  unfold sortWorld
  rw [heap_grow_old _ _ (by simpa using hg)]
  simp [putRow, mapBlock, Sort.ahead, Array.getElem?_modify, hb, onCells]
open Go.Sort in
theorem kept_sortS {w : World} {g n : Nat} {os : Array Obj} (d : Array Sub16) : KeptBut w (sortWorld encS w g 0 n d os) (some g) := by
  unfold sortWorld
  refine ⟨rfl, rfl, rfl, by simp, fun k hk hne => ?_⟩
  rw [heap_grow_old _ _ (by simpa using hk)]
  have : g ≠ k := fun e => hne (by rw [e])
  simp [putRow, mapBlock, Sort.ahead, Array.getElem?_modify, this]
open Go.Sort in
theorem take_putS (cur : Array Value) (d : Array Sub16) (h : d.size ≤ cur.size) : (putCells encS 0 d cur).toList.take d.size = d.toList.map encS := by
  apply List.ext_getElem?
  intro j
  by_cases hj : j < d.size
  · rw [List.getElem?_take_of_lt hj, Array.getElem?_toList]
    simp [putCells, hj, show j < cur.size by omega]
  · rw [List.getElem?_take_eq_none (by omega), List.getElem?_eq_none (by simp; omega)]
open Go.Sort in
theorem own_sortS {w : World} {B : Nat} {E : TypeId} {g cap n N : Nat} {os : Array Obj} {xs : List Value} {d : Array Sub16} (h : Own w B E 1 (.slice (some ⟨g, 0, none⟩) N cap) N xs) (hs : d.size = N) :
    Own (sortWorld encS w g 0 n d os) B E 1 (.slice (some ⟨g, 0, none⟩) N cap) N (d.toList.map encS) := by
  refine ⟨by simp [hs], .inr ?_⟩
  rcases h.2 with ⟨hv, _⟩ | ⟨g', cap', cur, hv, hb, hg, hnc, hcm, hcs, ht⟩
  · cases hv
  · simp only [Value.slice.injEq, Option.some.injEq, Addr.mk.injEq] at hv
    obtain ⟨⟨rfl, _⟩, _, rfl⟩ := hv
    exact ⟨g, cap, _, rfl, hb, heap_sortS d hg, hnc, hcm, by simp [putCells, hcs], by rw [Nat.mul_one, ← hs]; exact take_putS cur d (by omega)⟩
open Go.Sort in
theorem holds_sortS {w : World} {B : Nat} {E : TypeId} {g cap N : Nat} {d : Array Sub16} (h : Own w B E 1 (.slice (some ⟨g, 0, none⟩) N cap) N (d.toList.map encS)) (hs : d.size = N) : Holds encS w g 0 d := by
  obtain ⟨g', cap', hv, _, _, _, _, _, hH⟩ := Go.Lib.holds_of_ownsRow (enc := encS) (zs := d.toList) h (by simp)
  simp only [Value.slice.injEq, Option.some.injEq, Addr.mk.injEq] at hv
  obtain ⟨⟨rfl, _⟩, _, _⟩ := hv
  simpa using hH
open Go.Sort in
theorem tab_sortS {w : World} {g n : Nat} {os : Array Obj} (d : Array Sub16) (ht : Tab w) (hg : g ≠ 0) : Tab (sortWorld encS w g 0 n d os) := fun i hi => by
  have h := ht i hi
  exact (World.cell?_of_block (a := ⟨0, i, none⟩) ((kept_sortS d).2.2.2.2 0 (cell_lt h) (fun e => by simp at e; omega))).trans h
open Go.Sort in
theorem lays_bySize {w : World} {g n : Nat} (ht : Tab w) (hg : g ≠ 0) : CmpLays1 Tryd.prog 40 #[] encS subC g 0 n w := fun m os dk hs x y => by
  refine (bySize_any (tab_sortS dk ht hg) x.2 y.2).mono ?_
  rintro e w' ⟨rfl, hb⟩
  exact ⟨rfl, hb.grown⟩
end Go.Proofs.YtbpjbjeglcphcaaDoor
