/- A slice of nodes, copied by the laws. -/
import Derived.Test.YtfccpencgengaaaDoorParts
namespace Go.Proofs.YtfccpencgengaaaDoor
open Go.RowKit
def zPart : Value := .agg #[.int .i64 0, .int .i64 0, .slice none 0 0]
theorem elParts : Elem Tryd.prog 54 106 3 40 zPart := ⟨Tryd.underlying54, by kernel_rfl, rfl, by omega, by omega⟩
theorem make_parts (n : Nat) (hn : n ≤ 1048576) (w : World) : (Instr.makeSlice 54 (.int .i64 (n : Int)) (.int .i64 (n : Int))).run Tryd.prog w = .ok (.slice (some ⟨w.heap.size, 0, none⟩) n n) (w.alloc (.cells (madeCells zPart.cells (n * 3)) 106)) := by
  obtain ⟨i, hi, hzz⟩ := Option.map_eq_some_iff.1 elParts.hi
  simp only [Prod.mk.injEq] at hzz
  obtain ⟨hz, hs, hb⟩ := hzz
  have := run_make (P := Tryd.prog) (w := w) 54 106 i zPart elParts.ht hi hz .i64 .i64 n n (by omega) (Int.le_refl _) (by rw [hb]; omega) (by omega)
  simpa [hs] using this
set_option maxHeartbeats 1000000 in
theorem toPartS_any {S : Nat → Prop} (v : Value) (t : List PNode) (w : World) (hv : SlP S w v t) (hx : SmallP t 1048576) :
    Calls Tryd.prog 39 #[v] w fun e w' => ∃ u, e = .returned u ∧ SlP (fun b => w.heap.size ≤ b) w' u t ∧ Below w.heap.size w w' := by
  obtain ⟨a, b, off, cap, f, rfl, hl, ha, hc0⟩ := hv
  have hgl : t.length ≤ 1048576 := by have := hx.1; omega
  have hmk := make_parts t.length hgl
  go_enter Tryd.func39, Tryd.ntmps39
  go_wp2
  go_loopw [4] (fun i wr => ∃ (k : Nat) (xs : List Value) (vs : Nat → Value), k ≤ t.length ∧ i = .int .i64 k ∧ Below w.heap.size w wr ∧
      Own wr w.heap.size 106 3 (.slice (some ⟨w.heap.size, 0, none⟩) t.length t.length) t.length xs ∧
      (∀ i (h : i < t.length), i < k → xs[i * 3]? = some (.int .i64 t[i].kind) ∧ xs[i * 3 + 1]? = some (.int .i64 t[i].vertex) ∧ xs[i * 3 + 2]? = some (vs i) ∧ SlI (fun b => w.heap.size < b) wr .i64 (vs i) t[i].kids)) (fun i _ => t.length - (intOf i).toNat)
  case atStart =>
    refine ⟨0, _, fun _ => undef, Nat.zero_le _, rfl, (Below.refl _ _).alloc (Nat.le_refl _) _, World.ownsRow_lit (base := w.heap.size) (e := 106) (size := 3) w _ t.length (Nat.le_refl _) (by unfold maxLen; omega) (by simp [madeCells]), fun i _ h => by omega⟩
  case round =>
    clear hmk
    obtain ⟨k, xs, vs, hk, rfl, hq, hown, hcs⟩ := hrel
    have hc := hc0.below hq (Nat.le_refl _)
    by_cases hlt : k < t.length
    · obtain ⟨c1, c2, c3, hrow⟩ := hc k hlt
      have hsm : t[k].kids.length ≤ 1048576 := by have := hx.2 k hlt hlt; omega
      obtain ⟨rfl, hS⟩ := ha (by omega)
      have hwl := (hown.lt _ rfl).2
      have HCS := Lib.hid hcs; clear hcs
      go_wp2_with fail
      refine (toPart_any _ _ _ hrow hsm).mono ?_
      rintro e w' ⟨u, rfl, hu, hq'⟩
      have hown' := hown.below hq' (Nat.le_refl _)
      have hxl : xs.length = t.length * 3 := hown.1
      have z0 := World.ownsRow.frozenAt hown' (k * 3)
      have z1 := World.ownsRow.frozenAt hown' (k * 3 + 1)
      have z2 := World.ownsRow.frozenAt hown' (k * 3 + 2)
      obtain ⟨u0, e0⟩ : ∃ u, w'.cell? ⟨w.heap.size, k * 3, none⟩ = some u := ⟨_, (World.ownsRow.cellAt hown' (k * 3) (by omega)).trans (List.getElem?_eq_getElem (by omega))⟩
      obtain ⟨u1, e1⟩ : ∃ u, w'.cell? ⟨w.heap.size, k * 3 + 1, none⟩ = some u := ⟨_, (World.ownsRow.cellAt hown' (k * 3 + 1) (by omega)).trans (List.getElem?_eq_getElem (by omega))⟩
      obtain ⟨u2, e2⟩ : ∃ u, w'.cell? ⟨w.heap.size, k * 3 + 2, none⟩ = some u := ⟨_, (World.ownsRow.cellAt hown' (k * 3 + 2) (by omega)).trans (List.getElem?_eq_getElem (by omega))⟩
      obtain ⟨ua, uc, rfl⟩ := hu.slice
      have hge : ∀ b, wr.heap.size ≤ b → w.heap.size < b := fun b h => by omega
      go_wp2
      go_roundw
      case rel =>
        have hset : ∀ (W : World) (j : Nat) (z : Value) (b : Nat), w.heap.size < b → (W.setCell ⟨w.heap.size, j, none⟩ z).heap[b]? = W.heap[b]? := fun W j z b h => Below.heap_setCell _ _ _ _ (by simp; omega)
        have hkeep : ∀ {W : World} {z1 z2 z3 : Value} {x : Value} {l : List Int}, SlI (fun b => w.heap.size < b) W .i64 x l → SlI (fun b => w.heap.size < b) (((W.setCell ⟨w.heap.size, k * 3, none⟩ z1).setCell ⟨w.heap.size, k * 3 + 1, none⟩ z2).setCell ⟨w.heap.size, k * 3 + 2, none⟩ z3) .i64 x l :=
          fun h => ((h.keep (fun b h => hset _ _ _ b h)).keep (fun b h => hset _ _ _ b h)).keep (fun b h => hset _ _ _ b h)
        refine ⟨k + 1, _, fun i => if i = k then .slice ua t[k].kids.length uc else vs i, by omega, by go_num, (((hq.trans (hq'.mono hq.size)).setCell (by simp) _).setCell (by simp) _).setCell (by simp) _, ((hown'.stored _ _).stored _ _).stored _ _, fun i hi hik => ?_⟩
        by_cases e : i = k
        · subst e
          refine ⟨?_, ?_, ?_, ?_⟩
          · simp [List.getElem?_set, hxl]; omega
          · simp [List.getElem?_set, hxl]; omega
          · simp [List.getElem?_set, hxl]; omega
          · simp only [if_true]
            exact hkeep (hu.weak hge)
        · obtain ⟨g1, g2, g3, g4⟩ := HCS.out i hi (by omega)
          refine ⟨?_, ?_, ?_, ?_⟩
          · rw [List.getElem?_set_ne (by omega), List.getElem?_set_ne (by omega), List.getElem?_set_ne (by omega)]; exact g1
          · rw [List.getElem?_set_ne (by omega), List.getElem?_set_ne (by omega), List.getElem?_set_ne (by omega)]; exact g2
          · rw [List.getElem?_set_ne (by omega), List.getElem?_set_ne (by omega), List.getElem?_set_ne (by omega)]; simp only [if_neg e]; exact g3
          · simp only [if_neg e]; exact hkeep (g4.below hq' (Nat.le_refl _))
      case measure => simp [intOf]; omega
    · go_wp2
      go_ret
      obtain rfl : k = t.length := by omega
      refine ⟨_, rfl, ⟨some ⟨w.heap.size, 0, none⟩, w.heap.size, 0, t.length, vs, rfl, by omega, fun _ => ⟨rfl, Nat.le_refl _⟩, fun i hi => ?_⟩, hq⟩
      obtain ⟨g1, g2, g3, g4⟩ := hcs i hi hi
      have hcell := fun j => World.ownsRow.cellAt hown j
      have hxl : xs.length = t.length * 3 := hown.1
      refine ⟨?_, ?_, ?_, g4.weak (fun b h => by omega)⟩
      · rw [Nat.zero_add, hcell _ (by omega)]; exact g1
      · rw [Nat.zero_add, hcell _ (by omega)]; exact g2
      · rw [Nat.zero_add, hcell _ (by omega)]; exact g3
end Go.Proofs.YtfccpencgengaaaDoor
