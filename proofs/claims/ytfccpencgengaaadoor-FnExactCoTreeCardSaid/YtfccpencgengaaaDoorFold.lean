/- How a vertex folds away: the program's foldOf, foldAway; the reference's l19Less, l20At. -/
import Derived.Test.YtfccpencgengaaaDoorFoldM
import Derived.Test.YtfccpencgengaaaDoorReach2
namespace Go.Proofs.YtfccpencgengaaaDoor
open Go.RowKit
def triV (f : Tri) : Value := .agg #[.int .i64 f.a, .int .i64 f.b, .int .i64 f.c]
def rowF (v : Nat) (L : List Nat) : Option Tri :=
  if 2 < L.length then none
  else some ⟨v, if 0 < L.length then (L.getD 0 0 : Nat) else -1, if 1 < L.length then (L.getD 1 0 : Nat) else -1⟩
theorem foldF_row (a : List Nat) (left v : Nat) : foldF a left v = rowF v (nearN a left v) := rfl
def TriP (f : Option Tri) (w : World) (e : Ending) (w' : World) : Prop := e = .returned (.tuple #[triV (f.getD ⟨0, 0, 0⟩), .bool f.isSome]) ∧ Below w.heap.size w w'
theorem l19Less_any {S : Nat → Prop} {u : Value} {m v : Nat} {w : World} (hu : SlI S w .i64 u (bitsI m)) (hm : m < 4294967296) (hv : v < 32) :
    Calls Tryd.prog 70 #[u, .int .i64 (v : Int)] w fun e w' => ∃ x, e = .returned x ∧ OwnB w' w.heap.size 2 x (andN m (bit v)) ∧ Below w.heap.size w w' := by
  have hle := less_bits hm hv
  have hbl := bitsI_len m
  generalize bitsI m = xs at hu hle hbl
  obtain ⟨ua, ub, uo, uc, rfl, hul, hua, huc0⟩ := hu
  have HL := Lib.hid hle; clear hle
  go_enter Tryd.func70, Tryd.ntmps70
  go_wp2
  go_loopw [5, 6] (fun o i wr => ∃ k : Nat, k ≤ xs.length ∧ i = .int .i64 k ∧ Own wr w.heap.size 2 1 o (lessL (xs.take k) v).length ((lessL (xs.take k) v).map (.int .i64)) ∧ Below w.heap.size w wr) (fun _ i _ => xs.length - (intOf i).toNat)
  case atStart =>
    refine ⟨0, Nat.zero_le _, rfl, ?_, (Below.refl _ _).alloc (Nat.le_refl _) _⟩
    have := World.ownsRow_lit (base := w.heap.size) (e := 2) (size := 1) w #[] 0 (Nat.le_refl _) (by unfold maxLen; omega) rfl
    simpa [Own, lessL] using this
  case round =>
    obtain ⟨k, hk, rfl, hown, hq⟩ := hrel
    have hB := hq.size
    have hll : (lessL (xs.take k) v).length ≤ 32 := by
      have h1 := List.length_filter_le (fun x => !decide (x = (v : Int))) (xs.take k)
      have h2 : (xs.take k).length ≤ xs.length := by simp; omega
      unfold lessL; omega
    by_cases hlt : k < xs.length
    · have hcell := (hq.cell (p := ⟨ub, uo + k, none⟩) (cell_lt (huc0 k hlt))).trans (huc0 k hlt)
      obtain ⟨rfl, -⟩ := hua (by omega)
      have hst : lessL (xs.take (k + 1)) v = if xs[k] = (v : Int) then lessL (xs.take k) v else lessL (xs.take k) v ++ [xs[k]] := by
        unfold lessL
        rw [List.take_succ_eq_append_getElem hlt, List.filter_append]
        by_cases h : xs[k] = (v : Int) <;> simp [h]
      generalize xs[k] = x at hcell hst
      by_cases hx : x = (v : Int)
      · have hb : (x != (v : Int)) = false := by rw [bne_eq_false_iff_eq]; exact hx
        rw [if_pos hx] at hst
        have HS := Lib.hid hst; clear hst hx
        go_wp2
        go_roundw
        case rel => exact ⟨k + 1, by omega, by go_num, by rw [HS.out]; exact hown, hq⟩
        case measure => simp [intOf]; omega
      · have hb : (x != (v : Int)) = true := by rw [bne_iff_ne]; exact hx
        rw [if_neg hx] at hst
        have HS := Lib.hid hst; clear hst hx
        go_wp2_with (at_builtin; refine wpList_append1 elI64 rfl _ _ rfl hown rfl rfl rfl (by omega) hB ?_; intro v' w2 hown1 hkept hmv)
        go_roundw
        case rel => exact ⟨k + 1, by omega, by go_num, by rw [HS.out]; simpa using hown1, hkept.below hq hB hown.ge⟩
        case measure => simp [intOf]; omega
    · obtain rfl : k = xs.length := by omega
      rw [List.take_length] at hown
      go_wp2
      go_ret
      refine ⟨_, rfl, ?_, hq⟩
      unfold OwnB
      rw [← HL.out]; exact hown
set_option maxHeartbeats 4000000 in
theorem foldOf_any {S : Nat → Prop} {nv : Value} {a : List Nat} {left v n : Nat} {w : World} (ht : Tab w) (hI : FoldI a left n) (hn : SlI S w .u32 nv (natsI a)) (hv : v < n) :
    Calls Tryd.prog 74 #[nv, .int .u32 (left : Int), .int .i64 (v : Int)] w (TriP (foldF a left v) w) := by
  have hl := hI.left32
  have hlen := hI.len
  have h16 := hI.le
  have hva : v < a.length := by omega
  rw [foldF_row]
  unfold nearN
  have hq0 : Below w.heap.size w (w.alloc (.cells #[.int .i64 0, .int .i64 0, .int .i64 0] 86)) := (Below.refl _ _).alloc (Nat.le_refl _) _
  obtain ⟨nb, no, nc, hne, hnc⟩ := hn.at_
  have hne := hne (by rw [natsI_len]; omega)
  subst hne
  have hc0 := hnc v (by rw [natsI_len]; omega)
  rw [natsI_get] at hc0
  have hgd : a.getD v 0 = a[v] := by simp [hva]
  rw [hgd]
  have hm32 := hI.lt _ (List.getElem_mem hva)
  generalize a[v] = m at hc0 hm32
  have hand := u32_and_nat m left hm32 hl
  have hml : m &&& left < 4294967296 := Nat.lt_of_le_of_lt Nat.and_le_right hl
  have hli := list_any (m &&& left) _ (ht.below hq0 (Nat.le_refl _)) hml
  have hlb := bitsI_lenN (m &&& left)
  have hl32 := bitsI_len (m &&& left)
  have hget := fun k h => bitsI_get (m := m &&& left) (k := k) h
  have hcell := (hq0.cell (p := ⟨nb, no + v, none⟩) (cell_lt hc0)).trans hc0
  rw [natsI_len]
  obtain ⟨L, hL⟩ : ∃ L, bitsN (m &&& left) = L := ⟨_, rfl⟩
  have hLI : bitsI (m &&& left) = natsI L := by rw [← hL]; rfl
  rw [hL]
  rw [hLI] at hli hl32
  rw [natsI_len] at hl32
  clear hL hlb hget hLI hgd hc0
  have HL32 := Lib.hid hl32
  go_enter Tryd.func74, Tryd.ntmps74
  go_wp2_with fail
  refine hli.mono ?_
  rintro e w1 ⟨u, rfl, hu, hb1⟩
  clear hli hand hcell
  have hq1 := hq0.trans (hb1.mono hq0.size)
  have hui := Own.ints (xs := natsI L) hu (by rw [natsI_len]; omega)
  obtain ⟨ub, uo, ucap, hue, huc⟩ := hui.at_
  obtain ⟨ua, uc, rfl⟩ := hu.isSlice
  simp only [natsI_len] at hue hu hui ⊢
  have a0 : w1.cell? ⟨w.heap.size, 0, none⟩ = some (.int .i64 0) := (hb1.cell (p := ⟨w.heap.size, 0, none⟩) (by simp)).trans (by simp [go_sem])
  have a1 : w1.cell? ⟨w.heap.size, 1, none⟩ = some (.int .i64 0) := (hb1.cell (p := ⟨w.heap.size, 1, none⟩) (by simp)).trans (by simp [go_sem])
  have a2 : w1.cell? ⟨w.heap.size, 2, none⟩ = some (.int .i64 0) := (hb1.cell (p := ⟨w.heap.size, 2, none⟩) (by simp)).trans (by simp [go_sem])
  have f0 : w1.frozen? ⟨w.heap.size, 0, none⟩ = false := (hb1.frozen (p := ⟨w.heap.size, 0, none⟩) (by simp)).trans (by simp [go_sem])
  have f1 : w1.frozen? ⟨w.heap.size, 1, none⟩ = false := (hb1.frozen (p := ⟨w.heap.size, 1, none⟩) (by simp)).trans (by simp [go_sem])
  have f2 : w1.frozen? ⟨w.heap.size, 2, none⟩ = false := (hb1.frozen (p := ⟨w.heap.size, 2, none⟩) (by simp)).trans (by simp [go_sem])
  have hz : w.heap.size + 1 ≤ w1.heap.size := by have := hb1.size; simpa using this
  have hlt1 : ∀ (o : Obj) (j : Nat) (z : Value), w1.cell? ⟨w.heap.size, j, none⟩ = some z → (w1.alloc o).cell? ⟨w.heap.size, j, none⟩ = some z := fun o j z h => (World.cell?_alloc_some w1 ⟨w.heap.size, j, none⟩ o (by rw [h]; rfl)).trans h
  have hfr1 : ∀ (o : Obj) (j : Nat), w1.frozen? ⟨w.heap.size, j, none⟩ = false → (w1.alloc o).frozen? ⟨w.heap.size, j, none⟩ = false := fun o j h => (World.frozen?_of_block (a := ⟨w.heap.size, j, none⟩) (Below.heap_alloc w1 o w.heap.size (by omega))).trans h
  have hsc : ∀ (x y : Int) (o : Obj), Below w.heap.size w ((((w1.alloc o).setCell ⟨w.heap.size, 0, none⟩ (.int .i64 (v : Int))).setCell ⟨w.heap.size, 1, none⟩ (.int .i64 x)).setCell ⟨w.heap.size, 2, none⟩ (.int .i64 y)) := fun x y o =>
    (((hq1.alloc hq1.size o).setCell (by simp) _).setCell (by simp) _).setCell (by simp) _
  have hsc0 : ∀ (x y z : Int) (o : Obj), Below w.heap.size w ((((w1.alloc o).setCell ⟨w.heap.size, 0, none⟩ (.int .i64 z)).setCell ⟨w.heap.size, 1, none⟩ (.int .i64 x)).setCell ⟨w.heap.size, 2, none⟩ (.int .i64 y)) := fun x y z o =>
    (((hq1.alloc hq1.size o).setCell (by simp) _).setCell (by simp) _).setCell (by simp) _
  have b0 := fun o => hlt1 o 0 _ a0
  have b1 := fun o => hlt1 o 1 _ a1
  have b2 := fun o => hlt1 o 2 _ a2
  have g0 := fun o => hfr1 o 0 f0
  have g1 := fun o => hfr1 o 1 f1
  have g2 := fun o => hfr1 o 2 f2
  clear a0 a1 a2 f0 f1 f2 hlt1 hfr1
  by_cases h2 : 2 < L.length
  · have hd : decide ((2 : Int) < (L.length : Int)) = true := by simp; omega
    have hd2 : decide (2 < L.length) = true := by simpa using h2
    have HE := Lib.hid (show rowF v L = none by simp [rowF, h2])
    go_wp2
    refine bodyPost_ret (v := .tuple #[.agg #[.int .i64 0, .int .i64 0, .int .i64 0], .bool false]) (by simp [results, Tryd.results74, go_sem, b0, b1, b2, hd]) rfl ?_
    rw [HE.out]
    exact ⟨rfl, by first | exact hsc0 _ _ _ _ | exact hq1.alloc hq1.size _⟩
  have hd : decide ((2 : Int) < (L.length : Int)) = false := by simp; omega
  have hd2 : decide (2 < L.length) = false := by simpa using h2
  by_cases h0 : 0 < L.length
  case neg =>
    have hL0 : L = [] := List.eq_nil_of_length_eq_zero (by omega)
    subst hL0
    have HE := Lib.hid (show rowF v [] = some ⟨v, -1, -1⟩ by simp [rowF])
    simp only [List.length_nil] at *
    go_wp2
    refine bodyPost_ret (v := .tuple #[.agg #[.int .i64 (v : Int), .int .i64 (-1), .int .i64 (-1)], .bool true]) (by simp [results, Tryd.results74, go_sem, b0, b1, b2, g0, g1, g2]) rfl ?_
    rw [HE.out]
    exact ⟨rfl, hsc _ _ _⟩
  have hue := hue h0
  simp only [Value.slice.injEq, true_and] at hue
  obtain ⟨rfl, rfl⟩ := hue
  have hcx := huc 0 (by rw [natsI_len]; exact h0)
  rw [natsI_get] at hcx
  have hlbn : ub < w1.heap.size := cell_lt hcx
  have hge := hu.ge ub (by simp [Value.ownBlock])
  simp at hge
  have hd3 : decide ((0 : Int) < (L.length : Int)) = true := by simp; omega
  have hd4 : decide (0 < L.length) = true := by simpa using h0
  have hcx' : ∀ o, (w1.alloc o).cell? ⟨ub, uo + 0, none⟩ = some (.int .i64 ((L[0] : Nat) : Int)) := fun o => (World.cell?_alloc_some w1 ⟨ub, uo + 0, none⟩ o (by rw [hcx]; rfl)).trans hcx
  simp only [Nat.add_zero] at hcx hcx'
  by_cases h1 : 1 < L.length
  case neg =>
    have hd5 : decide ((1 : Int) < (L.length : Int)) = false := by simp; omega
    have hd6 : decide (1 < L.length) = false := by simpa using h1
    have HE := Lib.hid (show rowF v L = some ⟨v, (L[0] : Nat), -1⟩ by simp [rowF, h2, h0, h1])
    clear huc
    generalize L[0] = x at *
    go_wp2
    refine bodyPost_ret (v := .tuple #[.agg #[.int .i64 (v : Int), .int .i64 (x : Int), .int .i64 (-1)], .bool true]) (by simp [results, Tryd.results74, go_sem, b0, b1, b2, g0, g1, g2]) rfl ?_
    rw [HE.out]
    exact ⟨rfl, hsc _ _ _⟩
  have hd5 : decide ((1 : Int) < (L.length : Int)) = true := by simp; omega
  have hd6 : decide (1 < L.length) = true := by simpa using h1
  have hcy := huc 1 (by rw [natsI_len]; exact h1)
  rw [natsI_get] at hcy
  have hcy' : ∀ o, (w1.alloc o).cell? ⟨ub, uo + 1, none⟩ = some (.int .i64 ((L[1] : Nat) : Int)) := fun o => (World.cell?_alloc_some w1 ⟨ub, uo + 1, none⟩ o (by rw [hcy]; rfl)).trans hcy
  have HE := Lib.hid (show rowF v L = some ⟨v, (L[0] : Nat), (L[1] : Nat)⟩ by simp [rowF, h2, h0, h1])
  clear huc
  generalize L[0] = x at *
  generalize L[1] = y at *
  go_wp2
  refine bodyPost_ret (v := .tuple #[.agg #[.int .i64 (v : Int), .int .i64 (x : Int), .int .i64 (y : Int)], .bool true]) (by simp [results, Tryd.results74, go_sem, b0, b1, b2, g0, g1, g2]) rfl ?_
  rw [HE.out]
  exact ⟨rfl, hsc _ _ _⟩
end Go.Proofs.YtfccpencgengaaaDoor
