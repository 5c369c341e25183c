/- Trees of a call's own: the laws' copy, marks and looks. -/
import Derived.Test.YthpbeiihlembnaaDoorTurn1
namespace Go.Proofs.YthpbeiihlembnaaDoor
open Go.RowKit
theorem CellsP.congr {t t' : List PNode} {xs vs : List Value} (h : CellsP t xs vs) (hl : t'.length = t.length) (he : ∀ i (hi : i < t.length) (hi' : i < t'.length), t'[i].kind = t[i].kind ∧ t'[i].vertex = t[i].vertex) : CellsP t' xs vs := by
  obtain ⟨h1, h2, h3⟩ := h
  refine ⟨by omega, by omega, fun i hi hi2 => ?_⟩
  obtain ⟨g1, g2, g3⟩ := h3 i (by omega) hi2
  obtain ⟨k1, k2⟩ := he i (by omega) hi
  exact ⟨by rw [k1]; exact g1, by rw [k2]; exact g2, g3⟩
/-- The first j nodes are marked. -/
def mixP (k : Int) (t : List PNode) (j : Nat) : List PNode := (markP k t).take j ++ t.drop j
theorem mixP_len {k : Int} {t : List PNode} {j : Nat} (hj : j ≤ t.length) : (mixP k t j).length = t.length := by simp [mixP, markP_len]; omega
theorem mixP_lo {k : Int} {t : List PNode} {j i : Nat} (hj : j ≤ t.length) (hi : i < j) : (mixP k t j)[i]'(by rw [mixP_len hj]; omega) = (markP k t)[i]'(by rw [markP_len]; omega) := by
  have h1 : i < ((markP k t).take j).length := by simp [markP_len]; omega
  unfold mixP
  rw [List.getElem_append_left h1, List.getElem_take]
theorem mixP_hi {k : Int} {t : List PNode} {j i : Nat} (hj : j ≤ t.length) (hi : j ≤ i) (hn : i < t.length) : (mixP k t j)[i]'(by rw [mixP_len hj]; omega) = t[i] := by
  have h1 : ((markP k t).take j).length = j := by simp [markP_len]; omega
  unfold mixP
  rw [List.getElem_append_right (by omega), List.getElem_drop]
  congr 1
  omega
theorem mixP_zero (k : Int) (t : List PNode) : mixP k t 0 = t := by simp [mixP]
theorem mixP_all (k : Int) (t : List PNode) : mixP k t t.length = markP k t := by
  unfold mixP
  rw [List.drop_length, List.append_nil, List.take_of_length_le (by rw [markP_len]; exact Nat.le_refl _)]
set_option maxRecDepth 100000 in
set_option maxHeartbeats 4000000 in
theorem heldP_any {S : Nat → Prop} {u : Value} {t : List PNode} {k : Int} {w : World} (hv : SlP S w u (markP k t)) (hs : SmallP t 1048576) (hk0 : 0 ≤ k) (hk1 : k ≤ 1000000) :
    Calls Tryd.prog 54 #[u, .int .i64 k] w fun e w' => e = .returned (.int .i64 (k + sizeP t)) ∧ Below w.heap.size w w' := by
  have hgl : t.length ≤ 1048576 := by have := hs.1; omega
  obtain ⟨a, b, off, cap, f, rfl, hl, ha, hc0⟩ := hv
  rw [markP_len] at ha hl ⊢
  have HC := Lib.hid hc0
  clear hc0
  have HSZ := Lib.hid (fun j (h : j ≤ t.length) => sizeP_le hs j h)
  go_enter Tryd.func54, Tryd.ntmps54
  go_wp2
  go_loopw [5, 1] (fun i m wr => ∃ j : Nat, j ≤ t.length ∧ i = .int .i64 j ∧ m = .int .i64 (k + sizeP (t.take j)) ∧ Below w.heap.size w wr) (fun i _ _ => t.length - (intOf i).toNat)
  case atStart => exact ⟨0, Nat.zero_le _, rfl, by simp [sizeP], Below.refl _ _⟩
  case round =>
    obtain ⟨j, hj, rfl, rfl, hq⟩ := hrel
    have hsz := HSZ.out j hj
    by_cases hlt : j < t.length
    case neg =>
      obtain rfl : j = t.length := by omega
      rw [List.take_length]
      go_wp2
      go_ret
      exact ⟨rfl, hq⟩
    obtain ⟨c1, c2, c3, hrow⟩ := (HC.out.below hq (Nat.le_refl _)) j (by rw [markP_len]; exact hlt)
    obtain ⟨rfl, -⟩ := ha (by omega)
    rw [markP_get k t j hlt] at c1 c2 hrow
    simp only at c1 c2 hrow
    have hsn := sizeP_take hlt
    have hsm : t[j].kids.length ≤ 1048576 := by have := hs.2 j hlt hlt; omega
    have HSN := Lib.hid hsn
    clear hsn
    obtain ⟨M, hM⟩ : ∃ M : Int, M = k + sizeP (t.take j) := ⟨_, rfl⟩
    rw [← hM] at c1 c2 hrow ⊢
    have hM0 : 0 ≤ M ∧ M ≤ 1099514677824 := by omega
    have HM := Lib.hid hM
    obtain ⟨fa, fc, hfe⟩ := hrow.slice
    rw [marksL_len] at hfe
    rw [hfe] at c3 hrow
    have hh := heldInt64S_any hrow hsm (by omega) (by omega)
    have HN : RowKit.Hid (M + 2 + (t[j].kids.length : Int) = k + sizeP (t.take (j + 1))) := Lib.hid (by rw [HSN.out, HM.out]; omega)
    generalize t[j].kids.length = n at *
    clear hM hfe hsz
    have e1 : M + 1 + 1 = M + 2 := by omega
    go_wp2_with fail
    (with_reducible refine hh.mono ?_)
    rintro e w3 ⟨rfl, hd3⟩
    have hq3 := hq.trans ((hd3.below _).mono hq.size)
    go_wp2
    go_roundw
    case rel => exact ⟨j + 1, by omega, by go_num, by rw [← HN.out], hq3⟩
    case measure => simp [intOf]; omega
theorem eqP_same {S S' : Nat → Prop} {v u : Value} {t : List PNode} {w : World} (hv : SlP S w v t) (hu : SlP S' w u t) :
    Calls Tryd.prog 52 #[v, u] w fun e w' => e = .returned (.bool true) ∧ Below w.heap.size w w' := by
  refine (eqPartS_any _ _ _ _ _ hv hu).mono ?_
  rintro e w' ⟨rfl, hb⟩
  exact ⟨by rw [decide_eq_true rfl], hb⟩
end Go.Proofs.YthpbeiihlembnaaDoor
