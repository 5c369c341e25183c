/- Trees of a call's own: the laws' copy, marks and looks. -/
import Derived.Test.YtfccpencgengaaaDoorTurn1
namespace Go.Proofs.YtfccpencgengaaaDoor
open Go.RowKit
theorem CellsP.congr {t t' : List PNode} {xs vs : List Value} (h : CellsP t xs vs) (hl : t'.length = t.length) (he : ∀ i (hi : i < t.length) (hi' : i < t'.length), t'[i].kind = t[i].kind ∧ t'[i].vertex = t[i].vertex) : CellsP t' xs vs := by
  obtain ⟨h1, h2, h3⟩ := h
  refine ⟨by omega, by omega, fun i hi hi2 => ?_⟩
  obtain ⟨g1, g2, g3⟩ := h3 i (by omega) hi2
  obtain ⟨k1, k2⟩ := he i (by omega) hi
  exact ⟨by rw [k1]; exact g1, by rw [k2]; exact g2, g3⟩
/-- The first j nodes are marked. -/
def mixP (k : Int) (t : List PNode) (j : Nat) : List PNode := (markP k t).take j ++ t.drop j
theorem mixP_len {k : Int} {t : List PNode} {j : Nat} (hj : j ≤ t.length) : (mixP k t j).length = t.length := by simp [mixP, markP_len]; omega
theorem mixP_lo {k : Int} {t : List PNode} {j i : Nat} (hj : j ≤ t.length) (hi : i < j) : (mixP k t j)[i]'(by rw [mixP_len hj]; omega) = (markP k t)[i]'(by rw [markP_len]; omega) := by
  have h1 : i < ((markP k t).take j).length := by simp [markP_len]; omega
  unfold mixP
  rw [List.getElem_append_left h1, List.getElem_take]
theorem mixP_hi {k : Int} {t : List PNode} {j i : Nat} (hj : j ≤ t.length) (hi : j ≤ i) (hn : i < t.length) : (mixP k t j)[i]'(by rw [mixP_len hj]; omega) = t[i] := by
  have h1 : ((markP k t).take j).length = j := by simp [markP_len]; omega
  unfold mixP
  rw [List.getElem_append_right (by omega), List.getElem_drop]
  congr 1
  omega
theorem mixP_zero (k : Int) (t : List PNode) : mixP k t 0 = t := by simp [mixP]
theorem mixP_all (k : Int) (t : List PNode) : mixP k t t.length = markP k t := by
  unfold mixP
  rw [List.drop_length, List.append_nil, List.take_of_length_le (by rw [markP_len]; exact Nat.le_refl _)]
set_option maxHeartbeats 4000000 in
theorem toPartSO_any {S : Nat → Prop} {v : Value} {t : List PNode} {w : World} (hv : SlP S w v t) (hx : SmallP t 1048576) :
    Calls Tryd.prog 39 #[v] w fun e w' => ∃ u, e = .returned u ∧ OwnP w' w.heap.size w'.heap.size 106 2 u t ∧ Below w.heap.size w w' := by
  obtain ⟨a, b, off, cap, f, rfl, hl, ha, hc0⟩ := hv
  have hgl : t.length ≤ 1048576 := by have := hx.1; omega
  have hmk := make_parts t.length hgl
  go_enter Tryd.func39, Tryd.ntmps39
  go_wp2
  go_loopw [4] (fun i wr => ∃ (k : Nat) (xs vs : List Value), vs.length = k ∧ k ≤ t.length ∧ i = .int .i64 k ∧ Below w.heap.size w wr ∧
      Own wr w.heap.size 106 3 (.slice (some ⟨w.heap.size, 0, none⟩) t.length t.length) t.length xs ∧
      (∀ i (h : i < t.length) (h2 : i < vs.length), xs[i * 3]? = some (.int .i64 t[i].kind) ∧ xs[i * 3 + 1]? = some (.int .i64 t[i].vertex) ∧ xs[i * 3 + 2]? = some vs[i]) ∧
      (∀ i (h : i < t.length) (h2 : i < vs.length), Own wr (w.heap.size + 1) 2 1 vs[i] t[i].kids.length (t[i].kids.map (.int .i64))) ∧ ApartL vs) (fun i _ => t.length - (intOf i).toNat)
  case atStart =>
    refine ⟨0, _, [], rfl, Nat.zero_le _, rfl, (Below.refl _ _).alloc (Nat.le_refl _) _, World.ownsRow_lit (base := w.heap.size) (e := 106) (size := 3) w _ t.length (Nat.le_refl _) (by unfold maxLen; omega) (by simp [madeCells]), fun i _ h => by simp at h, fun i _ h => by simp at h, ApartL.nil⟩
  case round =>
    clear hmk
    obtain ⟨k, xs, vs, hvk, hk, rfl, hq, hown, hcs, hrows, hap⟩ := hrel
    have HK := Lib.hid hvk; clear hvk
    have hc := hc0.below hq (Nat.le_refl _)
    by_cases hlt : k < t.length
    · obtain ⟨c1, c2, c3, hrow⟩ := hc k hlt
      have hsm : t[k].kids.length ≤ 1048576 := by have := hx.2 k hlt hlt; omega
      obtain ⟨rfl, hS⟩ := ha (by omega)
      have hwl := (hown.lt _ rfl).2
      have HCS := Lib.hid hcs; have HR := Lib.hid hrows; clear hcs hrows
      go_wp2_with fail
      refine (toPartO_any _ _ _ hrow hsm).mono ?_
      rintro e w' ⟨u, rfl, hu, hq'⟩
      have hown' := hown.below hq' (Nat.le_refl _)
      have hxl : xs.length = t.length * 3 := hown.1
      have z0 := World.ownsRow.frozenAt hown' (k * 3)
      have z1 := World.ownsRow.frozenAt hown' (k * 3 + 1)
      have z2 := World.ownsRow.frozenAt hown' (k * 3 + 2)
      obtain ⟨u0, e0⟩ : ∃ u, w'.cell? ⟨w.heap.size, k * 3, none⟩ = some u := ⟨_, (World.ownsRow.cellAt hown' (k * 3) (by omega)).trans (List.getElem?_eq_getElem (by omega))⟩
      obtain ⟨u1, e1⟩ : ∃ u, w'.cell? ⟨w.heap.size, k * 3 + 1, none⟩ = some u := ⟨_, (World.ownsRow.cellAt hown' (k * 3 + 1) (by omega)).trans (List.getElem?_eq_getElem (by omega))⟩
      obtain ⟨u2, e2⟩ : ∃ u, w'.cell? ⟨w.heap.size, k * 3 + 2, none⟩ = some u := ⟨_, (World.ownsRow.cellAt hown' (k * 3 + 2) (by omega)).trans (List.getElem?_eq_getElem (by omega))⟩
      obtain ⟨ua, uc, rfl⟩ := hu.isSlice
      go_wp2
      go_roundw
      case rel =>
        have hkk := HK.out
        have hset : ∀ (W : World) (j : Nat) (z : Value) (b : Nat), w.heap.size < b → (W.setCell ⟨w.heap.size, j, none⟩ z).heap[b]? = W.heap[b]? := fun W j z b h => Below.heap_setCell _ _ _ _ (by simp; omega)
        have hset3 : ∀ b, w.heap.size + 1 ≤ b → (((w'.setCell ⟨w.heap.size, k * 3, none⟩ (.int .i64 t[k].kind)).setCell ⟨w.heap.size, k * 3 + 1, none⟩ (.int .i64 t[k].vertex)).setCell ⟨w.heap.size, k * 3 + 2, none⟩ (.slice ua t[k].kids.length uc)).heap[b]? = w'.heap[b]? := fun b hb => (hset _ _ _ b (by omega)).trans ((hset _ _ _ b (by omega)).trans (hset _ _ _ b (by omega)))
        have hu2 := hu.weak (show w.heap.size + 1 ≤ wr.heap.size by omega)
        refine ⟨k + 1, _, vs ++ [.slice ua t[k].kids.length uc], by simp [hkk], by omega, by go_num, (((hq.trans (hq'.mono hq.size)).setCell (by simp) _).setCell (by simp) _).setCell (by simp) _, ((hown'.stored _ _).stored _ _).stored _ _, fun i hi hi2 => ?_, fun i hi hi2 => ?_, hap.snoc (N := wr.heap.size) (fun i hi b hb => ((HR.out i (by omega) hi).lt b hb).2) (fun b hb => hu.ge b hb)⟩
        · by_cases e : i = vs.length
          · have e2 : i = k := by omega
            subst e2
            rw [List.getElem_append_right (by omega)]
            have e3 : i - vs.length = 0 := by omega
            simp only [e3, List.getElem_cons_zero]
            refine ⟨?_, ?_, ?_⟩
            · simp [List.getElem?_set, hxl]; omega
            · simp [List.getElem?_set, hxl]; omega
            · simp [List.getElem?_set, hxl]; omega
          · have hi3 : i < vs.length := by simp at hi2; omega
            obtain ⟨g1, g2, g3⟩ := HCS.out i hi hi3
            rw [List.getElem_append_left hi3]
            refine ⟨?_, ?_, ?_⟩
            · rw [List.getElem?_set_ne (by omega), List.getElem?_set_ne (by omega), List.getElem?_set_ne (by omega)]; exact g1
            · rw [List.getElem?_set_ne (by omega), List.getElem?_set_ne (by omega), List.getElem?_set_ne (by omega)]; exact g2
            · rw [List.getElem?_set_ne (by omega), List.getElem?_set_ne (by omega), List.getElem?_set_ne (by omega)]; exact g3
        · by_cases e : i = vs.length
          · have e2 : i = k := by omega
            subst e2
            rw [List.getElem_append_right (by omega)]
            have e3 : i - vs.length = 0 := by omega
            simp only [e3, List.getElem_cons_zero]
            exact hu2.keep (fun b hb => hset3 b (hu2.ge b hb))
          · have hi3 : i < vs.length := by simp at hi2; omega
            rw [List.getElem_append_left hi3]
            have := HR.out i hi hi3
            exact (this.below hq' (Nat.le_refl _)).keep (fun b hb => hset3 b (this.ge b hb))
      case measure => simp [intOf]; omega
    · go_wp2
      go_ret
      obtain rfl : k = t.length := by omega
      refine ⟨_, rfl, ⟨xs, vs, ⟨hown.1, HK.out, hcs⟩, hown, fun b hb => (hown.lt b hb).2, hap, fun i hi hi2 => ⟨(hrows i hi hi2).weak (by omega), fun b hb => ⟨((hrows i hi hi2).lt b hb).2, fun e => ?_⟩⟩⟩, hq⟩
      have h5 := ((hrows i hi hi2).lt b hb).1
      have h6 : w.heap.size = b := by simpa [Value.ownBlock] using e
      omega
set_option maxRecDepth 100000 in
set_option maxHeartbeats 4000000 in
theorem heldP_any {S : Nat → Prop} {u : Value} {t : List PNode} {k : Int} {w : World} (hv : SlP S w u (markP k t)) (hs : SmallP t 1048576) (hk0 : 0 ≤ k) (hk1 : k ≤ 1000000) :
    Calls Tryd.prog 43 #[u, .int .i64 k] w fun e w' => e = .returned (.int .i64 (k + sizeP t)) ∧ Below w.heap.size w w' := by
  have hgl : t.length ≤ 1048576 := by have := hs.1; omega
  obtain ⟨a, b, off, cap, f, rfl, hl, ha, hc0⟩ := hv
  rw [markP_len] at ha hl ⊢
  have HC := Lib.hid hc0
  clear hc0
  have HSZ := Lib.hid (fun j (h : j ≤ t.length) => sizeP_le hs j h)
  go_enter Tryd.func43, Tryd.ntmps43
  go_wp2
  go_loopw [5, 1] (fun i m wr => ∃ j : Nat, j ≤ t.length ∧ i = .int .i64 j ∧ m = .int .i64 (k + sizeP (t.take j)) ∧ Below w.heap.size w wr) (fun i _ _ => t.length - (intOf i).toNat)
  case atStart => exact ⟨0, Nat.zero_le _, rfl, by simp [sizeP], Below.refl _ _⟩
  case round =>
    obtain ⟨j, hj, rfl, rfl, hq⟩ := hrel
    have hsz := HSZ.out j hj
    by_cases hlt : j < t.length
    case neg =>
      obtain rfl : j = t.length := by omega
      rw [List.take_length]
      go_wp2
      go_ret
      exact ⟨rfl, hq⟩
    obtain ⟨c1, c2, c3, hrow⟩ := (HC.out.below hq (Nat.le_refl _)) j (by rw [markP_len]; exact hlt)
    obtain ⟨rfl, -⟩ := ha (by omega)
    rw [markP_get k t j hlt] at c1 c2 hrow
    simp only at c1 c2 hrow
    have hsn := sizeP_take hlt
    have hsm : t[j].kids.length ≤ 1048576 := by have := hs.2 j hlt hlt; omega
    have HSN := Lib.hid hsn
    clear hsn
    obtain ⟨M, hM⟩ : ∃ M : Int, M = k + sizeP (t.take j) := ⟨_, rfl⟩
    rw [← hM] at c1 c2 hrow ⊢
    have hM0 : 0 ≤ M ∧ M ≤ 1099514677824 := by omega
    have HM := Lib.hid hM
    obtain ⟨fa, fc, hfe⟩ := hrow.slice
    rw [marksL_len] at hfe
    rw [hfe] at c3 hrow
    have hh := heldInt64S_any hrow hsm (by omega) (by omega)
    have HN : RowKit.Hid (M + 2 + (t[j].kids.length : Int) = k + sizeP (t.take (j + 1))) := Lib.hid (by rw [HSN.out, HM.out]; omega)
    generalize t[j].kids.length = n at *
    clear hM hfe hsz
    have e1 : M + 1 + 1 = M + 2 := by omega
    go_wp2_with fail
    (with_reducible refine hh.mono ?_)
    rintro e w3 ⟨rfl, hd3⟩
    have hq3 := hq.trans ((hd3.below _).mono hq.size)
    go_wp2
    go_roundw
    case rel => exact ⟨j + 1, by omega, by go_num, by rw [← HN.out], hq3⟩
    case measure => simp [intOf]; omega
theorem eqP_same {S S' : Nat → Prop} {v u : Value} {t : List PNode} {w : World} (hv : SlP S w v t) (hu : SlP S' w u t) :
    Calls Tryd.prog 41 #[v, u] w fun e w' => e = .returned (.bool true) ∧ Below w.heap.size w w' := by
  refine (eqPartS_any _ _ _ _ _ hv hu).mono ?_
  rintro e w' ⟨rfl, hb⟩
  exact ⟨by rw [decide_eq_true rfl], hb⟩
end Go.Proofs.YtfccpencgengaaaDoor
