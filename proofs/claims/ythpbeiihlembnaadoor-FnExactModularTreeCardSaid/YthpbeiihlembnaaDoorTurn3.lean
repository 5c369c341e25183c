/- Trees of a call's own: marked by the law. -/
import Derived.Test.YthpbeiihlembnaaDoorTurn2
namespace Go.Proofs.YthpbeiihlembnaaDoor
open Go.RowKit
set_option maxRecDepth 100000 in
set_option maxHeartbeats 8000000 in
theorem markP_any {B C : Nat} {EO : TypeId} {u : Value} {t : List PNode} {k : Int} {w : World} (hu : OwnP w B C EO 2 u t) (hs : SmallP t 1048576) (hk0 : 0 ≤ k) (hk1 : k ≤ 1000000) :
    Calls Tryd.prog 53 #[u, .int .i64 k] w fun e w' => e = .returned (.int .i64 (k + sizeP t)) ∧ OwnP w' B C EO 2 u (markP k t) ∧ Between B C w w' := by
  obtain ⟨xs, vs, hcs, hown, hbC, hap, hkd⟩ := hu
  have hgl : t.length ≤ 1048576 := by have := hs.1; omega
  rcases own_none_some hown with ⟨rfl, hn⟩ | ⟨gb, gc, rfl⟩
  · have hg0 : t = [] := List.eq_nil_of_length_eq_zero hn
    subst hg0
    go_enter Tryd.func53, Tryd.ntmps53
    go_wp2
    go_loopw [5, 1] (fun i m wr => i = .int .i64 0 ∧ m = .int .i64 k ∧ w = wr) (fun _ _ _ => 0)
    case atStart => exact ⟨rfl, rfl, rfl⟩
    case round =>
      obtain ⟨rfl, rfl, rfl⟩ := hrel
      go_wp2
      go_ret
      exact ⟨by simp [sizeP], ⟨xs, vs, hcs, hown, hbC, hap, hkd⟩, Between.refl _ _ _⟩
  · have HSZ := Lib.hid (fun j (h : j ≤ t.length) => sizeP_le hs j h)
    have hvl : vs.length = t.length := hcs.2.1
    have HKD := Lib.hid hkd
    have hgbB : B ≤ gb ∧ gb < C := ⟨(hown.lt gb rfl).1, hbC gb rfl⟩
    have HBC := Lib.hid hbC
    have hcs0 : CellsP (mixP k t 0) xs vs := by rw [mixP_zero]; exact hcs
    have hkd0 : ∀ i (hi : i < t.length) (hi2 : i < vs.length), Own w B 2 1 vs[i] ((mixP k t 0)[i]'(by rw [mixP_len (Nat.zero_le _)]; exact hi)).kids.length (((mixP k t 0)[i]'(by rw [mixP_len (Nat.zero_le _)]; exact hi)).kids.map (.int .i64)) := fun i hi hi2 => by
      rw [mixP_hi (Nat.zero_le _) (Nat.zero_le _) hi]
      exact (hkd i hi hi2).1
    have HAP := Lib.hid hap
    clear hcs hkd hbC hap
    go_enter Tryd.func53, Tryd.ntmps53
    go_wp2
    go_loopw [5, 1] (fun i m wr => ∃ (j : Nat) (ys : List Value) (hj : j ≤ t.length), i = .int .i64 j ∧ m = .int .i64 (k + sizeP (t.take j)) ∧ Own wr B EO 3 (.slice (some ⟨gb, 0, none⟩) t.length gc) t.length ys ∧ RowKit.Hid (CellsP (mixP k t j) ys vs) ∧
      RowKit.Hid (∀ i (hi : i < t.length) (hi2 : i < vs.length), Own wr B 2 1 vs[i] ((mixP k t j)[i]'(by rw [mixP_len hj]; exact hi)).kids.length (((mixP k t j)[i]'(by rw [mixP_len hj]; exact hi)).kids.map (.int .i64))) ∧ Between B C w wr) (fun i _ _ => t.length - (intOf i).toNat)
    case atStart => exact ⟨0, xs, Nat.zero_le _, rfl, by simp [sizeP], hown, Lib.hid hcs0, Lib.hid hkd0, Between.refl _ _ _⟩
    case round =>
      clear hown hcs0 hkd0
      obtain ⟨j, ys, hj, rfl, rfl, hown, HCS, HKJ, hbt⟩ := hrel
      have hsz := HSZ.out j hj
      by_cases hlt : j < t.length
      case neg =>
        obtain rfl : j = t.length := by omega
        have hfin : OwnP wr B C EO 2 (.slice (some ⟨gb, 0, none⟩) t.length gc) (markP k t) := by
          have h1 := HCS.out
          have h2 := HKJ.out
          rw [mixP_all] at h1
          refine ⟨ys, vs, h1, by rw [markP_len]; exact hown, HBC.out, HAP.out, fun i hi hi2 => ?_⟩
          have hi3 : i < t.length := by rw [markP_len] at hi; exact hi
          have h3 := h2 i hi3 hi2
          rw [mixP_lo hj hi3] at h3
          exact ⟨h3, (HKD.out i hi3 hi2).2⟩
        have HFIN := Lib.hid hfin
        rw [List.take_length]
        clear hfin
        go_wp2
        go_ret
        exact ⟨rfl, HFIN.out, hbt⟩
      have hjv : j < vs.length := by omega
      obtain ⟨g1, g2, g3⟩ := HCS.out.2.2 j (by rw [mixP_len hj]; exact hlt) hjv
      have hyl : ys.length = t.length * 3 := hown.1
      have e0 := (World.ownsRow.cellAt hown (j * 3) (by omega)).trans g1
      have e1 := (World.ownsRow.cellAt hown (j * 3 + 1) (by omega)).trans g2
      have e2 := (World.ownsRow.cellAt hown (j * 3 + 2) (by omega)).trans g3
      have z0 := World.ownsRow.frozenAt hown (j * 3)
      have z1 := World.ownsRow.frozenAt hown (j * 3 + 1)
      have hmj : (mixP k t j)[j]'(by rw [mixP_len hj]; exact hlt) = t[j] := mixP_hi hj (Nat.le_refl _) hlt
      rw [hmj] at e0 e1
      have hkj := HKJ.out j hlt hjv
      rw [hmj] at hkj
      have hsm : t[j].kids.length ≤ 1048576 := by have := hs.2 j hlt hlt; omega
      have HSN := Lib.hid (sizeP_take hlt)
      have HMK := Lib.hid (markP_get k t j hlt)
      obtain ⟨M, hM⟩ : ∃ M : Int, M = k + sizeP (t.take j) := ⟨_, rfl⟩
      rw [← hM] at HMK ⊢
      have hM0 : 0 ≤ M ∧ M ≤ 1099514677824 := by omega
      have HM := Lib.hid hM
      have hne := (HKD.out j hlt hjv).2
      obtain ⟨ra, rc, hre⟩ := hkj.isSlice
      rw [hre] at e2 hkj hne
      have HRE := Lib.hid hre
      have hown2 := (hown.stored (j * 3) (.int .i64 M)).stored (j * 3 + 1) (.int .i64 (M + 1))
      have hset : ∀ b, b ≠ gb → ((wr.setCell ⟨gb, j * 3, none⟩ (.int .i64 M)).setCell ⟨gb, j * 3 + 1, none⟩ (.int .i64 (M + 1))).heap[b]? = wr.heap[b]? := fun b hb => (Below.heap_setCell _ _ _ _ (by simpa using hb)).trans (Below.heap_setCell _ _ _ _ (by simpa using hb))
      have hkj2 := hkj.keep (w' := (wr.setCell ⟨gb, j * 3, none⟩ (.int .i64 M)).setCell ⟨gb, j * 3 + 1, none⟩ (.int .i64 (M + 1))) (fun b hb => hset b (fun e => (hne b hb).2 (by rw [e]; rfl)))
      have hbt2 : Between B C wr ((wr.setCell ⟨gb, j * 3, none⟩ (.int .i64 M)).setCell ⟨gb, j * 3 + 1, none⟩ (.int .i64 (M + 1))) := ⟨rfl, rfl, rfl, by simp, fun b _ hbb => hset b (by omega)⟩
      have hge : ∀ b, (Value.slice ra t[j].kids.length rc).ownBlock = some b → B ≤ b ∧ b < C := fun b hb => ⟨hkj.ge b hb, (hne b hb).1⟩
      have hmk := markInt64S_any (k := M + 2) hkj2 hsm (by omega) (by omega)
      have HN : RowKit.Hid (M + 2 + (t[j].kids.length : Int) = k + sizeP (t.take (j + 1))) := Lib.hid (by rw [HSN.out, HM.out]; omega)
      have HCS2 : RowKit.Hid (CellsP (mixP k t (j + 1)) ((ys.set (j * 3) (.int .i64 M)).set (j * 3 + 1) (.int .i64 (M + 1))) vs) := Lib.hid (by
        have h1 := HCS.out.kind (j := j) (by rw [mixP_len hj]; exact hlt) M
        have h2 := h1.vertex (j := j) (by rw [List.length_set, mixP_len hj]; exact hlt) (M + 1)
        refine h2.congr (by rw [mixP_len (show j + 1 ≤ t.length by omega), List.length_set, List.length_set, mixP_len hj]) fun i hi hi' => ?_
        simp only [List.length_set, mixP_len hj] at hi
        by_cases e : j = i
        · subst e
          rw [mixP_lo (show j + 1 ≤ t.length by omega) (Nat.lt_succ_self j), HMK.out]
          simp
        · rw [List.getElem_set_ne e, List.getElem_set_ne e]
          by_cases e2 : i < j
          · rw [mixP_lo (show j + 1 ≤ t.length by omega) (show i < j + 1 by omega), mixP_lo hj e2]; exact ⟨rfl, rfl⟩
          · rw [mixP_hi (show j + 1 ≤ t.length by omega) (show j + 1 ≤ i by omega) hi, mixP_hi hj (show j ≤ i by omega) hi]; exact ⟨rfl, rfl⟩)
      generalize hnn : t[j].kids.length = n at *
      have HNN := Lib.hid hnn
      clear hM hre hsz hnn g1 g2 g3 hmj
      have e12 : M + 1 + 1 = M + 2 := by omega
      go_wp2_with fail
      (with_reducible refine hmk.mono ?_)
      rintro e w3 ⟨rfl, hk3, hkp⟩
      have hown3 := hown2.kept hkp (fun b hb he => by
        have h1 := (hne b he).2
        simp only [Value.ownBlock] at hb h1
        exact h1 hb)
      have hbt3 := (hbt.trans hbt2).trans (hkp.between hge)
      have HKJ2 : RowKit.Hid (∀ i (hi : i < t.length) (hi2 : i < vs.length), Own w3 B 2 1 vs[i] ((mixP k t (j + 1))[i]'(by rw [mixP_len (by omega)]; exact hi)).kids.length (((mixP k t (j + 1))[i]'(by rw [mixP_len (by omega)]; exact hi)).kids.map (.int .i64))) := Lib.hid (fun i hi hi2 => by
        by_cases e : j = i
        · subst e
          rw [mixP_lo (show j + 1 ≤ t.length by omega) (Nat.lt_succ_self j), HMK.out, HRE.out]
          simp only [marksL_len, HNN.out]
          exact hk3
        · have h4 : ((mixP k t (j + 1))[i]'(by rw [mixP_len (by omega)]; exact hi)) = ((mixP k t j)[i]'(by rw [mixP_len hj]; exact hi)) := by
            by_cases e2 : i < j
            · rw [mixP_lo (show j + 1 ≤ t.length by omega) (show i < j + 1 by omega), mixP_lo hj e2]
            · rw [mixP_hi (show j + 1 ≤ t.length by omega) (show j + 1 ≤ i by omega) hi, mixP_hi hj (show j ≤ i by omega) hi]
          rw [h4]
          have h5 := (HKD.out i hi hi2).2
          refine ((HKJ.out i hi hi2).keep (fun b hb => hset b (fun e3 => (h5 b hb).2 (by rw [e3]; rfl)))).kept hkp (fun b hb he => ?_)
          exact e (HAP.out j i hjv hi2 b (by rw [HRE.out]; exact he) hb))
      clear hmk
      go_wp2
      go_roundw
      case rel => exact ⟨j + 1, _, by omega, by go_num, by rw [← HN.out], hown3, HCS2, HKJ2, hbt3⟩
      case measure => simp [intOf]; omega
end Go.Proofs.YthpbeiihlembnaaDoor
