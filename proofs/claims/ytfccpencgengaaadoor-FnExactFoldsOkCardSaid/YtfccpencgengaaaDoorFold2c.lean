/- Folding by the program: isSeries, SeriesIn. -/
import Derived.Test.YtfccpencgengaaaDoorFold2b
namespace Go.Proofs.YtfccpencgengaaaDoor
open Go.RowKit
set_option maxHeartbeats 2000000 in
theorem isSeries_any {S : Nat → Prop} {nv : Value} {g : List (List Int)} {w : World} (ht : Tab w) (hg : GOk g) (hn : SlI S w .u32 nv (natsI (netsL g))) (hw0 : 0 < w.heap.size) :
    Calls Tryd.prog 66 #[nv, .int .u32 (firstN g.length : Int)] w fun e w' => e = .returned (.bool (decide ((foldsF 33 (netsL g) (firstN g.length)).2 = 0))) ∧ Below w.heap.size w w' := by
  have hlo := hg.lo
  have hnl := netsL_len g
  obtain ⟨nb, no, nc, hne, hnc⟩ := hn.at_
  have hne := hne (by rw [natsI_len, hnl]; omega)
  subst hne
  rw [natsI_len, hnl] at hn ⊢
  have hq0 : Below w.heap.size w (w.alloc (.cells #[] 71)) := (Below.refl _ _).alloc (Nat.le_refl _) _
  have hown : Own (w.alloc (.cells #[] 71)) w.heap.size 71 1 (.slice (some ⟨w.heap.size, 0, none⟩) 0 0) 0 [] := World.ownsRow_lit (base := w.heap.size) (e := 71) (size := 1) w #[] 0 (Nat.le_refl _) (by unfold maxLen; omega) rfl
  have hnews : ∀ (j : Nat) u, ((natsI (netsL g)).map (Value.int .u32))[j]? = some u → (w.alloc (.cells #[] 71)).cell? ((⟨nb, no, none⟩ : Addr).add j) = some u := fun j u hj => by
    rw [List.getElem?_map] at hj
    obtain ⟨x, hx, rfl⟩ := Option.map_eq_some_iff.1 hj
    obtain ⟨hjl, rfl⟩ := List.getElem?_eq_some_iff.1 hx
    have h0 := hnc j hjl
    rw [Addr.add_lit]
    exact (hq0.cell (p := ⟨nb, no + j, none⟩) (cell_lt h0)).trans h0
  have hln : (natsI (netsL g)).length = g.length := by rw [natsI_len, hnl]
  have HF := FoldI.start hg
  obtain ⟨R, hR⟩ : ∃ R, (foldsF 33 (netsL g) (firstN g.length)).2 = R := ⟨_, rfl⟩
  have hfd := fun (w2 : World) (ht2 : Tab w2) (v2 : Value) (h : Own w2 w.heap.size 71 1 v2 (netsL g).length ((natsI (netsL g)).map (.int .u32))) => foldedOf_any ht2 HF (by omega) h hw0
  rw [hR] at hfd ⊢
  rw [hnl] at hfd
  have hz : ((R : Int) == 0) = decide (R = 0) := by rw [Bool.eq_iff_iff, beq_iff_eq, decide_eq_true_eq]; omega
  have hz2 : (R == 0) = decide (R = 0) := by rw [Bool.eq_iff_iff, beq_iff_eq, decide_eq_true_eq]
  have h16 := hg.hi
  have HLN := Lib.hid hln; clear hR hnl hln
  generalize decide (R = 0) = z at hz hz2
  go_enter Tryd.func66, Tryd.ntmps66
  go_wp2_with (at_builtin; refine wpList_append elNets rfl _ _ rfl hown rfl (news := (natsI (netsL g)).map (.int .u32)) rfl (by simp [HLN.out]) hnews ints_one (by omega) (by simp) ?_; intro v' w1 hown1 hgr hmv; have hq1 := (KeptBut.of_grown hgr).below hq0 (by simp) hown.ge)
  have hown2 : Own w1 w.heap.size 71 1 v' g.length ((natsI (netsL g)).map (.int .u32)) := by simpa using hown1
  refine (hfd _ (ht.below hq1 (Nat.le_refl _)) _ hown2).mono ?_
  rintro e w2 ⟨fv, rfl, hkp⟩
  clear hfd
  go_wp2
  go_ret
  exact ⟨by first | rfl | (rw [hz]) | (simp [hz, hz2]), hkp.below hq1 hq1.size hown2.ge⟩
set_option maxHeartbeats 2000000 in
theorem implSeriesIn_any {S : Nat → Prop} (v : Value) (g : List (List Int)) (w : World) (ht : Tab w) (hv : SlR S w v g) :
    Calls Tryd.prog 21 #[.agg #[v]] w fun e w' => e = .returned (.bool (seriesB g)) ∧ Below w.heap.size w w' := by
  have hq0 : Below w.heap.size w (w.alloc (.cells #[v] 27)) := (Below.refl _ _).alloc (Nat.le_refl _) _
  obtain ⟨va, vc, rfl⟩ := hv.slice
  have hgo := implGraphOk_any _ _ _ (hv.below hq0 (Nat.le_refl _))
  by_cases hgg : gokB g = true
  case neg =>
    have hgg' : gokB g = false := by simpa using hgg
    rw [hgg'] at hgo
    have HE := Lib.hid (show seriesB g = false by simp [seriesB, hgg'])
    clear hgg hgg'
    go_enter Tryd.func21, Tryd.ntmps21
    go_wp2_with fail
    refine hgo.mono ?_
    rintro e w1 ⟨rfl, hb1⟩
    go_wp2
    go_ret
    exact ⟨ret_bool HE.out.symm, hq0.trans (hb1.mono hq0.size)⟩
  rw [hgg] at hgo
  have hg := gokB_iff.1 hgg
  have h16 := hg.hi
  have HE := Lib.hid (show seriesB g = decide ((foldsF 33 (netsL g) (firstN g.length)).2 = 0) by simp [seriesB, hgg])
  clear hgg
  go_enter Tryd.func21, Tryd.ntmps21
  go_wp2_with fail
  refine hgo.mono ?_
  rintro e w1 ⟨rfl, hb1⟩
  have hq1 := hq0.trans (hb1.mono hq0.size)
  have c3 : w1.cell? ⟨w.heap.size, 0, none⟩ = some (.slice va g.length vc) := (hb1.cell (p := ⟨w.heap.size, 0, none⟩) (by simp; try omega)).trans (by simp [go_sem])
  clear hgo
  go_wp2_with fail
  refine (netsOf_any _ _ _ (hv.below hq1 (Nat.le_refl _)) hg).mono ?_
  rintro e w2 ⟨x1, rfl, hx1, hb2⟩
  have hq2 := hq1.trans (hb2.mono hq1.size)
  have hxi := Own.ints (xs := natsI (netsL g)) hx1 (by omega)
  obtain ⟨xa, xc, rfl⟩ := hx1.isSlice
  have hz2 : 0 < w2.heap.size := by have := cell_lt c3; have := hb2.size; omega
  go_wp2_with (go_at_call 55; refine (allOf_any _ _ _ _ h16).mono ?_; rintro e w' ⟨rfl, rfl⟩)
  refine (isSeries_any (ht.below hq2 (Nat.le_refl _)) hg hxi hz2).mono ?_
  rintro e w3 ⟨rfl, hb3⟩
  go_wp2
  go_ret
  exact ⟨ret_bool HE.out.symm, hq2.trans (hb3.mono hq2.size)⟩
end Go.Proofs.YtfccpencgengaaaDoor
