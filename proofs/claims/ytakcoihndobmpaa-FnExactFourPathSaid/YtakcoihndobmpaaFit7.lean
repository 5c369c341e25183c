/- EmbedsIn, FreeOf, AlikeIn of the program. -/
import Derived.Test.YtakcoihndobmpaaFit6
import Derived.Test.YtakcoihndobmpaaSets
import Derived.Test.YtakcoihndobmpaaLaws
namespace Go.Proofs.Ytakcoihndobmpaa
open Go.RowKit
def TwoO (E : TypeId) (f : Option (List Nat)) (w : World) (e : Ending) (w' : World) : Prop := ∃ u, e = .returned (.tuple #[u, .bool f.isSome]) ∧ Own w' w.heap.size E 1 u (f.getD []).length ((natsI (f.getD [])).map (.int .i64)) ∧ Below w.heap.size w w'
theorem fit_long {g p : List (List Int)} {r : List Nat} (h : fitO (netsL g) (netsL p) = some r) : r.length = p.length := by
  unfold fitO at h
  rcases srch_fit (netsL g) (netsL p) (netsL p).length [] none with ⟨h1, h2⟩ | ⟨h1, r', h2, h3⟩
  · rw [h2] at h; cases h
  · rw [h2] at h; cases h; rw [h3, netsL_len]; simp
set_option maxHeartbeats 4000000 in
theorem implEmbedsIn_any {S S' : Nat → Prop} {pv gv : Value} {p g : List (List Int)} {w : World} (hvp : SlR S w pv p) (hvg : SlR S' w gv g) :
    Calls Try.prog 22 #[.agg #[pv], .agg #[gv]] w (TwoO 2 (embF p g) w) := by
  have hq0 : Below w.heap.size w ((w.alloc (.cells #[pv] 27)).alloc (.cells #[gv] 27)) := ((Below.refl _ _).alloc (Nat.le_refl _) _).alloc (by simp) _
  obtain ⟨pa, pc, rfl⟩ := hvp.slice
  obtain ⟨ga, gc, rfl⟩ := hvg.slice
  have hs0 := isSmall_any (hvp.below hq0 (Nat.le_refl _))
  by_cases hsm : smallB p = true
  case neg =>
    have hsm' : smallB p = false := by simpa using hsm
    rw [hsm'] at hs0
    have HE := Lib.hid (show embF p g = none by simp [embF, hsm'])
    clear hsm hsm'
    go_enter Try.func22, Try.ntmps22
    go_wp2_with fail
    refine hs0.mono ?_
    rintro e w1 ⟨rfl, hb1⟩
    go_wp2
    go_ret2
    rw [HE.out]
    exact ⟨_, rfl, Own.nil _ _ _ _, hq0.trans (hb1.mono hq0.size)⟩
  rw [hsm] at hs0
  have hgp : gokB p = true := by simp only [smallB, Bool.and_eq_true] at hsm; exact hsm.1
  have HG := fun (w' : World) (hb : Below w.heap.size w w') => implGraphOk_any _ _ _ (hvg.below hb (Nat.le_refl _))
  by_cases hgg : gokB g = true
  case neg =>
    have hgg' : gokB g = false := by simpa using hgg
    have HE := Lib.hid (show embF p g = none by simp [embF, hgg'])
    rw [hgg'] at HG
    clear hgg hgg' hsm hgp
    go_enter Try.func22, Try.ntmps22
    go_wp2_with fail
    refine hs0.mono ?_
    rintro e w1 ⟨rfl, hb1⟩
    have hq1 := hq0.trans (hb1.mono hq0.size)
    have c4 : w1.cell? ⟨w.heap.size + 1, 0, none⟩ = some (.slice ga g.length gc) := (hb1.cell (p := ⟨w.heap.size + 1, 0, none⟩) (by simp)).trans (by simp [go_sem])
    go_wp2_with fail
    refine (HG _ hq1).mono ?_
    rintro e w2 ⟨rfl, hb2⟩
    go_wp2
    go_ret2
    rw [HE.out]
    exact ⟨_, rfl, Own.nil _ _ _ _, hq1.trans (hb2.mono hq1.size)⟩
  rw [hgg] at HG
  have hGp := gokB_iff.1 hgp
  have hGg := gokB_iff.1 hgg
  have hhp := hGp.hi
  have hhg := hGg.hi
  have hlp := hGp.lo
  have HE := Lib.hid (show embF p g = fitO (netsL g) (netsL p) by simp [embF, hsm, hgg])
  clear hsm hgp hgg
  have q := nilInts
  go_enter Try.func22, Try.ntmps22
  go_wp2_with fail
  refine hs0.mono ?_
  rintro e w1 ⟨rfl, hb1⟩
  have hq1 := hq0.trans (hb1.mono hq0.size)
  have c3 : w1.cell? ⟨w.heap.size, 0, none⟩ = some (.slice pa p.length pc) := (hb1.cell (p := ⟨w.heap.size, 0, none⟩) (by simp; omega)).trans (by simp [go_sem])
  have c4 : w1.cell? ⟨w.heap.size + 1, 0, none⟩ = some (.slice ga g.length gc) := (hb1.cell (p := ⟨w.heap.size + 1, 0, none⟩) (by simp)).trans (by simp [go_sem])
  go_wp2_with fail
  refine (HG _ hq1).mono ?_
  rintro e wc ⟨rfl, hb2⟩
  have hqc := hq1.trans (hb2.mono hq1.size)
  have c3 := (hb2.cell (cell_lt c3)).trans c3
  have c4 := (hb2.cell (cell_lt c4)).trans c4
  clear hs0 HG
  go_wp2
  refine wp_region_held_drew (S := (fun w' => w'.cell? ⟨w.heap.size, 0, none⟩ = some (.slice pa p.length pc) ∧ w'.cell? ⟨w.heap.size + 1, 0, none⟩ = some (.slice ga g.length gc))) (by kernel_rfl) ?_ (fun hHeld => ?_)
  · first | exact ⟨‹_›, ‹_›⟩ | (simp [*, go_sem])
  have hqc := hqc.drew
  generalize wc.drew = wd at hqc hHeld ⊢
  obtain ⟨c3, c4⟩ := hHeld
  have hHeld : (fun w' => World.cell? w' ⟨w.heap.size, 0, none⟩ = some (.slice pa p.length pc) ∧ World.cell? w' ⟨w.heap.size + 1, 0, none⟩ = some (.slice ga g.length gc)) wd := ⟨c3, c4⟩
  refine wpAnyH_take (i := 0) (v := ?v1) (by simp only [List.getElem?_toArray, List.getElem?_cons_zero]; exact rfl) (by kernel_rfl) (by kernel_rfl) (by kernel_rfl) (by intro _ _ _ h; exact h) (Or.inl ⟨by rfl, ?y1⟩) hHeld ?_
  case y1 => (intro w hSw; (try dsimp only at hSw); go_simp; try (with_reducible rfl))
  try simp only [Act.put, List.setIfInBounds_toArray, List.set_cons_zero, List.set_cons_succ]
  refine wpAnyH_take (i := 2) (v := ?v2) (by simp only [List.getElem?_toArray, List.getElem?_cons_succ, List.getElem?_cons_zero]; exact rfl) (by kernel_rfl) (by kernel_rfl) (by kernel_rfl) (by intro _ _ _ h; exact h) (Or.inl ⟨by rfl, ?y2⟩) hHeld ?_
  case y2 => (intro w hSw; (try dsimp only at hSw); go_simp; try (with_reducible rfl))
  try simp only [Act.put, List.setIfInBounds_toArray, List.set_cons_zero, List.set_cons_succ]
  refine wpAnyH_ready (rs := [1]) (by kernel_rfl) (by simp) ?_
  refine AllReadyH.cons (by simp only [List.getElem?_toArray, List.getElem?_cons_succ, List.getElem?_cons_zero]; exact rfl) (fun K hK => ?_) AllReadyH.nil
  go_simp
  first | ((with_reducible refine (netsOf_any _ _ _ (hvg.below hqc (Nat.le_refl _)) hGg).mono ?_); rintro e wn ⟨x1, rfl, hx1, hbn⟩; have hh := Own.ints (xs := natsI (netsL g)) hx1 (by omega)) | ((with_reducible refine (netsOf_any _ _ _ (hvp.below hqc (Nat.le_refl _)) hGp).mono ?_); rintro e wn ⟨x2, rfl, hx2, hbn⟩; have hp2 := Own.ints (xs := natsI (netsL p)) hx2 (by omega); have hh := hh.below hbn (Nat.le_refl _))
  have hqc := hqc.trans (hbn.mono hqc.size)
  have c3 := (hbn.cell (cell_lt c3)).trans c3
  have c4 := (hbn.cell (cell_lt c4)).trans c4
  try dsimp only
  refine hK.out _ _ ?h4 (fun hHeld => ?_)
  case h4 => first | exact ⟨‹_›, ‹_›⟩ | (simp [*, go_sem])
  clear hK K
  try simp only [Act.put, List.setIfInBounds_toArray, List.set_cons_zero, List.set_cons_succ]
  refine wpAnyH_ready (rs := [3]) (by kernel_rfl) (by simp) ?_
  refine AllReadyH.cons (by simp only [List.getElem?_toArray, List.getElem?_cons_succ, List.getElem?_cons_zero]; exact rfl) (fun K hK => ?_) AllReadyH.nil
  go_simp
  first | ((with_reducible refine (netsOf_any _ _ _ (hvg.below hqc (Nat.le_refl _)) hGg).mono ?_); rintro e wn ⟨x1, rfl, hx1, hbn⟩; have hh := Own.ints (xs := natsI (netsL g)) hx1 (by omega)) | ((with_reducible refine (netsOf_any _ _ _ (hvp.below hqc (Nat.le_refl _)) hGp).mono ?_); rintro e wn ⟨x2, rfl, hx2, hbn⟩; have hp2 := Own.ints (xs := natsI (netsL p)) hx2 (by omega); have hh := hh.below hbn (Nat.le_refl _))
  have hqc := hqc.trans (hbn.mono hqc.size)
  have c3 := (hbn.cell (cell_lt c3)).trans c3
  have c4 := (hbn.cell (cell_lt c4)).trans c4
  try dsimp only
  refine hK.out _ _ ?h6 (fun hHeld => ?_)
  case h6 => first | exact ⟨‹_›, ‹_›⟩ | (simp [*, go_sem])
  clear hK K
  try simp only [Act.put, List.setIfInBounds_toArray, List.set_cons_zero, List.set_cons_succ]
  refine wpAnyH_ready (rs := [4]) (by kernel_rfl) (by simp) ?_
  refine AllReadyH.cons (by simp only [List.getElem?_toArray, List.getElem?_cons_succ, List.getElem?_cons_zero]; exact rfl) (fun K hK => ?_) AllReadyH.nil
  go_simp
  (with_reducible refine (firstFit_any hh hp2 (by rw [netsL_len]; omega) (by rw [netsL_len]; omega) (netsL_lt hGg) (netsL_lt hGp)).mono ?_)
  rintro e wn ⟨r, rfl, hr0, hr, hbn⟩
  have hqc := hqc.trans (hbn.mono hqc.size)
  have c3 := (hbn.cell (cell_lt c3)).trans c3
  have c4 := (hbn.cell (cell_lt c4)).trans c4
  try dsimp only
  refine hK.out _ _ ?h8 (fun hHeld => ?_)
  case h8 => first | exact ⟨‹_›, ‹_›⟩ | (simp [*, go_sem])
  clear hK K
  try simp only [Act.put, List.setIfInBounds_toArray, List.set_cons_zero, List.set_cons_succ]
  refine wpAnyH_take (i := 5) (v := ?v9) (by simp only [List.getElem?_toArray, List.getElem?_cons_succ, List.getElem?_cons_zero]; exact rfl) (by kernel_rfl) (by kernel_rfl) (by kernel_rfl) (by intro _ _ _ h; exact h) (Or.inl ⟨by rfl, ?y9⟩) hHeld ?_
  case y9 => (intro w hSw; (try dsimp only at hSw); go_simp; try (with_reducible rfl))
  try simp only [Act.put, List.setIfInBounds_toArray, List.set_cons_zero, List.set_cons_succ]
  refine wpAnyH_done (by kernel_rfl) ?_ _
  have hfl := fun r => fit_long (g := g) (p := p) (r := r)
  cases hf : fitO (netsL g) (netsL p) with
  | none =>
    rw [hf] at hr0 HE
    obtain rfl := hr0 rfl
    clear hr hfl hf
    go_wp2
    go_ret2
    rw [HE.out]
    exact ⟨_, rfl, Own.nil _ _ _ _, hqc⟩
  | some r' =>
    have hl := hfl r' hf
    rw [hf] at hr HE
    simp only [Option.getD_some] at hr
    have hri := hr.ints (xs := natsI r') (by omega)
    obtain ⟨rb, ro, rcap, hre, -⟩ := hri.at_
    have hre := hre (by rw [natsI_len]; omega)
    subst hre
    have HLL := Lib.hid hl
    clear hr0 hfl hf hl
    go_wp2_with fail
    refine (wide_any hri (by have := HLL.out; rw [natsI_len]; omega)).mono ?_
    rintro e w5 ⟨u, rfl, hu, hb5⟩
    obtain ⟨ua, uc, rfl⟩ := hu.isSlice
    rw [natsI_len] at hu ⊢
    go_wp2
    go_ret2
    rw [HE.out]
    exact ⟨_, rfl, hu.weak hqc.size, hqc.trans (hb5.mono hqc.size)⟩
set_option maxHeartbeats 2000000 in
theorem implFreeOf_any {S S' : Nat → Prop} {pv gv : Value} {p g : List (List Int)} {w : World} (hvg : SlR S' w gv g) (hvp : SlR S w pv p) :
    Calls Try.prog 14 #[.agg #[gv], .agg #[pv]] w fun e w' => e = .returned (.bool (gokB g && (smallB p && !(embF p g).isSome))) ∧ Below w.heap.size w w' := by
  have hq0 : Below w.heap.size w ((w.alloc (.cells #[gv] 27)).alloc (.cells #[pv] 27)) := ((Below.refl _ _).alloc (Nat.le_refl _) _).alloc (by simp) _
  obtain ⟨pa, pc, rfl⟩ := hvp.slice
  obtain ⟨ga, gc, rfl⟩ := hvg.slice
  have he0 := implEmbedsIn_any (hvp.below hq0 (Nat.le_refl _)) (hvg.below hq0 (Nat.le_refl _))
  have HG := fun (w' : World) (hb : Below w.heap.size w w') => implGraphOk_any _ _ _ (hvg.below hb (Nat.le_refl _))
  have HS := fun (w' : World) (hb : Below w.heap.size w w') => isSmall_any (hvp.below hb (Nat.le_refl _))
  unfold TwoO at he0
  cases hbs : (embF p g).isSome <;> cases hgg : gokB g <;> cases hsm : smallB p
  all_goals
    rw [hbs] at he0
    rw [hgg] at HG
    rw [hsm] at HS
    clear hbs hgg hsm
    go_enter Try.func14, Try.ntmps14
    go_wp2_with fail
    refine he0.mono ?_
    rintro e w1 ⟨u, rfl, hu, hb1⟩
    have hq1 := hq0.trans (hb1.mono hq0.size)
    obtain ⟨ua, uc, rfl⟩ := hu.isSlice
    have c3 : w1.cell? ⟨w.heap.size, 0, none⟩ = some (.slice ga g.length gc) := (hb1.cell (p := ⟨w.heap.size, 0, none⟩) (by simp; omega)).trans (by simp [go_sem])
    have c4 : w1.cell? ⟨w.heap.size + 1, 0, none⟩ = some (.slice pa p.length pc) := (hb1.cell (p := ⟨w.heap.size + 1, 0, none⟩) (by simp)).trans (by simp [go_sem])
    go_wp2_with fail
    refine (HG _ hq1).mono ?_
    rintro e w2 ⟨rfl, hb2⟩
    have hq2 := hq1.trans (hb2.mono hq1.size)
    have c4 := (hb2.cell (cell_lt c4)).trans c4
    first
    | (go_wp2
       go_ret
       exact ⟨rfl, hq2⟩)
    | (go_wp2_with fail
       refine (HS _ hq2).mono ?_
       rintro e w3 ⟨rfl, hb3⟩
       have hq3 := hq2.trans (hb3.mono hq2.size)
       go_wp2
       go_ret
       exact ⟨rfl, hq3⟩)
set_option maxHeartbeats 8000000 in
theorem lawFreeOf_any {S0 S1 : Nat → Prop} (v0 : Value) (g0 : List (List Int)) (v1 : Value) (g1 : List (List Int)) (w : World) (hv0 : SlR S0 w v0 g0) (hv1 : SlR S1 w v1 g1) :
    Calls Try.prog 4 #[.agg #[v0], .agg #[v1]] w fun e w' => e = .returned (.bool true) ∧ Below w.heap.size w w' := by
  obtain ⟨a0, c0, rfl⟩ := hv0.slice
  obtain ⟨a1, c1, rfl⟩ := hv1.slice
  have q0 : Below w.heap.size w ((w.alloc (.cells #[.slice a0 g0.length c0] 24)).alloc (.cells #[.slice a1 g1.length c1] 24)) := ((Below.refl _ _).alloc (Nat.le_refl _) _).alloc (by simp; try omega) _
  go_enter Try.func4, Try.ntmps4
  go_wp2_with fail
  refine (szGraph_any _ _ _ _ (hv0.below q0 (Nat.le_refl _)) (by omega) (by omega)).mono ?_
  rintro e w1 ⟨r1, rfl, hr1, hs1, hm1, hb1⟩
  have q1 := q0.trans (hb1.mono q0.size)
  have b0_1 : w1.cell? ⟨w.heap.size, 0, none⟩ = some (.slice a0 g0.length c0) := (hb1.cell (p := ⟨w.heap.size, 0, none⟩) (by simp <;> omega)).trans (by simp [go_sem])
  have b1_1 : w1.cell? ⟨w.heap.size + 1, 0, none⟩ = some (.slice a1 g1.length c1) := (hb1.cell (p := ⟨w.heap.size + 1, 0, none⟩) (by simp <;> omega)).trans (by simp [go_sem])
  by_cases hneg1 : r1 < 0
  case pos =>
    go_wp2
    go_ret
    exact ⟨rfl, q1⟩
  have hsm0 : SmallR g0 1048576 := hm1 (by omega)
  go_wp2_with fail
  refine (szGraph_any _ _ _ _ (hv1.below q1 (Nat.le_refl _)) (by omega) (by omega)).mono ?_
  rintro e w2 ⟨r2, rfl, hr2, hs2, hm2, hb2⟩
  have q2 := q1.trans (hb2.mono q1.size)
  have b0_2 : w2.cell? ⟨w.heap.size, 0, none⟩ = some (.slice a0 g0.length c0) := (hb2.cell (p := ⟨w.heap.size, 0, none⟩) (cell_lt b0_1)).trans b0_1
  have b1_2 : w2.cell? ⟨w.heap.size + 1, 0, none⟩ = some (.slice a1 g1.length c1) := (hb2.cell (p := ⟨w.heap.size + 1, 0, none⟩) (cell_lt b1_1)).trans b1_1
  by_cases hneg2 : r2 < 0
  case pos =>
    go_wp2
    go_ret
    exact ⟨rfl, q2⟩
  have hsm1 : SmallR g1 1048576 := smallR_mono (hm2 (by omega)) (by omega)
  go_wp2
  have _tt : True := trivial
  refine wp_region_held_drew (S := (fun w' => w'.cell? ⟨w.heap.size, 0, none⟩ = some (.slice a0 g0.length c0) ∧ w'.cell? ⟨w.heap.size + 1, 0, none⟩ = some (.slice a1 g1.length c1))) (by kernel_rfl) ?_ (fun hHeld => ?_)
  · first | exact ⟨‹_›, ‹_›⟩ | assumption | (simp [*, go_sem])
  refine wpAnyH_take (i := 0) (v := ?v10) (by simp only [List.getElem?_toArray, List.getElem?_cons_zero]; exact rfl) (by kernel_rfl) (by kernel_rfl) (by kernel_rfl) (by intro _ _ _ h; exact h) (Or.inl ⟨by rfl, ?y10⟩) hHeld ?_
  case y10 => (intro w hSw; (try dsimp only at hSw); go_simp; try (with_reducible rfl))
  try simp only [Act.put, List.setIfInBounds_toArray, List.set_cons_zero, List.set_cons_succ]
  refine wpAnyH_take (i := 2) (v := ?v11) (by simp only [List.getElem?_toArray, List.getElem?_cons_succ, List.getElem?_cons_zero]; exact rfl) (by kernel_rfl) (by kernel_rfl) (by kernel_rfl) (by intro _ _ _ h; exact h) (Or.inl ⟨by rfl, ?y11⟩) hHeld ?_
  case y11 => (intro w hSw; (try dsimp only at hSw); go_simp; try (with_reducible rfl))
  try simp only [Act.put, List.setIfInBounds_toArray, List.set_cons_zero, List.set_cons_succ]
  refine wpAnyH_ready (rs := [1]) (by kernel_rfl) (by simp) ?_
  refine AllReadyH.cons (by simp only [List.getElem?_toArray, List.getElem?_cons_succ, List.getElem?_cons_zero]; exact rfl) (fun K hK => ?_) AllReadyH.nil
  go_simp
  have q2d := q2.drew
  refine (toGraph_any _ _ _ (hv0.below q2d (Nat.le_refl _)) hsm0).mono ?_
  rintro e w3 ⟨x3, rfl, hy3, hb3⟩
  have hb3e : Below w2.heap.size w2 w3 := ⟨hb3.os, hb3.tape, hb3.output, hb3.size, hb3.block⟩
  have q3 := q2.trans (hb3e.mono q2.size)
  have b0_3 : w3.cell? ⟨w.heap.size, 0, none⟩ = some (.slice a0 g0.length c0) := (hb3e.cell (p := ⟨w.heap.size, 0, none⟩) (cell_lt b0_2)).trans b0_2
  have b1_3 : w3.cell? ⟨w.heap.size + 1, 0, none⟩ = some (.slice a1 g1.length c1) := (hb3e.cell (p := ⟨w.heap.size + 1, 0, none⟩) (cell_lt b1_2)).trans b1_2
  have y3_3 := hy3
  try dsimp only
  refine hK.out _ _ ?h13 (fun hHeld => ?_)
  case h13 => first | exact ⟨‹_›, ‹_›⟩ | assumption | (simp [*, go_sem])
  clear hK K
  try simp only [Act.put, List.setIfInBounds_toArray, List.set_cons_zero, List.set_cons_succ]
  refine wpAnyH_ready (rs := [3]) (by kernel_rfl) (by simp) ?_
  refine AllReadyH.cons (by simp only [List.getElem?_toArray, List.getElem?_cons_succ, List.getElem?_cons_zero]; exact rfl) (fun K hK => ?_) AllReadyH.nil
  go_simp
  refine (toGraph_any _ _ _ (hv1.below q3 (Nat.le_refl _)) hsm1).mono ?_
  rintro e w4 ⟨x4, rfl, hy4, hb4⟩
  have q4 := q3.trans (hb4.mono q3.size)
  have b0_4 : w4.cell? ⟨w.heap.size, 0, none⟩ = some (.slice a0 g0.length c0) := (hb4.cell (p := ⟨w.heap.size, 0, none⟩) (cell_lt b0_3)).trans b0_3
  have b1_4 : w4.cell? ⟨w.heap.size + 1, 0, none⟩ = some (.slice a1 g1.length c1) := (hb4.cell (p := ⟨w.heap.size + 1, 0, none⟩) (cell_lt b1_3)).trans b1_3
  have y3_4 := y3_3.below hb4 (Nat.le_refl _)
  have y4_4 := hy4
  try dsimp only
  refine hK.out _ _ ?h15 (fun hHeld => ?_)
  case h15 => first | exact ⟨‹_›, ‹_›⟩ | assumption | (simp [*, go_sem])
  clear hK K
  try simp only [Act.put, List.setIfInBounds_toArray, List.set_cons_zero, List.set_cons_succ]
  refine wpAnyH_ready (rs := [4]) (by kernel_rfl) (by simp) ?_
  refine AllReadyH.cons (by simp only [List.getElem?_toArray, List.getElem?_cons_succ, List.getElem?_cons_zero]; exact rfl) (fun K hK => ?_) AllReadyH.nil
  go_simp
  refine (specFreeOf_any y3_4 y4_4).mono ?_
  rintro e w5 ⟨rfl, hb5⟩
  have q5 := q4.trans (hb5.mono q4.size)
  have b0_5 : w5.cell? ⟨w.heap.size, 0, none⟩ = some (.slice a0 g0.length c0) := (hb5.cell (p := ⟨w.heap.size, 0, none⟩) (cell_lt b0_4)).trans b0_4
  have b1_5 : w5.cell? ⟨w.heap.size + 1, 0, none⟩ = some (.slice a1 g1.length c1) := (hb5.cell (p := ⟨w.heap.size + 1, 0, none⟩) (cell_lt b1_4)).trans b1_4
  have y3_5 := y3_4.below hb5 (Nat.le_refl _)
  have y4_5 := y4_4.below hb5 (Nat.le_refl _)
  try dsimp only
  refine hK.out _ _ ?h17 (fun hHeld => ?_)
  case h17 => first | exact ⟨‹_›, ‹_›⟩ | assumption | (simp [*, go_sem])
  clear hK K
  try simp only [Act.put, List.setIfInBounds_toArray, List.set_cons_zero, List.set_cons_succ]
  refine wpAnyH_take (i := 5) (v := ?v18) (by simp only [List.getElem?_toArray, List.getElem?_cons_succ, List.getElem?_cons_zero]; exact rfl) (by kernel_rfl) (by kernel_rfl) (by kernel_rfl) (by intro _ _ _ h; exact h) (Or.inl ⟨by rfl, ?y18⟩) hHeld ?_
  case y18 => (intro w hSw; (try dsimp only at hSw); go_simp; try (with_reducible rfl))
  try simp only [Act.put, List.setIfInBounds_toArray, List.set_cons_zero, List.set_cons_succ]
  refine wpAnyH_done (by kernel_rfl) ?_ _
  go_wp2_with fail
  refine (toGraph_any _ _ _ (hv0.below q5 (Nat.le_refl _)) hsm0).mono ?_
  rintro e w6 ⟨x6, rfl, hy6, hb6⟩
  have q6 := q5.trans (hb6.mono q5.size)
  have b0_6 : w6.cell? ⟨w.heap.size, 0, none⟩ = some (.slice a0 g0.length c0) := (hb6.cell (p := ⟨w.heap.size, 0, none⟩) (cell_lt b0_5)).trans b0_5
  have b1_6 : w6.cell? ⟨w.heap.size + 1, 0, none⟩ = some (.slice a1 g1.length c1) := (hb6.cell (p := ⟨w.heap.size + 1, 0, none⟩) (cell_lt b1_5)).trans b1_5
  have y3_6 := y3_5.below hb6 (Nat.le_refl _)
  have y4_6 := y4_5.below hb6 (Nat.le_refl _)
  have y6_6 := hy6
  obtain ⟨xa7, xc7, rfl⟩ := y6_6.slice
  have hb7 : Below w6.heap.size w6 (w6.alloc (.cells #[.slice xa7 g0.length xc7] 27)) := (Below.refl _ _).alloc (Nat.le_refl _) _
  have q7 := q6.trans (hb7.mono q6.size)
  have b0_7 := (hb7.cell (p := ⟨w.heap.size, 0, none⟩) (cell_lt b0_6)).trans b0_6
  have b1_7 := (hb7.cell (p := ⟨w.heap.size + 1, 0, none⟩) (cell_lt b1_6)).trans b1_6
  have y3_7 := y3_6.below hb7 (Nat.le_refl _)
  have y4_7 := y4_6.below hb7 (Nat.le_refl _)
  have y6_7 := y6_6.below hb7 (Nat.le_refl _)
  go_wp2_with fail
  refine (toGraph_any _ _ _ (hv1.below q7 (Nat.le_refl _)) hsm1).mono ?_
  rintro e w8 ⟨x8, rfl, hy8, hb8⟩
  have q8 := q7.trans (hb8.mono q7.size)
  have b0_8 : w8.cell? ⟨w.heap.size, 0, none⟩ = some (.slice a0 g0.length c0) := (hb8.cell (p := ⟨w.heap.size, 0, none⟩) (by have := cell_lt b0_7; simp at this ⊢; omega)).trans b0_7
  have b1_8 : w8.cell? ⟨w.heap.size + 1, 0, none⟩ = some (.slice a1 g1.length c1) := (hb8.cell (p := ⟨w.heap.size + 1, 0, none⟩) (by have := cell_lt b1_7; simp at this ⊢; omega)).trans b1_7
  have l7_8 : w8.cell? ⟨w6.heap.size, 0, none⟩ = some (.slice xa7 g0.length xc7) := (hb8.cell (p := ⟨w6.heap.size, 0, none⟩) (by simp)).trans (by simp [go_sem])
  have y3_8 := y3_7.below hb8 (Nat.le_refl _)
  have y4_8 := y4_7.below hb8 (Nat.le_refl _)
  have y6_8 := y6_7.below hb8 (Nat.le_refl _)
  have y8_8 := hy8
  obtain ⟨xa9, xc9, rfl⟩ := y8_8.slice
  have hb9 : Below w8.heap.size w8 (w8.alloc (.cells #[.slice xa9 g1.length xc9] 27)) := (Below.refl _ _).alloc (Nat.le_refl _) _
  have q9 := q8.trans (hb9.mono q8.size)
  have b0_9 := (hb9.cell (p := ⟨w.heap.size, 0, none⟩) (cell_lt b0_8)).trans b0_8
  have b1_9 := (hb9.cell (p := ⟨w.heap.size + 1, 0, none⟩) (cell_lt b1_8)).trans b1_8
  have l7_9 := (hb9.cell (p := ⟨w6.heap.size, 0, none⟩) (cell_lt l7_8)).trans l7_8
  have y3_9 := y3_8.below hb9 (Nat.le_refl _)
  have y4_9 := y4_8.below hb9 (Nat.le_refl _)
  have y6_9 := y6_8.below hb9 (Nat.le_refl _)
  have y8_9 := y8_8.below hb9 (Nat.le_refl _)
  go_wp2_with fail
  refine (implFreeOf_any y6_9 y8_9).mono ?_
  rintro e w10 ⟨rfl, hb10⟩
  have q10 := q9.trans (hb10.mono q9.size)
  have b0_10 : w10.cell? ⟨w.heap.size, 0, none⟩ = some (.slice a0 g0.length c0) := (hb10.cell (p := ⟨w.heap.size, 0, none⟩) (by have := cell_lt b0_9; simp at this ⊢; omega)).trans b0_9
  have b1_10 : w10.cell? ⟨w.heap.size + 1, 0, none⟩ = some (.slice a1 g1.length c1) := (hb10.cell (p := ⟨w.heap.size + 1, 0, none⟩) (by have := cell_lt b1_9; simp at this ⊢; omega)).trans b1_9
  have l7_10 : w10.cell? ⟨w6.heap.size, 0, none⟩ = some (.slice xa7 g0.length xc7) := (hb10.cell (p := ⟨w6.heap.size, 0, none⟩) (by have := cell_lt l7_9; simp at this ⊢; omega)).trans l7_9
  have l9_10 : w10.cell? ⟨w8.heap.size, 0, none⟩ = some (.slice xa9 g1.length xc9) := (hb10.cell (p := ⟨w8.heap.size, 0, none⟩) (by simp)).trans (by simp [go_sem])
  have y3_10 := y3_9.below hb10 (Nat.le_refl _)
  have y4_10 := y4_9.below hb10 (Nat.le_refl _)
  have y6_10 := y6_9.below hb10 (Nat.le_refl _)
  have y8_10 := y8_9.below hb10 (Nat.le_refl _)
  go_wp2
  have _tt : True := trivial
  refine wp_region_held_drew (S := (fun w' => w'.cell? ⟨w.heap.size, 0, none⟩ = some (.slice a0 g0.length c0) ∧ w'.cell? ⟨w.heap.size + 1, 0, none⟩ = some (.slice a1 g1.length c1) ∧ w'.cell? ⟨w6.heap.size, 0, none⟩ = some (.slice xa7 g0.length xc7) ∧ w'.cell? ⟨w8.heap.size, 0, none⟩ = some (.slice xa9 g1.length xc9))) (by kernel_rfl) ?_ (fun hHeld => ?_)
  · first | exact ⟨‹_›, ‹_›, ‹_›, ‹_›⟩ | assumption | (simp [*, go_sem])
  refine wpAnyH_take (i := 0) (v := ?v19) (by simp only [List.getElem?_toArray, List.getElem?_cons_zero]; exact rfl) (by kernel_rfl) (by kernel_rfl) (by kernel_rfl) (by intro _ _ _ h; exact h) (Or.inl ⟨by rfl, ?y19⟩) hHeld ?_
  case y19 => (intro w hSw; (try dsimp only at hSw); go_simp; try (with_reducible rfl))
  try simp only [Act.put, List.setIfInBounds_toArray, List.set_cons_zero, List.set_cons_succ]
  refine wpAnyH_take (i := 1) (v := ?v20) (by simp only [List.getElem?_toArray, List.getElem?_cons_succ, List.getElem?_cons_zero]; exact rfl) (by kernel_rfl) (by kernel_rfl) (by kernel_rfl) (by intro _ _ _ h; exact h) (Or.inl ⟨by rfl, ?y20⟩) hHeld ?_
  case y20 => (intro w hSw; (try dsimp only at hSw); go_simp; try (with_reducible rfl))
  try simp only [Act.put, List.setIfInBounds_toArray, List.set_cons_zero, List.set_cons_succ]
  refine wpAnyH_ready (rs := [2]) (by kernel_rfl) (by simp) ?_
  refine AllReadyH.cons (by simp only [List.getElem?_toArray, List.getElem?_cons_succ, List.getElem?_cons_zero]; exact rfl) (fun K hK => ?_) AllReadyH.nil
  go_simp
  have q10d := q10.drew
  refine (toGraph_any _ _ _ (hv0.below q10d (Nat.le_refl _)) hsm0).mono ?_
  rintro e w11 ⟨x11, rfl, hy11, hb11⟩
  have hb11e : Below w10.heap.size w10 w11 := ⟨hb11.os, hb11.tape, hb11.output, hb11.size, hb11.block⟩
  have q11 := q10.trans (hb11e.mono q10.size)
  have b0_11 : w11.cell? ⟨w.heap.size, 0, none⟩ = some (.slice a0 g0.length c0) := (hb11e.cell (p := ⟨w.heap.size, 0, none⟩) (cell_lt b0_10)).trans b0_10
  have b1_11 : w11.cell? ⟨w.heap.size + 1, 0, none⟩ = some (.slice a1 g1.length c1) := (hb11e.cell (p := ⟨w.heap.size + 1, 0, none⟩) (cell_lt b1_10)).trans b1_10
  have l7_11 : w11.cell? ⟨w6.heap.size, 0, none⟩ = some (.slice xa7 g0.length xc7) := (hb11e.cell (p := ⟨w6.heap.size, 0, none⟩) (cell_lt l7_10)).trans l7_10
  have l9_11 : w11.cell? ⟨w8.heap.size, 0, none⟩ = some (.slice xa9 g1.length xc9) := (hb11e.cell (p := ⟨w8.heap.size, 0, none⟩) (cell_lt l9_10)).trans l9_10
  have y3_11 := y3_10.below hb11e (Nat.le_refl _)
  have y4_11 := y4_10.below hb11e (Nat.le_refl _)
  have y6_11 := y6_10.below hb11e (Nat.le_refl _)
  have y8_11 := y8_10.below hb11e (Nat.le_refl _)
  have y11_11 := hy11
  try dsimp only
  refine hK.out _ _ ?h22 (fun hHeld => ?_)
  case h22 => first | exact ⟨‹_›, ‹_›, ‹_›, ‹_›⟩ | assumption | (simp [*, go_sem])
  clear hK K
  try simp only [Act.put, List.setIfInBounds_toArray, List.set_cons_zero, List.set_cons_succ]
  refine wpAnyH_ready (rs := [3]) (by kernel_rfl) (by simp) ?_
  refine AllReadyH.cons (by simp only [List.getElem?_toArray, List.getElem?_cons_succ, List.getElem?_cons_zero]; exact rfl) (fun K hK => ?_) AllReadyH.nil
  go_simp
  refine (eqGraph_any _ _ _ _ _ y6_11 y11_11).mono ?_
  rintro e w12 ⟨rfl, hb12⟩
  have q12 := q11.trans (hb12.mono q11.size)
  have b0_12 : w12.cell? ⟨w.heap.size, 0, none⟩ = some (.slice a0 g0.length c0) := (hb12.cell (p := ⟨w.heap.size, 0, none⟩) (cell_lt b0_11)).trans b0_11
  have b1_12 : w12.cell? ⟨w.heap.size + 1, 0, none⟩ = some (.slice a1 g1.length c1) := (hb12.cell (p := ⟨w.heap.size + 1, 0, none⟩) (cell_lt b1_11)).trans b1_11
  have l7_12 : w12.cell? ⟨w6.heap.size, 0, none⟩ = some (.slice xa7 g0.length xc7) := (hb12.cell (p := ⟨w6.heap.size, 0, none⟩) (cell_lt l7_11)).trans l7_11
  have l9_12 : w12.cell? ⟨w8.heap.size, 0, none⟩ = some (.slice xa9 g1.length xc9) := (hb12.cell (p := ⟨w8.heap.size, 0, none⟩) (cell_lt l9_11)).trans l9_11
  have y3_12 := y3_11.below hb12 (Nat.le_refl _)
  have y4_12 := y4_11.below hb12 (Nat.le_refl _)
  have y6_12 := y6_11.below hb12 (Nat.le_refl _)
  have y8_12 := y8_11.below hb12 (Nat.le_refl _)
  have y11_12 := y11_11.below hb12 (Nat.le_refl _)
  try dsimp only
  refine hK.out _ _ ?h24 (fun hHeld => ?_)
  case h24 => first | exact ⟨‹_›, ‹_›, ‹_›, ‹_›⟩ | assumption | (simp [*, go_sem])
  clear hK K
  try simp only [Act.put, List.setIfInBounds_toArray, List.set_cons_zero, List.set_cons_succ]
  refine wpAnyH_take (i := 4) (v := ?v25) (by simp only [List.getElem?_toArray, List.getElem?_cons_succ, List.getElem?_cons_zero]; exact rfl) (by kernel_rfl) (by kernel_rfl) (by kernel_rfl) (by intro _ _ _ h; exact h) (Or.inl ⟨by rfl, ?y25⟩) hHeld ?_
  case y25 => (intro w hSw; (try dsimp only at hSw); go_simp; try (with_reducible rfl))
  try simp only [Act.put, List.setIfInBounds_toArray, List.set_cons_zero, List.set_cons_succ]
  refine wpAnyH_done (by kernel_rfl) ?_ _
  go_wp2
  have _tt : True := trivial
  refine wp_region_held_drew (S := (fun w' => w'.cell? ⟨w.heap.size, 0, none⟩ = some (.slice a0 g0.length c0) ∧ w'.cell? ⟨w.heap.size + 1, 0, none⟩ = some (.slice a1 g1.length c1) ∧ w'.cell? ⟨w6.heap.size, 0, none⟩ = some (.slice xa7 g0.length xc7) ∧ w'.cell? ⟨w8.heap.size, 0, none⟩ = some (.slice xa9 g1.length xc9))) (by kernel_rfl) ?_ (fun hHeld => ?_)
  · first | exact ⟨‹_›, ‹_›, ‹_›, ‹_›⟩ | assumption | (simp [*, go_sem])
  refine wpAnyH_take (i := 0) (v := ?v26) (by simp only [List.getElem?_toArray, List.getElem?_cons_zero]; exact rfl) (by kernel_rfl) (by kernel_rfl) (by kernel_rfl) (by intro _ _ _ h; exact h) (Or.inl ⟨by rfl, ?y26⟩) hHeld ?_
  case y26 => (intro w hSw; (try dsimp only at hSw); go_simp; try (with_reducible rfl))
  try simp only [Act.put, List.setIfInBounds_toArray, List.set_cons_zero, List.set_cons_succ]
  refine wpAnyH_take (i := 1) (v := ?v27) (by simp only [List.getElem?_toArray, List.getElem?_cons_succ, List.getElem?_cons_zero]; exact rfl) (by kernel_rfl) (by kernel_rfl) (by kernel_rfl) (by intro _ _ _ h; exact h) (Or.inl ⟨by rfl, ?y27⟩) hHeld ?_
  case y27 => (intro w hSw; (try dsimp only at hSw); go_simp; try (with_reducible rfl))
  try simp only [Act.put, List.setIfInBounds_toArray, List.set_cons_zero, List.set_cons_succ]
  refine wpAnyH_ready (rs := [2]) (by kernel_rfl) (by simp) ?_
  refine AllReadyH.cons (by simp only [List.getElem?_toArray, List.getElem?_cons_succ, List.getElem?_cons_zero]; exact rfl) (fun K hK => ?_) AllReadyH.nil
  go_simp
  have q12d := q12.drew
  refine (toGraph_any _ _ _ (hv1.below q12d (Nat.le_refl _)) hsm1).mono ?_
  rintro e w13 ⟨x13, rfl, hy13, hb13⟩
  have hb13e : Below w12.heap.size w12 w13 := ⟨hb13.os, hb13.tape, hb13.output, hb13.size, hb13.block⟩
  have q13 := q12.trans (hb13e.mono q12.size)
  have b0_13 : w13.cell? ⟨w.heap.size, 0, none⟩ = some (.slice a0 g0.length c0) := (hb13e.cell (p := ⟨w.heap.size, 0, none⟩) (cell_lt b0_12)).trans b0_12
  have b1_13 : w13.cell? ⟨w.heap.size + 1, 0, none⟩ = some (.slice a1 g1.length c1) := (hb13e.cell (p := ⟨w.heap.size + 1, 0, none⟩) (cell_lt b1_12)).trans b1_12
  have l7_13 : w13.cell? ⟨w6.heap.size, 0, none⟩ = some (.slice xa7 g0.length xc7) := (hb13e.cell (p := ⟨w6.heap.size, 0, none⟩) (cell_lt l7_12)).trans l7_12
  have l9_13 : w13.cell? ⟨w8.heap.size, 0, none⟩ = some (.slice xa9 g1.length xc9) := (hb13e.cell (p := ⟨w8.heap.size, 0, none⟩) (cell_lt l9_12)).trans l9_12
  have y3_13 := y3_12.below hb13e (Nat.le_refl _)
  have y4_13 := y4_12.below hb13e (Nat.le_refl _)
  have y6_13 := y6_12.below hb13e (Nat.le_refl _)
  have y8_13 := y8_12.below hb13e (Nat.le_refl _)
  have y11_13 := y11_12.below hb13e (Nat.le_refl _)
  have y13_13 := hy13
  try dsimp only
  refine hK.out _ _ ?h29 (fun hHeld => ?_)
  case h29 => first | exact ⟨‹_›, ‹_›, ‹_›, ‹_›⟩ | assumption | (simp [*, go_sem])
  clear hK K
  try simp only [Act.put, List.setIfInBounds_toArray, List.set_cons_zero, List.set_cons_succ]
  refine wpAnyH_ready (rs := [3]) (by kernel_rfl) (by simp) ?_
  refine AllReadyH.cons (by simp only [List.getElem?_toArray, List.getElem?_cons_succ, List.getElem?_cons_zero]; exact rfl) (fun K hK => ?_) AllReadyH.nil
  go_simp
  refine (eqGraph_any _ _ _ _ _ y8_13 y13_13).mono ?_
  rintro e w14 ⟨rfl, hb14⟩
  have q14 := q13.trans (hb14.mono q13.size)
  have b0_14 : w14.cell? ⟨w.heap.size, 0, none⟩ = some (.slice a0 g0.length c0) := (hb14.cell (p := ⟨w.heap.size, 0, none⟩) (cell_lt b0_13)).trans b0_13
  have b1_14 : w14.cell? ⟨w.heap.size + 1, 0, none⟩ = some (.slice a1 g1.length c1) := (hb14.cell (p := ⟨w.heap.size + 1, 0, none⟩) (cell_lt b1_13)).trans b1_13
  have l7_14 : w14.cell? ⟨w6.heap.size, 0, none⟩ = some (.slice xa7 g0.length xc7) := (hb14.cell (p := ⟨w6.heap.size, 0, none⟩) (cell_lt l7_13)).trans l7_13
  have l9_14 : w14.cell? ⟨w8.heap.size, 0, none⟩ = some (.slice xa9 g1.length xc9) := (hb14.cell (p := ⟨w8.heap.size, 0, none⟩) (cell_lt l9_13)).trans l9_13
  have y3_14 := y3_13.below hb14 (Nat.le_refl _)
  have y4_14 := y4_13.below hb14 (Nat.le_refl _)
  have y6_14 := y6_13.below hb14 (Nat.le_refl _)
  have y8_14 := y8_13.below hb14 (Nat.le_refl _)
  have y11_14 := y11_13.below hb14 (Nat.le_refl _)
  have y13_14 := y13_13.below hb14 (Nat.le_refl _)
  try dsimp only
  refine hK.out _ _ ?h31 (fun hHeld => ?_)
  case h31 => first | exact ⟨‹_›, ‹_›, ‹_›, ‹_›⟩ | assumption | (simp [*, go_sem])
  clear hK K
  try simp only [Act.put, List.setIfInBounds_toArray, List.set_cons_zero, List.set_cons_succ]
  refine wpAnyH_take (i := 4) (v := ?v32) (by simp only [List.getElem?_toArray, List.getElem?_cons_succ, List.getElem?_cons_zero]; exact rfl) (by kernel_rfl) (by kernel_rfl) (by kernel_rfl) (by intro _ _ _ h; exact h) (Or.inl ⟨by rfl, ?y32⟩) hHeld ?_
  case y32 => (intro w hSw; (try dsimp only at hSw); go_simp; try (with_reducible rfl))
  try simp only [Act.put, List.setIfInBounds_toArray, List.set_cons_zero, List.set_cons_succ]
  refine wpAnyH_done (by kernel_rfl) ?_ _
  go_wp2
  go_ret
  exact ⟨rfl, q14⟩
end Go.Proofs.Ytakcoihndobmpaa
