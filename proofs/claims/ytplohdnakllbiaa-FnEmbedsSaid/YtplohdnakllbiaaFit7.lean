/- EmbedsIn, FreeOf, AlikeIn of the program. -/
import Derived.Test.YtplohdnakllbiaaFit6
import Derived.Test.YtplohdnakllbiaaSets
import Derived.Test.YtplohdnakllbiaaLaws
namespace Go.Proofs.Ytplohdnakllbiaa
open Go.RowKit
def TwoO (E : TypeId) (f : Option (List Nat)) (w : World) (e : Ending) (w' : World) : Prop := ∃ u, e = .returned (.tuple #[u, .bool f.isSome]) ∧ Own w' w.heap.size E 1 u (f.getD []).length ((natsI (f.getD [])).map (.int .i64)) ∧ Below w.heap.size w w'
theorem fit_long {g p : List (List Int)} {r : List Nat} (h : fitO (netsL g) (netsL p) = some r) : r.length = p.length := by
  unfold fitO at h
  rcases srch_fit (netsL g) (netsL p) (netsL p).length [] none with ⟨h1, h2⟩ | ⟨h1, r', h2, h3⟩
  · rw [h2] at h; cases h
  · rw [h2] at h; cases h; rw [h3, netsL_len]; simp
set_option maxHeartbeats 4000000 in
theorem implEmbedsIn_any {S S' : Nat → Prop} {pv gv : Value} {p g : List (List Int)} {w : World} (hvp : SlR S w pv p) (hvg : SlR S' w gv g) :
    Calls Try.prog 16 #[.agg #[pv], .agg #[gv]] w (TwoO 2 (embF p g) w) := by
  have hq0 : Below w.heap.size w ((w.alloc (.cells #[pv] 31)).alloc (.cells #[gv] 31)) := ((Below.refl _ _).alloc (Nat.le_refl _) _).alloc (by simp) _
  obtain ⟨pa, pc, rfl⟩ := hvp.slice
  obtain ⟨ga, gc, rfl⟩ := hvg.slice
  have hs0 := isSmall_any (hvp.below hq0 (Nat.le_refl _))
  by_cases hsm : smallB p = true
  case neg =>
    have hsm' : smallB p = false := by simpa using hsm
    rw [hsm'] at hs0
    have HE := Lib.hid (show embF p g = none by simp [embF, hsm'])
    clear hsm hsm'
    go_enter Try.func16, Try.ntmps16
    go_wp2_with fail
    refine hs0.mono ?_
    rintro e w1 ⟨rfl, hb1⟩
    go_wp2
    go_ret2
    rw [HE.out]
    exact ⟨_, rfl, Own.nil _ _ _ _, hq0.trans (hb1.mono hq0.size)⟩
  rw [hsm] at hs0
  have hgp : gokB p = true := by simp only [smallB, Bool.and_eq_true] at hsm; exact hsm.1
  have HG := fun (w' : World) (hb : Below w.heap.size w w') => implGraphOk_any _ _ _ (hvg.below hb (Nat.le_refl _))
  by_cases hgg : gokB g = true
  case neg =>
    have hgg' : gokB g = false := by simpa using hgg
    have HE := Lib.hid (show embF p g = none by simp [embF, hgg'])
    rw [hgg'] at HG
    clear hgg hgg' hsm hgp
    go_enter Try.func16, Try.ntmps16
    go_wp2_with fail
    refine hs0.mono ?_
    rintro e w1 ⟨rfl, hb1⟩
    have hq1 := hq0.trans (hb1.mono hq0.size)
    have c4 : w1.cell? ⟨w.heap.size + 1, 0, none⟩ = some (.slice ga g.length gc) := (hb1.cell (p := ⟨w.heap.size + 1, 0, none⟩) (by simp)).trans (by simp [go_sem])
    go_wp2_with fail
    refine (HG _ hq1).mono ?_
    rintro e w2 ⟨rfl, hb2⟩
    go_wp2
    go_ret2
    rw [HE.out]
    exact ⟨_, rfl, Own.nil _ _ _ _, hq1.trans (hb2.mono hq1.size)⟩
  rw [hgg] at HG
  have hGp := gokB_iff.1 hgp
  have hGg := gokB_iff.1 hgg
  have hhp := hGp.hi
  have hhg := hGg.hi
  have hlp := hGp.lo
  have HE := Lib.hid (show embF p g = fitO (netsL g) (netsL p) by simp [embF, hsm, hgg])
  clear hsm hgp hgg
  have q := nilInts
  go_enter Try.func16, Try.ntmps16
  go_wp2_with fail
  refine hs0.mono ?_
  rintro e w1 ⟨rfl, hb1⟩
  have hq1 := hq0.trans (hb1.mono hq0.size)
  have c3 : w1.cell? ⟨w.heap.size, 0, none⟩ = some (.slice pa p.length pc) := (hb1.cell (p := ⟨w.heap.size, 0, none⟩) (by simp; omega)).trans (by simp [go_sem])
  have c4 : w1.cell? ⟨w.heap.size + 1, 0, none⟩ = some (.slice ga g.length gc) := (hb1.cell (p := ⟨w.heap.size + 1, 0, none⟩) (by simp)).trans (by simp [go_sem])
  go_wp2_with fail
  refine (HG _ hq1).mono ?_
  rintro e wc ⟨rfl, hb2⟩
  have hqc := hq1.trans (hb2.mono hq1.size)
  have c3 := (hb2.cell (cell_lt c3)).trans c3
  have c4 := (hb2.cell (cell_lt c4)).trans c4
  clear hs0 HG
  go_wp2
  refine wp_region_held_drew (S := (fun w' => w'.cell? ⟨w.heap.size, 0, none⟩ = some (.slice pa p.length pc) ∧ w'.cell? ⟨w.heap.size + 1, 0, none⟩ = some (.slice ga g.length gc))) (by kernel_rfl) ?_ (fun hHeld => ?_)
  · first | exact ⟨‹_›, ‹_›⟩ | (simp [*, go_sem])
  have hqc := hqc.drew
  generalize wc.drew = wd at hqc hHeld ⊢
  obtain ⟨c3, c4⟩ := hHeld
  have hHeld : (fun w' => World.cell? w' ⟨w.heap.size, 0, none⟩ = some (.slice pa p.length pc) ∧ World.cell? w' ⟨w.heap.size + 1, 0, none⟩ = some (.slice ga g.length gc)) wd := ⟨c3, c4⟩
  refine wpAnyH_take (i := 0) (v := ?v1) (by simp only [List.getElem?_toArray, List.getElem?_cons_zero]; exact rfl) (by kernel_rfl) (by kernel_rfl) (by kernel_rfl) (by intro _ _ _ h; exact h) (Or.inl ⟨by rfl, ?y1⟩) hHeld ?_
  case y1 => (intro w hSw; (try dsimp only at hSw); go_simp; try (with_reducible rfl))
  try simp only [Act.put, List.setIfInBounds_toArray, List.set_cons_zero, List.set_cons_succ]
  refine wpAnyH_take (i := 2) (v := ?v2) (by simp only [List.getElem?_toArray, List.getElem?_cons_succ, List.getElem?_cons_zero]; exact rfl) (by kernel_rfl) (by kernel_rfl) (by kernel_rfl) (by intro _ _ _ h; exact h) (Or.inl ⟨by rfl, ?y2⟩) hHeld ?_
  case y2 => (intro w hSw; (try dsimp only at hSw); go_simp; try (with_reducible rfl))
  try simp only [Act.put, List.setIfInBounds_toArray, List.set_cons_zero, List.set_cons_succ]
  refine wpAnyH_ready (rs := [1]) (by kernel_rfl) (by simp) ?_
  refine AllReadyH.cons (by simp only [List.getElem?_toArray, List.getElem?_cons_succ, List.getElem?_cons_zero]; exact rfl) (fun K hK => ?_) AllReadyH.nil
  go_simp
  first | ((with_reducible refine (netsOf_any _ _ _ (hvg.below hqc (Nat.le_refl _)) hGg).mono ?_); rintro e wn ⟨x1, rfl, hx1, hbn⟩; have hh := Own.ints (xs := natsI (netsL g)) hx1 (by omega)) | ((with_reducible refine (netsOf_any _ _ _ (hvp.below hqc (Nat.le_refl _)) hGp).mono ?_); rintro e wn ⟨x2, rfl, hx2, hbn⟩; have hp2 := Own.ints (xs := natsI (netsL p)) hx2 (by omega); have hh := hh.below hbn (Nat.le_refl _))
  have hqc := hqc.trans (hbn.mono hqc.size)
  have c3 := (hbn.cell (cell_lt c3)).trans c3
  have c4 := (hbn.cell (cell_lt c4)).trans c4
  try dsimp only
  refine hK.out _ _ ?h4 (fun hHeld => ?_)
  case h4 => first | exact ⟨‹_›, ‹_›⟩ | (simp [*, go_sem])
  clear hK K
  try simp only [Act.put, List.setIfInBounds_toArray, List.set_cons_zero, List.set_cons_succ]
  refine wpAnyH_ready (rs := [3]) (by kernel_rfl) (by simp) ?_
  refine AllReadyH.cons (by simp only [List.getElem?_toArray, List.getElem?_cons_succ, List.getElem?_cons_zero]; exact rfl) (fun K hK => ?_) AllReadyH.nil
  go_simp
  first | ((with_reducible refine (netsOf_any _ _ _ (hvg.below hqc (Nat.le_refl _)) hGg).mono ?_); rintro e wn ⟨x1, rfl, hx1, hbn⟩; have hh := Own.ints (xs := natsI (netsL g)) hx1 (by omega)) | ((with_reducible refine (netsOf_any _ _ _ (hvp.below hqc (Nat.le_refl _)) hGp).mono ?_); rintro e wn ⟨x2, rfl, hx2, hbn⟩; have hp2 := Own.ints (xs := natsI (netsL p)) hx2 (by omega); have hh := hh.below hbn (Nat.le_refl _))
  have hqc := hqc.trans (hbn.mono hqc.size)
  have c3 := (hbn.cell (cell_lt c3)).trans c3
  have c4 := (hbn.cell (cell_lt c4)).trans c4
  try dsimp only
  refine hK.out _ _ ?h6 (fun hHeld => ?_)
  case h6 => first | exact ⟨‹_›, ‹_›⟩ | (simp [*, go_sem])
  clear hK K
  try simp only [Act.put, List.setIfInBounds_toArray, List.set_cons_zero, List.set_cons_succ]
  refine wpAnyH_ready (rs := [4]) (by kernel_rfl) (by simp) ?_
  refine AllReadyH.cons (by simp only [List.getElem?_toArray, List.getElem?_cons_succ, List.getElem?_cons_zero]; exact rfl) (fun K hK => ?_) AllReadyH.nil
  go_simp
  (with_reducible refine (firstFit_any hh hp2 (by rw [netsL_len]; omega) (by rw [netsL_len]; omega) (netsL_lt hGg) (netsL_lt hGp)).mono ?_)
  rintro e wn ⟨r, rfl, hr0, hr, hbn⟩
  have hqc := hqc.trans (hbn.mono hqc.size)
  have c3 := (hbn.cell (cell_lt c3)).trans c3
  have c4 := (hbn.cell (cell_lt c4)).trans c4
  try dsimp only
  refine hK.out _ _ ?h8 (fun hHeld => ?_)
  case h8 => first | exact ⟨‹_›, ‹_›⟩ | (simp [*, go_sem])
  clear hK K
  try simp only [Act.put, List.setIfInBounds_toArray, List.set_cons_zero, List.set_cons_succ]
  refine wpAnyH_take (i := 5) (v := ?v9) (by simp only [List.getElem?_toArray, List.getElem?_cons_succ, List.getElem?_cons_zero]; exact rfl) (by kernel_rfl) (by kernel_rfl) (by kernel_rfl) (by intro _ _ _ h; exact h) (Or.inl ⟨by rfl, ?y9⟩) hHeld ?_
  case y9 => (intro w hSw; (try dsimp only at hSw); go_simp; try (with_reducible rfl))
  try simp only [Act.put, List.setIfInBounds_toArray, List.set_cons_zero, List.set_cons_succ]
  refine wpAnyH_done (by kernel_rfl) ?_ _
  have hfl := fun r => fit_long (g := g) (p := p) (r := r)
  cases hf : fitO (netsL g) (netsL p) with
  | none =>
    rw [hf] at hr0 HE
    obtain rfl := hr0 rfl
    clear hr hfl hf
    go_wp2
    go_ret2
    rw [HE.out]
    exact ⟨_, rfl, Own.nil _ _ _ _, hqc⟩
  | some r' =>
    have hl := hfl r' hf
    rw [hf] at hr HE
    simp only [Option.getD_some] at hr
    have hri := hr.ints (xs := natsI r') (by omega)
    obtain ⟨rb, ro, rcap, hre, -⟩ := hri.at_
    have hre := hre (by rw [natsI_len]; omega)
    subst hre
    have HLL := Lib.hid hl
    clear hr0 hfl hf hl
    go_wp2_with fail
    refine (wide_any hri (by have := HLL.out; rw [natsI_len]; omega)).mono ?_
    rintro e w5 ⟨u, rfl, hu, hb5⟩
    obtain ⟨ua, uc, rfl⟩ := hu.isSlice
    rw [natsI_len] at hu ⊢
    go_wp2
    go_ret2
    rw [HE.out]
    exact ⟨_, rfl, hu.weak hqc.size, hqc.trans (hb5.mono hqc.size)⟩
set_option maxHeartbeats 2000000 in
theorem implFreeOf_any {S S' : Nat → Prop} {pv gv : Value} {p g : List (List Int)} {w : World} (hvg : SlR S' w gv g) (hvp : SlR S w pv p) :
    Calls Try.prog 19 #[.agg #[gv], .agg #[pv]] w fun e w' => e = .returned (.bool (gokB g && (smallB p && !(embF p g).isSome))) ∧ Below w.heap.size w w' := by
  have hq0 : Below w.heap.size w ((w.alloc (.cells #[gv] 31)).alloc (.cells #[pv] 31)) := ((Below.refl _ _).alloc (Nat.le_refl _) _).alloc (by simp) _
  obtain ⟨pa, pc, rfl⟩ := hvp.slice
  obtain ⟨ga, gc, rfl⟩ := hvg.slice
  have he0 := implEmbedsIn_any (hvp.below hq0 (Nat.le_refl _)) (hvg.below hq0 (Nat.le_refl _))
  have HG := fun (w' : World) (hb : Below w.heap.size w w') => implGraphOk_any _ _ _ (hvg.below hb (Nat.le_refl _))
  have HS := fun (w' : World) (hb : Below w.heap.size w w') => isSmall_any (hvp.below hb (Nat.le_refl _))
  unfold TwoO at he0
  cases hbs : (embF p g).isSome <;> cases hgg : gokB g <;> cases hsm : smallB p
  all_goals
    rw [hbs] at he0
    rw [hgg] at HG
    rw [hsm] at HS
    clear hbs hgg hsm
    go_enter Try.func19, Try.ntmps19
    go_wp2_with fail
    refine he0.mono ?_
    rintro e w1 ⟨u, rfl, hu, hb1⟩
    have hq1 := hq0.trans (hb1.mono hq0.size)
    obtain ⟨ua, uc, rfl⟩ := hu.isSlice
    have c3 : w1.cell? ⟨w.heap.size, 0, none⟩ = some (.slice ga g.length gc) := (hb1.cell (p := ⟨w.heap.size, 0, none⟩) (by simp; omega)).trans (by simp [go_sem])
    have c4 : w1.cell? ⟨w.heap.size + 1, 0, none⟩ = some (.slice pa p.length pc) := (hb1.cell (p := ⟨w.heap.size + 1, 0, none⟩) (by simp)).trans (by simp [go_sem])
    go_wp2_with fail
    refine (HG _ hq1).mono ?_
    rintro e w2 ⟨rfl, hb2⟩
    have hq2 := hq1.trans (hb2.mono hq1.size)
    have c4 := (hb2.cell (cell_lt c4)).trans c4
    first
    | (go_wp2
       go_ret
       exact ⟨rfl, hq2⟩)
    | (go_wp2_with fail
       refine (HS _ hq2).mono ?_
       rintro e w3 ⟨rfl, hb3⟩
       have hq3 := hq2.trans (hb3.mono hq2.size)
       go_wp2
       go_ret
       exact ⟨rfl, hq3⟩)
