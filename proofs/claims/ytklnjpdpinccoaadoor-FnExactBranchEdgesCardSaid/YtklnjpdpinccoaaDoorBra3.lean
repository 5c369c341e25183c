/- BranchEdges of the program, and the law. -/
import Derived.Test.YtklnjpdpinccoaaDoorBra2
namespace Go.Proofs.YtklnjpdpinccoaaDoor
open Go.RowKit
/-- The test by masks. -/
def tstN (s t u z : Nat) : Bool := s.testBit u && t.testBit z || s.testBit z && t.testBit u
theorem tst_masks {n : Nat} {A B : List Int} {u z : Nat} (hA : Rise A n) (hB : Rise B n) : tst A B [(u : Int), (z : Int)] = tstN (maskL A) (maskL B) u z := by
  have a : ∀ i : Nat, (maskL A).testBit i = decide ((i : Int) ∈ A) := fun i => testBit_maskL (fun x hx => (rise_ge hA x hx).1) i
  have b : ∀ i : Nat, (maskL B).testBit i = decide ((i : Int) ∈ B) := fun i => testBit_maskL (fun x hx => (rise_ge hB x hx).1) i
  simp only [tstN, a, b]; rfl
set_option maxRecDepth 100000 in
set_option maxHeartbeats 16000000 in
theorem implBranchEdges_any {S0 S1 S2 : Nat → Prop} {gv pv mv : Value} {g p ms : List (List Int)} {w : World} (ht : Tab w) (hvg : SlR S0 w gv g) (hvp : SlR S1 w pv p) (hvm : SlR S2 w mv ms) :
    Calls Tryd.prog 26 #[.agg #[gv], .agg #[pv], .agg #[mv]] w fun e w' => ∃ u, e = .returned u ∧ OwnR w' w.heap.size w'.heap.size 34 2 u (branchF g p ms) ∧ Below w.heap.size w w' := by
  have hgb := fun (W : World) (hb : Below w.heap.size w W) => hvg.below hb (Nat.le_refl _)
  have hpb := fun (W : World) (hb : Below w.heap.size w W) => hvp.below hb (Nat.le_refl _)
  have hmb := fun (W : World) (hb : Below w.heap.size w W) => hvm.below hb (Nat.le_refl _)
  obtain ⟨ga, gc, rfl⟩ := hvg.slice
  obtain ⟨pa, pc, rfl⟩ := hvp.slice
  obtain ⟨ma, mc, rfl⟩ := hvm.slice
  have hq0 : Below w.heap.size w (((w.alloc (.cells #[.slice ga g.length gc] 27)).alloc (.cells #[.slice pa p.length pc] 27)).alloc (.cells #[.slice ma ms.length mc] 43)) := (((Below.refl _ _).alloc (Nat.le_refl _) _).alloc (by simp) _).alloc (by simp; omega) _
  have hmo := implModelOk_any (ht.below hq0 (Nat.le_refl _)) (hgb _ hq0) (hpb _ hq0) (hmb _ hq0)
  by_cases hok : modelOkB g p ms = true
  case neg =>
    have hok' : modelOkB g p ms = false := by simpa using hok
    have HE := Lib.hid (show branchF g p ms = [] by rw [branchF, if_neg hok])
    rw [hok'] at hmo
    rw [HE.out]
    clear hok hok'
    go_enter Tryd.func26, Tryd.ntmps26
    go_wp2_with fail
    refine hmo.mono ?_
    rintro e w1 ⟨rfl, hb1⟩
    go_wp2
    go_ret
    exact ⟨_, rfl, ⟨[], rfl, Own.nil _ _ _ _, fun b hb => by simp [Value.ownBlock] at hb, ApartL.nil, fun i hi => by simp at hi⟩, hq0.trans (hb1.mono hq0.size)⟩
  have HE := Lib.hid (show branchF g p ms = branchL g p ms by rw [branchF, if_pos hok])
  obtain ⟨hg, hp, hlen, hri, hbt⟩ := model_parts hok
  rw [hok] at hmo
  rw [HE.out]
  have h16 := hg.hi
  have hp16 := hp.hi
  have hes := edges_small hp
  have hgs := edges_small hg
  have hEL := hes.1
  have hed := fun (W : World) (hb : Below w.heap.size w W) => edgesOf_any hp (hpb W hb)
  have heg := fun (W : World) (hb : Below w.heap.size w W) => edgesOf_any hg (hgb W hb)
  have hbag := fun (W : World) (hb : Below w.heap.size w W) => bagMasks_any (hmb W hb) (by omega) (fun k hk x hx => by have := rise_ge (hri k hk) x hx; omega)
  have HPT := Lib.hid (fun k (hk : k < (edgesL p).length) => edge_parts hp hk)
  have HGT := Lib.hid (fun k (hk : k < (edgesL g).length) => edge_parts hg hk)
  have HBT := Lib.hid (fun k (hk : k < (edgesL p).length) => hbt _ (List.getElem_mem hk))
  have HBL := Lib.hid (show branchL g p ms = (edgesL p).map (brE g ms) from rfl)
  have HFE := Lib.hid (show ∀ A B, firstE g A B = ((edgesL g).find? (tst A B)).getD [] from fun _ _ => rfl)
  have HBW := Lib.hid (show ∀ A B, betwB g A B = (edgesL g).any (tst A B) from fun _ _ => rfl)
  have hnl : (netsL ms).length = ms.length := netsL_len ms
  have HNG := Lib.hid (fun k (hk : k < ms.length) => show (netsL ms).getD k 0 = maskL ms[k] from netsL_get hk)
  have HN32 := Lib.hid (fun k (hk : k < ms.length) => show maskL ms[k] < 4294967296 from maskL_lt32 (fun x hx => by have := rise_ge (hri k hk) x hx; omega))
  have HRI := Lib.hid hri
  have HNL := Lib.hid hnl
  have HLEN := Lib.hid hlen
  clear hok hbt hri hnl hlen
  go_enter Tryd.func26, Tryd.ntmps26
  go_wp2_with fail
  refine hmo.mono ?_
  rintro e w1 ⟨rfl, hb1⟩
  have hq1 := hq0.trans (hb1.mono hq0.size)
  have b0 : w1.cell? ⟨w.heap.size, 0, none⟩ = some (.slice ga g.length gc) := (hb1.cell (p := ⟨w.heap.size, 0, none⟩) (by simp <;> omega)).trans (by simp [go_sem])
  have b1 : w1.cell? ⟨w.heap.size + 1, 0, none⟩ = some (.slice pa p.length pc) := (hb1.cell (p := ⟨w.heap.size + 1, 0, none⟩) (by simp <;> omega)).trans (by simp [go_sem])
  have b2 : w1.cell? ⟨w.heap.size + 2, 0, none⟩ = some (.slice ma ms.length mc) := (hb1.cell (p := ⟨w.heap.size + 2, 0, none⟩) (by simp <;> omega)).trans (by simp [go_sem])
  clear hmo hq0 hb1
  go_wp2_with fail
  refine (hbag _ hq1).mono ?_
  rintro e w2 ⟨bv, rfl, hbv, hb2⟩
  have hq2 := hq1.trans (hb2.mono hq1.size)
  have b0 := (hb2.cell (cell_lt b0)).trans b0
  have b1 := (hb2.cell (cell_lt b1)).trans b1
  have hsz2 : w.heap.size + 1 ≤ w2.heap.size := cell_lt b0
  have hba : Below w2.heap.size w2 (w2.alloc (.cells #[] 34)) := (Below.refl _ _).alloc (Nat.le_refl _) _
  have hR0 : OwnR (w2.alloc (.cells #[] 34)) (w.heap.size + 1) (w2.alloc (.cells #[] 34)).heap.size 34 2 (.slice (some ⟨w2.heap.size, 0, none⟩) 0 0) [] := by
    have ho0 : Own (w2.alloc (.cells #[] 34)) (w.heap.size + 1) 34 1 (.slice (some ⟨w2.heap.size, 0, none⟩) 0 0) 0 [] := by
      have := World.ownsRow_lit (base := w.heap.size + 1) (e := 34) (size := 1) w2 #[] 0 hsz2 (by unfold maxLen; omega) rfl
      simpa [Own] using this
    exact ⟨[], rfl, ho0, fun b hb => (ho0.lt b hb).2, ApartL.nil, fun i hi => by simp at hi⟩
  have hbi0 := Own.ints (xs := natsI (netsL ms)) hbv (by have := HLEN.out; omega)
  have hbvl := hbv.lt
  have hbi : SlI (fun b => w1.heap.size ≤ b ∧ b < w2.heap.size) w2 .u32 bv (natsI (netsL ms)) := hbi0.weak (fun b hb => hbvl b hb)
  have hq3 := hq2.trans (hba.mono hq2.size)
  have b0 := (hba.cell (cell_lt b0)).trans b0
  have b1 := (hba.cell (cell_lt b1)).trans b1
  have hbi := hbi.below hba (Nat.le_refl _)
  obtain ⟨ba, bc, rfl⟩ := own_some hbv (by have := HLEN.out; have := hp.lo; omega)
  clear hbv hbi0 hbvl hbag hb2 hq1 hq2
  go_wp2_with fail
  refine (hed _ hq3).mono ?_
  rintro e w3 ⟨ev, rfl, hev, hb3⟩
  have hq4 := hq3.trans (hb3.mono hq3.size)
  have b0 := (hb3.cell (cell_lt b0)).trans b0
  have hR1 := (hR0.below hb3 (Nat.le_refl _)).weaken (Nat.le_refl _) hb3.size
  have hbi := hbi.below hb3 (Nat.le_refl _)
  have hE := hev.rows hes
  have hbsz : w2.heap.size < w3.heap.size := Nat.lt_of_lt_of_le (by simp) hb3.size
  generalize edgesL p = E at *
  obtain ⟨ea, ec, rfl⟩ := hE.slice
  have hE2 : SlR (Off1 w3 (.slice (some ⟨w2.heap.size, 0, none⟩) 0 0)) w3 (.slice ea E.length ec) E := hE.weak (fun b hb => ⟨hb.2, fun e => by
    have h : w2.heap.size = b := by simpa [Value.ownBlock] using e
    have := hb.1; simp at this; omega⟩)
  have hB2 : SlI (Off1 w3 (.slice (some ⟨w2.heap.size, 0, none⟩) 0 0)) w3 .u32 (.slice (some ⟨ba, 0, none⟩) ms.length bc) (natsI (netsL ms)) := hbi.weak (fun b hb => ⟨by have := hb.2; omega, fun e => by
    have h : w2.heap.size = b := by simpa [Value.ownBlock] using e
    have := hb.2; omega⟩)
  clear hev hed b1 hE hbi hR0 hq3 hb3 hba
  generalize netsL ms = NM at *
  go_wp2
  go_loopw [8, 29] (fun o i wr => ∃ k : Nat, k ≤ E.length ∧ i = .int .i64 k ∧ OwnR wr (w.heap.size + 1) wr.heap.size 34 2 o ((E.take k).map (brE g ms)) ∧ SlR (Off1 wr o) wr (.slice ea E.length ec) E ∧ SlI (Off1 wr o) wr .u32 (.slice (some ⟨ba, 0, none⟩) ms.length bc) (natsI NM) ∧ Below w.heap.size w wr ∧ wr.cell? ⟨w.heap.size, 0, none⟩ = some (.slice ga g.length gc)) (fun _ i _ => E.length - (intOf i).toNat)
  case atStart => exact ⟨0, Nat.zero_le _, rfl, by simpa using hR1, hE2, hB2, hq4, b0⟩
  case round =>
    clear hR1 hE2 hB2 hq4 b0
    obtain ⟨k, hk, rfl, hR, hE, hB, hq, b0⟩ := hrel
    obtain ⟨wi, rfl⟩ : ∃ wx : World, wx = wr := ⟨_, rfl⟩
    have hml : ((E.take k).map (brE g ms)).length = k := by rw [List.length_map, List.length_take]; omega
    obtain ⟨oa, oc, rfl⟩ := hR.isSlice
    by_cases hlt : k < E.length
    case neg =>
      obtain rfl : k = E.length := by omega
      have HX := Lib.hid (show (E.take E.length).map (brE g ms) = branchL g p ms by rw [List.take_length, HBL.out])
      have hR2 : OwnR wi w.heap.size wi.heap.size 34 2 (.slice oa ((E.take E.length).map (brE g ms)).length oc) (branchL g p ms) := by rw [← HX.out]; exact hR.weaken (by omega) (Nat.le_refl _)
      go_wp2
      go_ret
      exact ⟨.slice oa ((E.take E.length).map (brE g ms)).length oc, rfl, hR2, hq⟩
    obtain ⟨u, z, hek, hu, hz⟩ := HPT.out k hlt
    have hbtk := HBT.out k hlt
    obtain ⟨eab, eb, eo, ecp, ef, hve, hel, hea, hec⟩ := hE
    obtain ⟨rfl, hSe⟩ := hea (by omega)
    simp only [Value.slice.injEq, true_and] at hve
    obtain ⟨rfl, rfl⟩ := hve
    obtain ⟨hce, hrow⟩ := hec k hlt
    rw [hek] at hrow hbtk
    obtain ⟨ra, rb, ro, rc, hre, -, hra, hrc⟩ := hrow
    obtain ⟨rfl, hSr⟩ := hra (by simp)
    rw [hre] at hce
    have c0 := hrc 0 (by simp)
    have c1 := hrc 1 (by simp)
    simp only [List.length_cons, List.length_nil, Nat.zero_add, List.getElem_cons_zero, List.getElem_cons_succ, Nat.add_zero] at hce c0 c1
    have hum : u < ms.length := by have := HLEN.out; omega
    have hzm : z < ms.length := by have := HLEN.out; omega
    have eu : ms.getD u [] = ms[u] := by simp [hum]
    have ez : ms.getD z [] = ms[z] := by simp [hzm]
    have hbw : betwB g ms[u] ms[z] = true := by rw [← eu, ← ez]; exact hbtk
    have HTK := Lib.hid (show (E.take (k + 1)).map (brE g ms) = (E.take k).map (brE g ms) ++ [firstE g ms[u] ms[z]] by
      rw [List.take_succ_eq_append_getElem hlt, List.map_append, hek, ← eu, ← ez]; rfl)
    have hE2 : SlR (Off1 wi (.slice oa ((E.take k).map (brE g ms)).length oc)) wi (.slice (some ⟨eb, eo, none⟩) E.length ec) E := ⟨_, eb, eo, ec, ef, rfl, hel, hea, hec⟩
    obtain ⟨mb, mo, mcp, hme, hmc⟩ := hB.at_
    have hme := hme (by rw [natsI_len, HNL.out]; omega)
    rw [natsI_len, HNL.out] at hme
    simp only [Value.slice.injEq, Option.some.injEq, Addr.mk.injEq, and_true, true_and] at hme
    obtain ⟨⟨rfl, rfl⟩, -⟩ := hme
    have hcu := hmc u (by rw [natsI_len, HNL.out]; exact hum)
    have hcz := hmc z (by rw [natsI_len, HNL.out]; exact hzm)
    have gu := HNG.out u hum
    have gz := HNG.out z hzm
    have hnu : NM.getD u 0 = NM[u]'(by rw [HNL.out]; exact hum) := by simp; rw [List.getElem?_eq_getElem (by rw [HNL.out]; exact hum)]; rfl
    have hnz : NM.getD z 0 = NM[z]'(by rw [HNL.out]; exact hzm) := by simp; rw [List.getElem?_eq_getElem (by rw [HNL.out]; exact hzm)]; rfl
    rw [natsI_getE _ (by rw [HNL.out]; exact hum), ← hnu, gu, Nat.zero_add] at hcu
    rw [natsI_getE _ (by rw [HNL.out]; exact hzm), ← hnz, gz, Nat.zero_add] at hcz
    have hs32 := HN32.out u hum
    have ht32 := HN32.out z hzm
    have HTS := Lib.hid (fun x y : Nat => tst_masks (u := x) (z := y) (HRI.out u hum) (HRI.out z hzm))
    have HFI := Lib.hid (HFE.out ms[u] ms[z])
    have HAN := Lib.hid ((HBW.out ms[u] ms[z]).symm.trans hbw)
    have hfl := firstE_len hg ms[u] ms[z]
    clear hec hel hea hrc hre hek hmc eu ez gu gz hnu hnz hbw hbtk
    generalize firstE g ms[u] ms[z] = fe at *
    generalize maskL ms[u] = s at *
    generalize maskL ms[z] = t at *
    generalize ms[u] = A at *
    generalize ms[z] = B at *
    generalize (E.take k).map (brE g ms) = F at *
    have hFl : F.length ≤ 1048576 := by omega
    have HML := Lib.hid hml
    clear hml
    go_wp2
    refine wp_region_held_drew (S := (fun w' => w'.cell? ⟨rb, ro, none⟩ = some (.int .i64 (u : Int)) ∧ w'.cell? ⟨rb, ro + 1, none⟩ = some (.int .i64 (z : Int)) ∧ w'.cell? ⟨ba, u, none⟩ = some (.int .u32 (s : Int)) ∧ w'.cell? ⟨ba, z, none⟩ = some (.int .u32 (t : Int)))) (by kernel_rfl) ?_ (fun hHeld => ?_)
    · first | exact ⟨‹_›, ‹_›, ‹_›, ‹_›⟩ | assumption | (simp [*, go_sem])
    have hdb := (Below.refl wi.heap.size wi).drew
    have hqd := hq.drew
    have hRd := hR.below hdb (Nat.le_refl _)
    have hEd := hE2.offBelow hdb
    have hBd := hB.offBelow hdb
    have b0d : wi.drew.cell? ⟨w.heap.size, 0, none⟩ = some (.slice ga g.length gc) := b0
    have hszd : wi.drew.heap.size = wi.heap.size := rfl
    rw [← hszd] at hRd
    clear hszd
    generalize wi.drew = wd at hqd hRd hEd hBd b0d hHeld ⊢
    refine wpAnyH_take (i := 0) (v := ?v1) (by simp only [List.getElem?_toArray, List.getElem?_cons_zero]; exact rfl) (by kernel_rfl) (by kernel_rfl) (by kernel_rfl) (by intro _ _ _ h; exact h) (Or.inl ⟨by rfl, ?y1⟩) hHeld ?_
    case y1 => (intro w hSw; (try dsimp only at hSw); go_simp; try (with_reducible rfl))
    try simp only [Act.put, List.setIfInBounds_toArray, List.set_cons_zero, List.set_cons_succ]
    refine wpAnyH_take (i := 1) (v := ?v2) (by simp only [List.getElem?_toArray, List.getElem?_cons_succ, List.getElem?_cons_zero]; exact rfl) (by kernel_rfl) (by kernel_rfl) (by kernel_rfl) (by intro _ _ _ h; exact h) (Or.inl ⟨by rfl, ?y2⟩) hHeld ?_
    case y2 => (intro w hSw; (try dsimp only at hSw); go_simp; try (with_reducible rfl))
    try simp only [Act.put, List.setIfInBounds_toArray, List.set_cons_zero, List.set_cons_succ]
    refine wpAnyH_take (i := 2) (v := ?v3) (by simp only [List.getElem?_toArray, List.getElem?_cons_succ, List.getElem?_cons_zero]; exact rfl) (by kernel_rfl) (by kernel_rfl) (by kernel_rfl) (by intro _ _ _ h; exact h) (Or.inl ⟨by rfl, ?y3⟩) hHeld ?_
    case y3 => (intro w hSw; (try dsimp only at hSw); go_simp; try (with_reducible rfl))
    try simp only [Act.put, List.setIfInBounds_toArray, List.set_cons_zero, List.set_cons_succ]
    refine wpAnyH_take (i := 3) (v := ?v4) (by simp only [List.getElem?_toArray, List.getElem?_cons_succ, List.getElem?_cons_zero]; exact rfl) (by kernel_rfl) (by kernel_rfl) (by kernel_rfl) (by intro _ _ _ h; exact h) (Or.inl ⟨by rfl, ?y4⟩) hHeld ?_
    case y4 => (intro w hSw; (try dsimp only at hSw); go_simp; try (with_reducible rfl))
    try simp only [Act.put, List.setIfInBounds_toArray, List.set_cons_zero, List.set_cons_succ]
    refine wpAnyH_take (i := 4) (v := ?v5) (by simp only [List.getElem?_toArray, List.getElem?_cons_succ, List.getElem?_cons_zero]; exact rfl) (by kernel_rfl) (by kernel_rfl) (by kernel_rfl) (by intro _ _ _ h; exact h) (Or.inl ⟨by rfl, ?y5⟩) hHeld ?_
    case y5 => (intro w hSw; (try dsimp only at hSw); go_simp; try (with_reducible rfl))
    try simp only [Act.put, List.setIfInBounds_toArray, List.set_cons_zero, List.set_cons_succ]
    refine wpAnyH_take (i := 5) (v := ?v6) (by simp only [List.getElem?_toArray, List.getElem?_cons_succ, List.getElem?_cons_zero]; exact rfl) (by kernel_rfl) (by kernel_rfl) (by kernel_rfl) (by intro _ _ _ h; exact h) (Or.inl ⟨by rfl, ?y6⟩) hHeld ?_
    case y6 => (intro w hSw; (try dsimp only at hSw); go_simp; try (with_reducible rfl))
    try simp only [Act.put, List.setIfInBounds_toArray, List.set_cons_zero, List.set_cons_succ]
    refine wpAnyH_take (i := 6) (v := ?v7) (by simp only [List.getElem?_toArray, List.getElem?_cons_succ, List.getElem?_cons_zero]; exact rfl) (by kernel_rfl) (by kernel_rfl) (by kernel_rfl) (by intro _ _ _ h; exact h) (Or.inl ⟨by rfl, ?y7⟩) hHeld ?_
    case y7 => (intro w hSw; (try dsimp only at hSw); go_simp; try (with_reducible rfl))
    try simp only [Act.put, List.setIfInBounds_toArray, List.set_cons_zero, List.set_cons_succ]
    refine wpAnyH_take (i := 7) (v := ?v8) (by simp only [List.getElem?_toArray, List.getElem?_cons_succ, List.getElem?_cons_zero]; exact rfl) (by kernel_rfl) (by kernel_rfl) (by kernel_rfl) (by intro _ _ _ h; exact h) (Or.inl ⟨by rfl, ?y8⟩) hHeld ?_
    case y8 => (intro w hSw; (try dsimp only at hSw); go_simp; try (with_reducible rfl))
    try simp only [Act.put, List.setIfInBounds_toArray, List.set_cons_zero, List.set_cons_succ]
    refine wpAnyH_take (i := 8) (v := ?v9) (by simp only [List.getElem?_toArray, List.getElem?_cons_succ, List.getElem?_cons_zero]; exact rfl) (by kernel_rfl) (by kernel_rfl) (by kernel_rfl) (by intro _ _ _ h; exact h) (Or.inl ⟨by rfl, ?y9⟩) hHeld ?_
    case y9 => (intro w hSw; (try dsimp only at hSw); go_simp; try (with_reducible rfl))
    try simp only [Act.put, List.setIfInBounds_toArray, List.set_cons_zero, List.set_cons_succ]
    refine wpAnyH_take (i := 9) (v := ?v10) (by simp only [List.getElem?_toArray, List.getElem?_cons_succ, List.getElem?_cons_zero]; exact rfl) (by kernel_rfl) (by kernel_rfl) (by kernel_rfl) (by intro _ _ _ h; exact h) (Or.inl ⟨by rfl, ?y10⟩) hHeld ?_
    case y10 => (intro w hSw; (try dsimp only at hSw); go_simp; try (with_reducible rfl))
    try simp only [Act.put, List.setIfInBounds_toArray, List.set_cons_zero, List.set_cons_succ]
    refine wpAnyH_take (i := 10) (v := ?v11) (by simp only [List.getElem?_toArray, List.getElem?_cons_succ, List.getElem?_cons_zero]; exact rfl) (by kernel_rfl) (by kernel_rfl) (by kernel_rfl) (by intro _ _ _ h; exact h) (Or.inl ⟨by rfl, ?y11⟩) hHeld ?_
    case y11 => (intro w hSw; (try dsimp only at hSw); go_simp; try (with_reducible rfl))
    try simp only [Act.put, List.setIfInBounds_toArray, List.set_cons_zero, List.set_cons_succ]
    refine wpAnyH_take (i := 11) (v := ?v12) (by simp only [List.getElem?_toArray, List.getElem?_cons_succ, List.getElem?_cons_zero]; exact rfl) (by kernel_rfl) (by kernel_rfl) (by kernel_rfl) (by intro _ _ _ h; exact h) (Or.inl ⟨by rfl, ?y12⟩) hHeld ?_
    case y12 => (intro w hSw; (try dsimp only at hSw); go_simp; try (with_reducible rfl))
    try simp only [Act.put, List.setIfInBounds_toArray, List.set_cons_zero, List.set_cons_succ]
    refine wpAnyH_take (i := 12) (v := ?v13) (by simp only [List.getElem?_toArray, List.getElem?_cons_succ, List.getElem?_cons_zero]; exact rfl) (by kernel_rfl) (by kernel_rfl) (by kernel_rfl) (by intro _ _ _ h; exact h) (Or.inl ⟨by rfl, ?y13⟩) hHeld ?_
    case y13 => (intro w hSw; (try dsimp only at hSw); go_simp; try (with_reducible rfl))
    try simp only [Act.put, List.setIfInBounds_toArray, List.set_cons_zero, List.set_cons_succ]
    refine wpAnyH_take (i := 13) (v := ?v14) (by simp only [List.getElem?_toArray, List.getElem?_cons_succ, List.getElem?_cons_zero]; exact rfl) (by kernel_rfl) (by kernel_rfl) (by kernel_rfl) (by intro _ _ _ h; exact h) (Or.inl ⟨by rfl, ?y14⟩) hHeld ?_
    case y14 => (intro w hSw; (try dsimp only at hSw); go_simp; try (with_reducible rfl))
    try simp only [Act.put, List.setIfInBounds_toArray, List.set_cons_zero, List.set_cons_succ]
    refine wpAnyH_done (by kernel_rfl) ?_ _
    clear hR hE2 hB hq b0 hce c0 c1 hcu hcz
    go_wp2_with fail
    refine (heg _ hqd).mono ?_
    rintro e w4 ⟨fv, rfl, hfv, hb4⟩
    have hq4 := hqd.trans (hb4.mono hqd.size)
    have b4 := (hb4.cell (cell_lt b0d)).trans b0d
    have hE4 := hEd.offBelow hb4
    have hB4 := hBd.offBelow hb4
    have hR4 := hRd.below hb4 (Nat.le_refl _)
    have hszd : w.heap.size + 1 ≤ wd.heap.size := cell_lt b0d
    obtain ⟨vsF, hF1, hF2, hF3, hFap, hF4⟩ := hfv
    have hfsm := hgs.1
    obtain ⟨fa, fc, rfl⟩ := hF2.isSlice
    generalize edgesL g = G at *
    clear hRd hEd hBd b0d
    go_wp2
    go_loopw [8, 48] (fun o i wr => ∃ j : Nat, j ≤ G.length ∧ i = .int .i64 j ∧ o = .slice oa F.length oc ∧ RowKit.Hid (∀ e ∈ G.take j, tst A B e = false) ∧ Drawn w4 wr) (fun _ i _ => G.length - (intOf i).toNat)
    case atStart => exact ⟨0, Nat.zero_le _, rfl, rfl, Lib.hid (by simp), Drawn.refl _⟩
    case round =>
      obtain ⟨j, hj, rfl, rfl, HN, hd⟩ := hrel
      obtain ⟨wj, rfl⟩ : ∃ wx : World, wx = wr := ⟨_, rfl⟩
      by_cases hjl : j < G.length
      case neg =>
        exfalso
        obtain rfl : j = G.length := by omega
        have h := HN.out
        rw [List.take_length] at h
        have h2 := HAN.out
        rw [List.any_eq_false.2 (fun x hx => by rw [h x hx]; simp)] at h2
        cases h2
      obtain ⟨x, y, hgj, hx, hy⟩ := HGT.out j hjl
      have hxy := HTS.out x y
      have HJT := Lib.hid (show G.take (j + 1) = G.take j ++ [G[j]] from List.take_succ_eq_append_getElem hjl)
      have hjv : j < vsF.length := by omega
      have hown := ((hF4 j hjl hjv).1).drawn hd
      have hvge := (hF4 j hjl hjv).1.ge
      rw [hgj] at hown
      have hF2j := hF2.drawn hd
      obtain ⟨fb, fc2, hfe⟩ := own_some hF2j (by omega)
      simp only [Value.slice.injEq, true_and] at hfe
      obtain ⟨rfl, rfl⟩ := hfe
      obtain ⟨gb, gcp, hge⟩ := own_some hown (by simp)
      have hcf := World.ownsRow.cellAt hF2j j (by omega)
      rw [List.getElem?_eq_getElem hjv, hge] at hcf
      rw [hge] at hown hvge
      have d0 : wj.cell? ⟨gb, 0, none⟩ = some (.int .i64 (x : Int)) := World.ownsRow.cellAt hown 0 (by simp)
      have d1 : wj.cell? ⟨gb, 1, none⟩ = some (.int .i64 (y : Int)) := World.ownsRow.cellAt hown 1 (by simp)
      have hnx : tstN s t x y = false → ∀ e ∈ G.take (j + 1), tst A B e = false := fun h e he => by
        rw [HJT.out, List.mem_append, List.mem_singleton] at he
        rcases he with he | rfl
        · exact HN.out e he
        · rw [hgj, hxy]; exact h
      have hyes : tstN s t x y = true → fe = [(x : Int), (y : Int)] := fun h => by
        have hnone : (G.take j).find? (tst A B) = none := List.find?_eq_none.2 (fun x hx => by rw [HN.out x hx]; simp)
        have hfd : (G.take (j + 1)).find? (tst A B) = some G[j] := by rw [HJT.out, List.find?_append, hnone]; simp [hgj, hxy, h]
        have hE2 : G.find? (tst A B) = some G[j] := by
          refine (congrArg (List.find? (tst A B)) (List.take_append_drop (j + 1) G).symm).trans ?_
          rw [List.find?_append, hfd]; rfl
        rw [HFI.out, hE2, hgj]; rfl
      have hts : tstN s t x y = (s.testBit x && t.testBit y || s.testBit y && t.testBit x) := rfl
      rw [hts] at hnx hyes
      have h1 := fun W : World => has_any s x W hs32 (by omega)
      have h2 := fun W : World => has_any t y W ht32 (by omega)
      have h3 := fun W : World => has_any s y W hs32 (by omega)
      have h4 := fun W : World => has_any t x W ht32 (by omega)
      clear hge hgj hts hxy
      go_wp2
      refine wp_region_held_drew (S := (fun w' => w'.cell? ⟨gb, 0, none⟩ = some (.int .i64 (x : Int)) ∧ w'.cell? ⟨gb, 1, none⟩ = some (.int .i64 (y : Int)))) (by kernel_rfl) ?_ (fun hHeld => ?_)
      · first | exact ⟨‹_›, ‹_›⟩ | assumption | (simp [*, go_sem])
      have hdd : Drawn w4 wj.drew := hd.drew
      have hownd := hown.drawn (Drawn.refl wj).drew
      generalize wj.drew = wd at hdd hownd hHeld ⊢
      refine wpAnyH_take (i := 0) (v := ?v15) (by simp only [List.getElem?_toArray, List.getElem?_cons_zero]; exact rfl) (by kernel_rfl) (by kernel_rfl) (by kernel_rfl) (by intro _ _ _ h; exact h) (Or.inl ⟨by rfl, ?y15⟩) hHeld ?_
      case y15 => (intro w hSw; (try dsimp only at hSw); go_simp; try (with_reducible rfl))
      try simp only [Act.put, List.setIfInBounds_toArray, List.set_cons_zero, List.set_cons_succ]
      refine wpAnyH_take (i := 1) (v := ?v16) (by simp only [List.getElem?_toArray, List.getElem?_cons_succ, List.getElem?_cons_zero]; exact rfl) (by kernel_rfl) (by kernel_rfl) (by kernel_rfl) (by intro _ _ _ h; exact h) (Or.inl ⟨by rfl, ?y16⟩) hHeld ?_
      case y16 => (intro w hSw; (try dsimp only at hSw); go_simp; try (with_reducible rfl))
      try simp only [Act.put, List.setIfInBounds_toArray, List.set_cons_zero, List.set_cons_succ]
      refine wpAnyH_take (i := 2) (v := ?v17) (by simp only [List.getElem?_toArray, List.getElem?_cons_succ, List.getElem?_cons_zero]; exact rfl) (by kernel_rfl) (by kernel_rfl) (by kernel_rfl) (by intro _ _ _ h; exact h) (Or.inl ⟨by rfl, ?y17⟩) hHeld ?_
      case y17 => (intro w hSw; (try dsimp only at hSw); go_simp; try (with_reducible rfl))
      try simp only [Act.put, List.setIfInBounds_toArray, List.set_cons_zero, List.set_cons_succ]
      refine wpAnyH_take (i := 3) (v := ?v18) (by simp only [List.getElem?_toArray, List.getElem?_cons_succ, List.getElem?_cons_zero]; exact rfl) (by kernel_rfl) (by kernel_rfl) (by kernel_rfl) (by intro _ _ _ h; exact h) (Or.inl ⟨by rfl, ?y18⟩) hHeld ?_
      case y18 => (intro w hSw; (try dsimp only at hSw); go_simp; try (with_reducible rfl))
      try simp only [Act.put, List.setIfInBounds_toArray, List.set_cons_zero, List.set_cons_succ]
      refine wpAnyH_take (i := 4) (v := ?v19) (by simp only [List.getElem?_toArray, List.getElem?_cons_succ, List.getElem?_cons_zero]; exact rfl) (by kernel_rfl) (by kernel_rfl) (by kernel_rfl) (by intro _ _ _ h; exact h) (Or.inl ⟨by rfl, ?y19⟩) hHeld ?_
      case y19 => (intro w hSw; (try dsimp only at hSw); go_simp; try (with_reducible rfl))
      try simp only [Act.put, List.setIfInBounds_toArray, List.set_cons_zero, List.set_cons_succ]
      refine wpAnyH_take (i := 5) (v := ?v20) (by simp only [List.getElem?_toArray, List.getElem?_cons_succ, List.getElem?_cons_zero]; exact rfl) (by kernel_rfl) (by kernel_rfl) (by kernel_rfl) (by intro _ _ _ h; exact h) (Or.inl ⟨by rfl, ?y20⟩) hHeld ?_
      case y20 => (intro w hSw; (try dsimp only at hSw); go_simp; try (with_reducible rfl))
      try simp only [Act.put, List.setIfInBounds_toArray, List.set_cons_zero, List.set_cons_succ]
      refine wpAnyH_take (i := 6) (v := ?v21) (by simp only [List.getElem?_toArray, List.getElem?_cons_succ, List.getElem?_cons_zero]; exact rfl) (by kernel_rfl) (by kernel_rfl) (by kernel_rfl) (by intro _ _ _ h; exact h) (Or.inl ⟨by rfl, ?y21⟩) hHeld ?_
      case y21 => (intro w hSw; (try dsimp only at hSw); go_simp; try (with_reducible rfl))
      try simp only [Act.put, List.setIfInBounds_toArray, List.set_cons_zero, List.set_cons_succ]
      refine wpAnyH_take (i := 7) (v := ?v22) (by simp only [List.getElem?_toArray, List.getElem?_cons_succ, List.getElem?_cons_zero]; exact rfl) (by kernel_rfl) (by kernel_rfl) (by kernel_rfl) (by intro _ _ _ h; exact h) (Or.inl ⟨by rfl, ?y22⟩) hHeld ?_
      case y22 => (intro w hSw; (try dsimp only at hSw); go_simp; try (with_reducible rfl))
      try simp only [Act.put, List.setIfInBounds_toArray, List.set_cons_zero, List.set_cons_succ]
      refine wpAnyH_done (by kernel_rfl) ?_ _
      clear d0 d1 hown hF2j hcf hd
      have hRd := hR4.drawn hdd
      have hEd := hE4.offBelow (hdd.below _)
      have hBd := hB4.offBelow (hdd.below _)
      have hqd := hq4.trans (hdd.below _)
      have b0d := (hdd.cell _).trans b4
      obtain ⟨vs, hvl, hO, hbC, hap, hrows⟩ := hRd
      have hBsz : w.heap.size + 1 ≤ wd.heap.size := cell_lt b0d
      have hfin : fe = [(x : Int), (y : Int)] → ∀ (oa5 : Option Addr) (oc5 : Nat) (w5 : World), Own w5 (w.heap.size + 1) 34 1 (.slice oa5 (F.length + 1) oc5) (F.length + 1) (vs ++ [.slice (some ⟨gb, 0, none⟩) 2 gcp]) → KeptBut wd w5 (Value.slice oa F.length oc).ownBlock → Moved (wd.alloc (.cells #[.slice (some ⟨gb, 0, none⟩) 2 gcp] 34)) (.slice oa F.length oc) (.slice oa5 (F.length + 1) oc5) →
          OwnR w5 (w.heap.size + 1) w5.heap.size 34 2 (.slice oa5 (F.length + 1) oc5) (F ++ [fe]) ∧ SlR (Off1 w5 (.slice oa5 (F.length + 1) oc5)) w5 (.slice (some ⟨eb, eo, none⟩) E.length ec) E ∧ SlI (Off1 w5 (.slice oa5 (F.length + 1) oc5)) w5 .u32 (.slice (some ⟨ba, 0, none⟩) ms.length bc) (natsI NM) ∧ Below w.heap.size w w5 ∧ w5.cell? ⟨w.heap.size, 0, none⟩ = some (.slice ga g.length gc) := fun hfe oa5 oc5 w5 hO5 hkept hmv => by
        refine ⟨ownR_snoc hvl (by have := hb4.size; rw [hdd.heap]; exact this) hap hrows hbC hO5 (by rw [hfe]; exact hownd.weak (by omega)) hvge hkept (by
          rcases hmv with h | h
          · exact .inl h
          · exact .inr ⟨_, h, by simp⟩), hEd.offApp hkept hmv (by simp), hBd.offApp hkept hmv (by simp), hkept.below hqd hqd.size (fun b hb => by have := (hO.lt b hb).1; omega), (World.cell?_of_block (a := ⟨w.heap.size, 0, none⟩) (hkept.2.2.2.2 w.heap.size (cell_lt b0d) (fun e => by have := (hO.lt w.heap.size e.symm).1; omega))).trans b0d⟩
      have HFIN := Lib.hid hfin
      generalize s.testBit x = q1 at *
      generalize t.testBit y = q2 at *
      generalize s.testBit y = q3 at *
      generalize t.testBit x = q4 at *
      clear hfin hR4 hE4 hB4 hEd hBd hrows hownd hHeld
      cases q1 <;> cases q2 <;> cases q3 <;> cases q4
      all_goals
        first
        | (have HY := Lib.hid (hyes rfl); clear hyes hnx
           go_wp2_with (first | (go_at_call 66; first | ((with_reducible refine (h1 _).mono ?_); rintro e w' ⟨rfl, rfl⟩) | ((with_reducible refine (h2 _).mono ?_); rintro e w' ⟨rfl, rfl⟩) | ((with_reducible refine (h3 _).mono ?_); rintro e w' ⟨rfl, rfl⟩) | ((with_reducible refine (h4 _).mono ?_); rintro e w' ⟨rfl, rfl⟩)) | (at_builtin; refine wpList_append1b elRows rfl _ _ rfl hO rfl rfl rfl rfl (by omega) hBsz ?_; intro o5 w5 hO5 hkept hmv; obtain ⟨oa5, oc5, rfl⟩ := hO5.isSlice))
           go_roundw
           case rel => obtain ⟨z1, z2, z3, z4, z5⟩ := HFIN.out HY.out _ _ _ hO5 hkept hmv; exact ⟨k + 1, by omega, by go_num, by rw [HTK.out]; exact z1, z2, z3, z4, z5⟩
           case measure => simp [intOf]; omega)
        | (have HNX := Lib.hid (hnx rfl); clear hyes hnx
           go_wp2_with (go_at_call 66; first | ((with_reducible refine (h1 _).mono ?_); rintro e w' ⟨rfl, rfl⟩) | ((with_reducible refine (h2 _).mono ?_); rintro e w' ⟨rfl, rfl⟩) | ((with_reducible refine (h3 _).mono ?_); rintro e w' ⟨rfl, rfl⟩) | ((with_reducible refine (h4 _).mono ?_); rintro e w' ⟨rfl, rfl⟩))
           go_roundw
           case rel => exact ⟨j + 1, by omega, by go_num, by first | rfl | trivial, HNX, hdd⟩
           case measure => simp [intOf]; omega)
theorem conBranchEdges {g0 : List (List Int)} {g1 : List (List Int)} {m2 : List (List Int)} (hsm0 : SmallR g0 1048576) (hsm1 : SmallR g1 1048576) (hsm2 : SmallR m2 1048576) : ∃ (r0 : List (List Int)), (∀ {S0 S1 S2 : Nat → Prop} {v0 v1 v2 : Value} {w : World}, SlR S0 w v0 g0 → SlR S1 w v1 g1 → SlR S2 w v2 m2 → Calls Tryd.prog 24 #[.agg #[v0], .agg #[v1], .agg #[v2]] w fun e w' => ∃ u0, e = .returned (u0) ∧ SlR (fun b => b < w'.heap.size) w' u0 r0 ∧ Below w.heap.size w w') ∧
    (∀ {S0 S1 S2 : Nat → Prop} {v0 v1 v2 : Value} {w : World}, Tab w → SlR S0 w v0 g0 → SlR S1 w v1 g1 → SlR S2 w v2 m2 → Calls Tryd.prog 26 #[.agg #[v0], .agg #[v1], .agg #[v2]] w fun e w' => ∃ u0, e = .returned (u0) ∧ OwnR w' w.heap.size w'.heap.size 34 2 u0 r0 ∧ Below w.heap.size w w') ∧
    SmallR r0 1048576 := by
  exact ⟨branchF g0 g1 m2, fun h0 h1 h2 => specBranchEdges_any h0 h1 h2, fun ht h0 h1 h2 => implBranchEdges_any ht h0 h1 h2, branch_small⟩
set_option maxHeartbeats 16000000 in
theorem lawBranchEdges_any {S0 S1 S2 : Nat → Prop} (v0 : Value) (g0 : List (List Int)) (v1 : Value) (g1 : List (List Int)) (v2 : Value) (m2 : List (List Int)) (w : World) (ht : Tab w) (hv0 : SlR S0 w v0 g0) (hv1 : SlR S1 w v1 g1) (hv2 : SlR S2 w v2 m2) :
    Calls Tryd.prog 5 #[.agg #[v0], .agg #[v1], .agg #[v2]] w fun e w' => e = .returned (.bool true) ∧ Below w.heap.size w w' := by
  obtain ⟨a0, c0, rfl⟩ := hv0.slice
  obtain ⟨a1, c1, rfl⟩ := hv1.slice
  obtain ⟨a2, c2, rfl⟩ := hv2.slice
  have q0 : Below w.heap.size w (((w.alloc (.cells #[.slice a0 g0.length c0] 24)).alloc (.cells #[.slice a1 g1.length c1] 24)).alloc (.cells #[.slice a2 m2.length c2] 40)) := (((Below.refl _ _).alloc (Nat.le_refl _) _).alloc (by simp; try omega) _).alloc (by simp; try omega) _
  go_enter Tryd.func5, Tryd.ntmps5
  go_wp2_with fail
  refine (szGraph_any _ _ _ _ (hv0.below q0 (Nat.le_refl _)) (by omega) (by omega)).mono ?_
  rintro e w1 ⟨r1, rfl, hr1, hs1, hm1, hb1⟩
  have q1 := q0.trans (hb1.mono q0.size)
  have z0 := q0.size
  have z1 : w.heap.size + 3 ≤ w1.heap.size := by have := hb1.size; simp at this; omega
  have b0_1 : w1.cell? ⟨w.heap.size, 0, none⟩ = some (.slice a0 g0.length c0) := (hb1.cell (p := ⟨w.heap.size, 0, none⟩) (by simp <;> omega)).trans (by simp [go_sem])
  have b1_1 : w1.cell? ⟨w.heap.size + 1, 0, none⟩ = some (.slice a1 g1.length c1) := (hb1.cell (p := ⟨w.heap.size + 1, 0, none⟩) (by simp <;> omega)).trans (by simp [go_sem])
  have b2_1 : w1.cell? ⟨w.heap.size + 2, 0, none⟩ = some (.slice a2 m2.length c2) := (hb1.cell (p := ⟨w.heap.size + 2, 0, none⟩) (by simp <;> omega)).trans (by simp [go_sem])
  by_cases hneg1 : r1 < 0
  case pos =>
    go_wp2
    go_ret
    exact ⟨rfl, q1⟩
  have hsm0 : SmallR g0 1048576 := hm1 (by omega)
  go_wp2_with fail
  refine (szGraph_any _ _ _ _ (hv1.below q1 (Nat.le_refl _)) (by omega) (by omega)).mono ?_
  rintro e w2 ⟨r2, rfl, hr2, hs2, hm2, hb2⟩
  have q2 := q1.trans (hb2.mono q1.size)
  have z2 := hb2.size
  have b0_2 : w2.cell? ⟨w.heap.size, 0, none⟩ = some (.slice a0 g0.length c0) := (hb2.cell (p := ⟨w.heap.size, 0, none⟩) (cell_lt b0_1)).trans b0_1
  have b1_2 : w2.cell? ⟨w.heap.size + 1, 0, none⟩ = some (.slice a1 g1.length c1) := (hb2.cell (p := ⟨w.heap.size + 1, 0, none⟩) (cell_lt b1_1)).trans b1_1
  have b2_2 : w2.cell? ⟨w.heap.size + 2, 0, none⟩ = some (.slice a2 m2.length c2) := (hb2.cell (p := ⟨w.heap.size + 2, 0, none⟩) (cell_lt b2_1)).trans b2_1
  by_cases hneg2 : r2 < 0
  case pos =>
    go_wp2
    go_ret
    exact ⟨rfl, q2⟩
  have hsm1 : SmallR g1 1048576 := smallR_mono (hm2 (by omega)) (by omega)
  go_wp2_with fail
  refine (szModel_any _ _ _ _ (hv2.below q2 (Nat.le_refl _)) (by omega) (by omega)).mono ?_
  rintro e w3 ⟨r3, rfl, hr3, hs3, hm3, hb3⟩
  have q3 := q2.trans (hb3.mono q2.size)
  have z3 := hb3.size
  have b0_3 : w3.cell? ⟨w.heap.size, 0, none⟩ = some (.slice a0 g0.length c0) := (hb3.cell (p := ⟨w.heap.size, 0, none⟩) (cell_lt b0_2)).trans b0_2
  have b1_3 : w3.cell? ⟨w.heap.size + 1, 0, none⟩ = some (.slice a1 g1.length c1) := (hb3.cell (p := ⟨w.heap.size + 1, 0, none⟩) (cell_lt b1_2)).trans b1_2
  have b2_3 : w3.cell? ⟨w.heap.size + 2, 0, none⟩ = some (.slice a2 m2.length c2) := (hb3.cell (p := ⟨w.heap.size + 2, 0, none⟩) (cell_lt b2_2)).trans b2_2
  by_cases hneg3 : r3 < 0
  case pos =>
    go_wp2
    go_ret
    exact ⟨rfl, q3⟩
  have hsm2 : SmallR m2 1048576 := smallR_mono (hm3 (by omega)) (by omega)
  obtain ⟨r0, hS, hI, hN0⟩ := conBranchEdges hsm0 hsm1 hsm2
  go_wp2
  refine wp_region_held_drew (S := (fun w' => w'.cell? ⟨w.heap.size, 0, none⟩ = some (.slice a0 g0.length c0) ∧ w'.cell? ⟨w.heap.size + 1, 0, none⟩ = some (.slice a1 g1.length c1) ∧ w'.cell? ⟨w.heap.size + 2, 0, none⟩ = some (.slice a2 m2.length c2))) (by kernel_rfl) ?_ (fun hHeld => ?_)
  · first | exact ⟨‹_›, ‹_›, ‹_›⟩ | assumption | (simp [*, go_sem])
  refine wpAnyH_take (i := 0) (v := ?v23) (by simp only [List.getElem?_toArray, List.getElem?_cons_zero]; exact rfl) (by kernel_rfl) (by kernel_rfl) (by kernel_rfl) (by intro _ _ _ h; exact h) (Or.inl ⟨by rfl, ?y23⟩) hHeld ?_
  case y23 => (intro w hSw; (try dsimp only at hSw); go_simp; try (with_reducible rfl))
  try simp only [Act.put, List.setIfInBounds_toArray, List.set_cons_zero, List.set_cons_succ]
  refine wpAnyH_take (i := 2) (v := ?v24) (by simp only [List.getElem?_toArray, List.getElem?_cons_succ, List.getElem?_cons_zero]; exact rfl) (by kernel_rfl) (by kernel_rfl) (by kernel_rfl) (by intro _ _ _ h; exact h) (Or.inl ⟨by rfl, ?y24⟩) hHeld ?_
  case y24 => (intro w hSw; (try dsimp only at hSw); go_simp; try (with_reducible rfl))
  try simp only [Act.put, List.setIfInBounds_toArray, List.set_cons_zero, List.set_cons_succ]
  refine wpAnyH_take (i := 4) (v := ?v25) (by simp only [List.getElem?_toArray, List.getElem?_cons_succ, List.getElem?_cons_zero]; exact rfl) (by kernel_rfl) (by kernel_rfl) (by kernel_rfl) (by intro _ _ _ h; exact h) (Or.inl ⟨by rfl, ?y25⟩) hHeld ?_
  case y25 => (intro w hSw; (try dsimp only at hSw); go_simp; try (with_reducible rfl))
  try simp only [Act.put, List.setIfInBounds_toArray, List.set_cons_zero, List.set_cons_succ]
  refine wpAnyH_ready (rs := [1]) (by kernel_rfl) (by simp) ?_
  refine AllReadyH.cons (by simp only [List.getElem?_toArray, List.getElem?_cons_succ, List.getElem?_cons_zero]; exact rfl) (fun K hK => ?_) AllReadyH.nil
  go_simp
  have q3d := q3.drew
  refine (toGraph_any _ _ _ (hv0.below q3d (Nat.le_refl _)) hsm0).mono ?_
  rintro e w4 ⟨x4, rfl, y4_4, hb4⟩
  replace hb4 : Below w3.heap.size w3 w4 := ⟨hb4.os, hb4.tape, hb4.output, hb4.size, hb4.block⟩
  have q4 := q3.trans (hb4.mono q3.size)
  have z4 := hb4.size
  have b0_4 : w4.cell? ⟨w.heap.size, 0, none⟩ = some (.slice a0 g0.length c0) := (hb4.cell (p := ⟨w.heap.size, 0, none⟩) (cell_lt b0_3)).trans b0_3
  have b1_4 : w4.cell? ⟨w.heap.size + 1, 0, none⟩ = some (.slice a1 g1.length c1) := (hb4.cell (p := ⟨w.heap.size + 1, 0, none⟩) (cell_lt b1_3)).trans b1_3
  have b2_4 : w4.cell? ⟨w.heap.size + 2, 0, none⟩ = some (.slice a2 m2.length c2) := (hb4.cell (p := ⟨w.heap.size + 2, 0, none⟩) (cell_lt b2_3)).trans b2_3
  try dsimp only
  refine hK.out _ _ ?h27 (fun hHeld => ?_)
  case h27 => first | exact ⟨‹_›, ‹_›, ‹_›⟩ | assumption | (simp [*, go_sem])
  clear hK K
  try simp only [Act.put, List.setIfInBounds_toArray, List.set_cons_zero, List.set_cons_succ]
  refine wpAnyH_ready (rs := [3]) (by kernel_rfl) (by simp) ?_
  refine AllReadyH.cons (by simp only [List.getElem?_toArray, List.getElem?_cons_succ, List.getElem?_cons_zero]; exact rfl) (fun K hK => ?_) AllReadyH.nil
  go_simp
  refine (toGraph_any _ _ _ (hv1.below q4 (Nat.le_refl _)) hsm1).mono ?_
  rintro e w5 ⟨x5, rfl, y5_5, hb5⟩
  have q5 := q4.trans (hb5.mono q4.size)
  have z5 := hb5.size
  have b0_5 : w5.cell? ⟨w.heap.size, 0, none⟩ = some (.slice a0 g0.length c0) := (hb5.cell (p := ⟨w.heap.size, 0, none⟩) (cell_lt b0_4)).trans b0_4
  have b1_5 : w5.cell? ⟨w.heap.size + 1, 0, none⟩ = some (.slice a1 g1.length c1) := (hb5.cell (p := ⟨w.heap.size + 1, 0, none⟩) (cell_lt b1_4)).trans b1_4
  have b2_5 : w5.cell? ⟨w.heap.size + 2, 0, none⟩ = some (.slice a2 m2.length c2) := (hb5.cell (p := ⟨w.heap.size + 2, 0, none⟩) (cell_lt b2_4)).trans b2_4
  have y4_5 := y4_4.below hb5 (Nat.le_refl _)
  try dsimp only
  refine hK.out _ _ ?h29 (fun hHeld => ?_)
  case h29 => first | exact ⟨‹_›, ‹_›, ‹_›⟩ | assumption | (simp [*, go_sem])
  clear hK K
  try simp only [Act.put, List.setIfInBounds_toArray, List.set_cons_zero, List.set_cons_succ]
  refine wpAnyH_ready (rs := [5]) (by kernel_rfl) (by simp) ?_
  refine AllReadyH.cons (by simp only [List.getElem?_toArray, List.getElem?_cons_succ, List.getElem?_cons_zero]; exact rfl) (fun K hK => ?_) AllReadyH.nil
  go_simp
  refine (toModel_any _ _ _ (hv2.below q5 (Nat.le_refl _)) hsm2).mono ?_
  rintro e w6 ⟨x6, rfl, y6_6, hb6⟩
  have q6 := q5.trans (hb6.mono q5.size)
  have z6 := hb6.size
  have b0_6 : w6.cell? ⟨w.heap.size, 0, none⟩ = some (.slice a0 g0.length c0) := (hb6.cell (p := ⟨w.heap.size, 0, none⟩) (cell_lt b0_5)).trans b0_5
  have b1_6 : w6.cell? ⟨w.heap.size + 1, 0, none⟩ = some (.slice a1 g1.length c1) := (hb6.cell (p := ⟨w.heap.size + 1, 0, none⟩) (cell_lt b1_5)).trans b1_5
  have b2_6 : w6.cell? ⟨w.heap.size + 2, 0, none⟩ = some (.slice a2 m2.length c2) := (hb6.cell (p := ⟨w.heap.size + 2, 0, none⟩) (cell_lt b2_5)).trans b2_5
  have y4_6 := y4_5.below hb6 (Nat.le_refl _)
  have y5_6 := y5_5.below hb6 (Nat.le_refl _)
  try dsimp only
  refine hK.out _ _ ?h31 (fun hHeld => ?_)
  case h31 => first | exact ⟨‹_›, ‹_›, ‹_›⟩ | assumption | (simp [*, go_sem])
  clear hK K
  try simp only [Act.put, List.setIfInBounds_toArray, List.set_cons_zero, List.set_cons_succ]
  refine wpAnyH_ready (rs := [6]) (by kernel_rfl) (by simp) ?_
  refine AllReadyH.cons (by simp only [List.getElem?_toArray, List.getElem?_cons_succ, List.getElem?_cons_zero]; exact rfl) (fun K hK => ?_) AllReadyH.nil
  go_simp
  refine (hS y4_6 y5_6 y6_6).mono ?_
  rintro e w7 ⟨w0u0, rfl, w0_0_7, hb7⟩
  have q7 := q6.trans (hb7.mono q6.size)
  have z7 := hb7.size
  have b0_7 : w7.cell? ⟨w.heap.size, 0, none⟩ = some (.slice a0 g0.length c0) := (hb7.cell (p := ⟨w.heap.size, 0, none⟩) (cell_lt b0_6)).trans b0_6
  have b1_7 : w7.cell? ⟨w.heap.size + 1, 0, none⟩ = some (.slice a1 g1.length c1) := (hb7.cell (p := ⟨w.heap.size + 1, 0, none⟩) (cell_lt b1_6)).trans b1_6
  have b2_7 : w7.cell? ⟨w.heap.size + 2, 0, none⟩ = some (.slice a2 m2.length c2) := (hb7.cell (p := ⟨w.heap.size + 2, 0, none⟩) (cell_lt b2_6)).trans b2_6
  have y4_7 := y4_6.below hb7 (Nat.le_refl _)
  have y5_7 := y5_6.below hb7 (Nat.le_refl _)
  have y6_7 := y6_6.below hb7 (Nat.le_refl _)
  obtain ⟨w0a0, w0c0, rfl⟩ := w0_0_7.slice
  try dsimp only
  refine hK.out _ _ ?h33 (fun hHeld => ?_)
  case h33 => first | exact ⟨‹_›, ‹_›, ‹_›⟩ | assumption | (simp [*, go_sem])
  clear hK K
  try simp only [Act.put, List.setIfInBounds_toArray, List.set_cons_zero, List.set_cons_succ]
  refine wpAnyH_take (i := 7) (v := ?v34) (by simp only [List.getElem?_toArray, List.getElem?_cons_succ, List.getElem?_cons_zero]; exact rfl) (by kernel_rfl) (by kernel_rfl) (by kernel_rfl) (by intro _ _ _ h; exact h) (Or.inl ⟨by rfl, ?y34⟩) hHeld ?_
  case y34 => (intro w hSw; (try dsimp only at hSw); go_simp; try (with_reducible rfl))
  try simp only [Act.put, List.setIfInBounds_toArray, List.set_cons_zero, List.set_cons_succ]
  refine wpAnyH_done (by kernel_rfl) ?_ _
  go_wp2_with fail
  refine (toGraphR_any (hv0.below q7 (Nat.le_refl _)) hsm0).mono ?_
  rintro e w8 ⟨x8, rfl, y8_8, hb8⟩
  have q8 := q7.trans (hb8.mono q7.size)
  have z8 := hb8.size
  have b0_8 : w8.cell? ⟨w.heap.size, 0, none⟩ = some (.slice a0 g0.length c0) := (hb8.cell (p := ⟨w.heap.size, 0, none⟩) (cell_lt b0_7)).trans b0_7
  have b1_8 : w8.cell? ⟨w.heap.size + 1, 0, none⟩ = some (.slice a1 g1.length c1) := (hb8.cell (p := ⟨w.heap.size + 1, 0, none⟩) (cell_lt b1_7)).trans b1_7
  have b2_8 : w8.cell? ⟨w.heap.size + 2, 0, none⟩ = some (.slice a2 m2.length c2) := (hb8.cell (p := ⟨w.heap.size + 2, 0, none⟩) (cell_lt b2_7)).trans b2_7
  have w0_0_8 := w0_0_7.below hb8 (Nat.le_refl _)
  obtain ⟨xa8, xc8, rfl⟩ := y8_8.isSlice
  have hb9 : Below w8.heap.size w8 (w8.alloc (.cells #[.slice xa8 g0.length xc8] 27)) := (Below.refl _ _).alloc (Nat.le_refl _) _
  obtain ⟨w9, ew9⟩ : ∃ x, x = (w8.alloc (.cells #[.slice xa8 g0.length xc8] 27)) := ⟨_, rfl⟩
  rw [← ew9] at hb9
  have l9_9 : w9.cell? ⟨w8.heap.size, 0, none⟩ = some (.slice xa8 g0.length xc8) := by rw [ew9]; simp [go_sem]
  have zz9 : w9.heap.size = w8.heap.size + 1 := by rw [ew9]; simp
  have q9 := q8.trans (hb9.mono q8.size)
  have z9 := hb9.size
  have b0_9 : w9.cell? ⟨w.heap.size, 0, none⟩ = some (.slice a0 g0.length c0) := (hb9.cell (p := ⟨w.heap.size, 0, none⟩) (cell_lt b0_8)).trans b0_8
  have b1_9 : w9.cell? ⟨w.heap.size + 1, 0, none⟩ = some (.slice a1 g1.length c1) := (hb9.cell (p := ⟨w.heap.size + 1, 0, none⟩) (cell_lt b1_8)).trans b1_8
  have b2_9 : w9.cell? ⟨w.heap.size + 2, 0, none⟩ = some (.slice a2 m2.length c2) := (hb9.cell (p := ⟨w.heap.size + 2, 0, none⟩) (cell_lt b2_8)).trans b2_8
  have w0_0_9 := w0_0_8.below hb9 (Nat.le_refl _)
  have y8_9 := y8_8.below hb9 (Nat.le_refl _)
  have b0_9e : (w8.alloc (.cells #[.slice xa8 g0.length xc8] 27)).cell? ⟨w.heap.size, 0, none⟩ = some (.slice a0 g0.length c0) := by rw [← ew9]; exact b0_9
  have b1_9e : (w8.alloc (.cells #[.slice xa8 g0.length xc8] 27)).cell? ⟨w.heap.size + 1, 0, none⟩ = some (.slice a1 g1.length c1) := by rw [← ew9]; exact b1_9
  have b2_9e : (w8.alloc (.cells #[.slice xa8 g0.length xc8] 27)).cell? ⟨w.heap.size + 2, 0, none⟩ = some (.slice a2 m2.length c2) := by rw [← ew9]; exact b2_9
  have l9_9e : (w8.alloc (.cells #[.slice xa8 g0.length xc8] 27)).cell? ⟨w8.heap.size, 0, none⟩ = some (.slice xa8 g0.length xc8) := by rw [← ew9]; exact l9_9
  go_wp2_with fail
  rw [← ew9]
  refine (toGraphR_any (hv1.below q9 (Nat.le_refl _)) hsm1).mono ?_
  rintro e w10 ⟨x10, rfl, y10_10, hb10⟩
  have q10 := q9.trans (hb10.mono q9.size)
  have z10 := hb10.size
  have b0_10 : w10.cell? ⟨w.heap.size, 0, none⟩ = some (.slice a0 g0.length c0) := (hb10.cell (p := ⟨w.heap.size, 0, none⟩) (cell_lt b0_9)).trans b0_9
  have b1_10 : w10.cell? ⟨w.heap.size + 1, 0, none⟩ = some (.slice a1 g1.length c1) := (hb10.cell (p := ⟨w.heap.size + 1, 0, none⟩) (cell_lt b1_9)).trans b1_9
  have b2_10 : w10.cell? ⟨w.heap.size + 2, 0, none⟩ = some (.slice a2 m2.length c2) := (hb10.cell (p := ⟨w.heap.size + 2, 0, none⟩) (cell_lt b2_9)).trans b2_9
  have l9_10 : w10.cell? ⟨w8.heap.size, 0, none⟩ = some (.slice xa8 g0.length xc8) := (hb10.cell (p := ⟨w8.heap.size, 0, none⟩) (cell_lt l9_9)).trans l9_9
  have w0_0_10 := w0_0_9.below hb10 (Nat.le_refl _)
  have y8_10 := y8_9.below hb10 (Nat.le_refl _)
  obtain ⟨xa10, xc10, rfl⟩ := y10_10.isSlice
  have hb11 : Below w10.heap.size w10 (w10.alloc (.cells #[.slice xa10 g1.length xc10] 27)) := (Below.refl _ _).alloc (Nat.le_refl _) _
  obtain ⟨w11, ew11⟩ : ∃ x, x = (w10.alloc (.cells #[.slice xa10 g1.length xc10] 27)) := ⟨_, rfl⟩
  rw [← ew11] at hb11
  have l11_11 : w11.cell? ⟨w10.heap.size, 0, none⟩ = some (.slice xa10 g1.length xc10) := by rw [ew11]; simp [go_sem]
  have zz11 : w11.heap.size = w10.heap.size + 1 := by rw [ew11]; simp
  have q11 := q10.trans (hb11.mono q10.size)
  have z11 := hb11.size
  have b0_11 : w11.cell? ⟨w.heap.size, 0, none⟩ = some (.slice a0 g0.length c0) := (hb11.cell (p := ⟨w.heap.size, 0, none⟩) (cell_lt b0_10)).trans b0_10
  have b1_11 : w11.cell? ⟨w.heap.size + 1, 0, none⟩ = some (.slice a1 g1.length c1) := (hb11.cell (p := ⟨w.heap.size + 1, 0, none⟩) (cell_lt b1_10)).trans b1_10
  have b2_11 : w11.cell? ⟨w.heap.size + 2, 0, none⟩ = some (.slice a2 m2.length c2) := (hb11.cell (p := ⟨w.heap.size + 2, 0, none⟩) (cell_lt b2_10)).trans b2_10
  have l9_11 : w11.cell? ⟨w8.heap.size, 0, none⟩ = some (.slice xa8 g0.length xc8) := (hb11.cell (p := ⟨w8.heap.size, 0, none⟩) (cell_lt l9_10)).trans l9_10
  have w0_0_11 := w0_0_10.below hb11 (Nat.le_refl _)
  have y8_11 := y8_10.below hb11 (Nat.le_refl _)
  have y10_11 := y10_10.below hb11 (Nat.le_refl _)
  have b0_11e : (w10.alloc (.cells #[.slice xa10 g1.length xc10] 27)).cell? ⟨w.heap.size, 0, none⟩ = some (.slice a0 g0.length c0) := by rw [← ew11]; exact b0_11
  have b1_11e : (w10.alloc (.cells #[.slice xa10 g1.length xc10] 27)).cell? ⟨w.heap.size + 1, 0, none⟩ = some (.slice a1 g1.length c1) := by rw [← ew11]; exact b1_11
  have b2_11e : (w10.alloc (.cells #[.slice xa10 g1.length xc10] 27)).cell? ⟨w.heap.size + 2, 0, none⟩ = some (.slice a2 m2.length c2) := by rw [← ew11]; exact b2_11
  have l9_11e : (w10.alloc (.cells #[.slice xa10 g1.length xc10] 27)).cell? ⟨w8.heap.size, 0, none⟩ = some (.slice xa8 g0.length xc8) := by rw [← ew11]; exact l9_11
  have l11_11e : (w10.alloc (.cells #[.slice xa10 g1.length xc10] 27)).cell? ⟨w10.heap.size, 0, none⟩ = some (.slice xa10 g1.length xc10) := by rw [← ew11]; exact l11_11
  go_wp2_with fail
  rw [← ew11]
  refine (toModelR_any (hv2.below q11 (Nat.le_refl _)) hsm2).mono ?_
  rintro e w12 ⟨x12, rfl, y12_12, hb12⟩
  have q12 := q11.trans (hb12.mono q11.size)
  have z12 := hb12.size
  have b0_12 : w12.cell? ⟨w.heap.size, 0, none⟩ = some (.slice a0 g0.length c0) := (hb12.cell (p := ⟨w.heap.size, 0, none⟩) (cell_lt b0_11)).trans b0_11
  have b1_12 : w12.cell? ⟨w.heap.size + 1, 0, none⟩ = some (.slice a1 g1.length c1) := (hb12.cell (p := ⟨w.heap.size + 1, 0, none⟩) (cell_lt b1_11)).trans b1_11
  have b2_12 : w12.cell? ⟨w.heap.size + 2, 0, none⟩ = some (.slice a2 m2.length c2) := (hb12.cell (p := ⟨w.heap.size + 2, 0, none⟩) (cell_lt b2_11)).trans b2_11
  have l9_12 : w12.cell? ⟨w8.heap.size, 0, none⟩ = some (.slice xa8 g0.length xc8) := (hb12.cell (p := ⟨w8.heap.size, 0, none⟩) (cell_lt l9_11)).trans l9_11
  have l11_12 : w12.cell? ⟨w10.heap.size, 0, none⟩ = some (.slice xa10 g1.length xc10) := (hb12.cell (p := ⟨w10.heap.size, 0, none⟩) (cell_lt l11_11)).trans l11_11
  have w0_0_12 := w0_0_11.below hb12 (Nat.le_refl _)
  have y8_12 := y8_11.below hb12 (Nat.le_refl _)
  have y10_12 := y10_11.below hb12 (Nat.le_refl _)
  obtain ⟨xa12, xc12, rfl⟩ := y12_12.isSlice
  have hb13 : Below w12.heap.size w12 (w12.alloc (.cells #[.slice xa12 m2.length xc12] 43)) := (Below.refl _ _).alloc (Nat.le_refl _) _
  obtain ⟨w13, ew13⟩ : ∃ x, x = (w12.alloc (.cells #[.slice xa12 m2.length xc12] 43)) := ⟨_, rfl⟩
  rw [← ew13] at hb13
  have l13_13 : w13.cell? ⟨w12.heap.size, 0, none⟩ = some (.slice xa12 m2.length xc12) := by rw [ew13]; simp [go_sem]
  have zz13 : w13.heap.size = w12.heap.size + 1 := by rw [ew13]; simp
  have q13 := q12.trans (hb13.mono q12.size)
  have z13 := hb13.size
  have b0_13 : w13.cell? ⟨w.heap.size, 0, none⟩ = some (.slice a0 g0.length c0) := (hb13.cell (p := ⟨w.heap.size, 0, none⟩) (cell_lt b0_12)).trans b0_12
  have b1_13 : w13.cell? ⟨w.heap.size + 1, 0, none⟩ = some (.slice a1 g1.length c1) := (hb13.cell (p := ⟨w.heap.size + 1, 0, none⟩) (cell_lt b1_12)).trans b1_12
  have b2_13 : w13.cell? ⟨w.heap.size + 2, 0, none⟩ = some (.slice a2 m2.length c2) := (hb13.cell (p := ⟨w.heap.size + 2, 0, none⟩) (cell_lt b2_12)).trans b2_12
  have l9_13 : w13.cell? ⟨w8.heap.size, 0, none⟩ = some (.slice xa8 g0.length xc8) := (hb13.cell (p := ⟨w8.heap.size, 0, none⟩) (cell_lt l9_12)).trans l9_12
  have l11_13 : w13.cell? ⟨w10.heap.size, 0, none⟩ = some (.slice xa10 g1.length xc10) := (hb13.cell (p := ⟨w10.heap.size, 0, none⟩) (cell_lt l11_12)).trans l11_12
  have w0_0_13 := w0_0_12.below hb13 (Nat.le_refl _)
  have y8_13 := y8_12.below hb13 (Nat.le_refl _)
  have y10_13 := y10_12.below hb13 (Nat.le_refl _)
  have y12_13 := y12_12.below hb13 (Nat.le_refl _)
  have b0_13e : (w12.alloc (.cells #[.slice xa12 m2.length xc12] 43)).cell? ⟨w.heap.size, 0, none⟩ = some (.slice a0 g0.length c0) := by rw [← ew13]; exact b0_13
  have b1_13e : (w12.alloc (.cells #[.slice xa12 m2.length xc12] 43)).cell? ⟨w.heap.size + 1, 0, none⟩ = some (.slice a1 g1.length c1) := by rw [← ew13]; exact b1_13
  have b2_13e : (w12.alloc (.cells #[.slice xa12 m2.length xc12] 43)).cell? ⟨w.heap.size + 2, 0, none⟩ = some (.slice a2 m2.length c2) := by rw [← ew13]; exact b2_13
  have l9_13e : (w12.alloc (.cells #[.slice xa12 m2.length xc12] 43)).cell? ⟨w8.heap.size, 0, none⟩ = some (.slice xa8 g0.length xc8) := by rw [← ew13]; exact l9_13
  have l11_13e : (w12.alloc (.cells #[.slice xa12 m2.length xc12] 43)).cell? ⟨w10.heap.size, 0, none⟩ = some (.slice xa10 g1.length xc10) := by rw [← ew13]; exact l11_13
  have l13_13e : (w12.alloc (.cells #[.slice xa12 m2.length xc12] 43)).cell? ⟨w12.heap.size, 0, none⟩ = some (.slice xa12 m2.length xc12) := by rw [← ew13]; exact l13_13
  go_wp2_with fail
  rw [← ew13]
  refine (hI (ht.below q13 (Nat.le_refl _)) (y8_13.rows hsm0) (y10_13.rows hsm1) (y12_13.rows hsm2)).mono ?_
  rintro e w14 ⟨g0u0, rfl, g0_0_14, hb14⟩
  have q14 := q13.trans (hb14.mono q13.size)
  have z14 := hb14.size
  have b0_14 : w14.cell? ⟨w.heap.size, 0, none⟩ = some (.slice a0 g0.length c0) := (hb14.cell (p := ⟨w.heap.size, 0, none⟩) (cell_lt b0_13)).trans b0_13
  have b1_14 : w14.cell? ⟨w.heap.size + 1, 0, none⟩ = some (.slice a1 g1.length c1) := (hb14.cell (p := ⟨w.heap.size + 1, 0, none⟩) (cell_lt b1_13)).trans b1_13
  have b2_14 : w14.cell? ⟨w.heap.size + 2, 0, none⟩ = some (.slice a2 m2.length c2) := (hb14.cell (p := ⟨w.heap.size + 2, 0, none⟩) (cell_lt b2_13)).trans b2_13
  have l9_14 : w14.cell? ⟨w8.heap.size, 0, none⟩ = some (.slice xa8 g0.length xc8) := (hb14.cell (p := ⟨w8.heap.size, 0, none⟩) (cell_lt l9_13)).trans l9_13
  have l11_14 : w14.cell? ⟨w10.heap.size, 0, none⟩ = some (.slice xa10 g1.length xc10) := (hb14.cell (p := ⟨w10.heap.size, 0, none⟩) (cell_lt l11_13)).trans l11_13
  have l13_14 : w14.cell? ⟨w12.heap.size, 0, none⟩ = some (.slice xa12 m2.length xc12) := (hb14.cell (p := ⟨w12.heap.size, 0, none⟩) (cell_lt l13_13)).trans l13_13
  have w0_0_14 := w0_0_13.below hb14 (Nat.le_refl _)
  have y8_14 := y8_13.below hb14 (Nat.le_refl _)
  have y10_14 := y10_13.below hb14 (Nat.le_refl _)
  have y12_14 := y12_13.below hb14 (Nat.le_refl _)
  obtain ⟨g0a0, g0c0, rfl⟩ := g0_0_14.isSlice
  go_wp2_with fail
  refine (eqR_same (g0_0_14.rows hN0) w0_0_14).mono ?_
  rintro e w15 ⟨rfl, hb15⟩
  have q15 := q14.trans (hb15.mono q14.size)
  have z15 := hb15.size
  have b0_15 : w15.cell? ⟨w.heap.size, 0, none⟩ = some (.slice a0 g0.length c0) := (hb15.cell (p := ⟨w.heap.size, 0, none⟩) (cell_lt b0_14)).trans b0_14
  have b1_15 : w15.cell? ⟨w.heap.size + 1, 0, none⟩ = some (.slice a1 g1.length c1) := (hb15.cell (p := ⟨w.heap.size + 1, 0, none⟩) (cell_lt b1_14)).trans b1_14
  have b2_15 : w15.cell? ⟨w.heap.size + 2, 0, none⟩ = some (.slice a2 m2.length c2) := (hb15.cell (p := ⟨w.heap.size + 2, 0, none⟩) (cell_lt b2_14)).trans b2_14
  have l9_15 : w15.cell? ⟨w8.heap.size, 0, none⟩ = some (.slice xa8 g0.length xc8) := (hb15.cell (p := ⟨w8.heap.size, 0, none⟩) (cell_lt l9_14)).trans l9_14
  have l11_15 : w15.cell? ⟨w10.heap.size, 0, none⟩ = some (.slice xa10 g1.length xc10) := (hb15.cell (p := ⟨w10.heap.size, 0, none⟩) (cell_lt l11_14)).trans l11_14
  have l13_15 : w15.cell? ⟨w12.heap.size, 0, none⟩ = some (.slice xa12 m2.length xc12) := (hb15.cell (p := ⟨w12.heap.size, 0, none⟩) (cell_lt l13_14)).trans l13_14
  have w0_0_15 := w0_0_14.below hb15 (Nat.le_refl _)
  have y8_15 := y8_14.below hb15 (Nat.le_refl _)
  have y10_15 := y10_14.below hb15 (Nat.le_refl _)
  have y12_15 := y12_14.below hb15 (Nat.le_refl _)
  have g0_0_15 := g0_0_14.below hb15 (Nat.le_refl _)
  go_wp2
  refine wp_region_held_drew (S := (fun w' => w'.cell? ⟨w.heap.size, 0, none⟩ = some (.slice a0 g0.length c0) ∧ w'.cell? ⟨w.heap.size + 1, 0, none⟩ = some (.slice a1 g1.length c1) ∧ w'.cell? ⟨w.heap.size + 2, 0, none⟩ = some (.slice a2 m2.length c2) ∧ w'.cell? ⟨w8.heap.size, 0, none⟩ = some (.slice xa8 g0.length xc8) ∧ w'.cell? ⟨w10.heap.size, 0, none⟩ = some (.slice xa10 g1.length xc10) ∧ w'.cell? ⟨w12.heap.size, 0, none⟩ = some (.slice xa12 m2.length xc12))) (by kernel_rfl) ?_ (fun hHeld => ?_)
  · first | exact ⟨‹_›, ‹_›, ‹_›, ‹_›, ‹_›, ‹_›⟩ | assumption | (simp [*, go_sem])
  refine wpAnyH_take (i := 0) (v := ?v35) (by simp only [List.getElem?_toArray, List.getElem?_cons_zero]; exact rfl) (by kernel_rfl) (by kernel_rfl) (by kernel_rfl) (by intro _ _ _ h; exact h) (Or.inl ⟨by rfl, ?y35⟩) hHeld ?_
  case y35 => (intro w hSw; (try dsimp only at hSw); go_simp; try (with_reducible rfl))
  try simp only [Act.put, List.setIfInBounds_toArray, List.set_cons_zero, List.set_cons_succ]
  refine wpAnyH_take (i := 1) (v := ?v36) (by simp only [List.getElem?_toArray, List.getElem?_cons_succ, List.getElem?_cons_zero]; exact rfl) (by kernel_rfl) (by kernel_rfl) (by kernel_rfl) (by intro _ _ _ h; exact h) (Or.inl ⟨by rfl, ?y36⟩) hHeld ?_
  case y36 => (intro w hSw; (try dsimp only at hSw); go_simp; try (with_reducible rfl))
  try simp only [Act.put, List.setIfInBounds_toArray, List.set_cons_zero, List.set_cons_succ]
  refine wpAnyH_ready (rs := [2]) (by kernel_rfl) (by simp) ?_
  refine AllReadyH.cons (by simp only [List.getElem?_toArray, List.getElem?_cons_succ, List.getElem?_cons_zero]; exact rfl) (fun K hK => ?_) AllReadyH.nil
  go_simp
  have q15d := q15.drew
  have w0_0_15k := w0_0_15
  have w0_0_15 := w0_0_15.below ((Below.refl w15.heap.size w15).drew) (Nat.le_refl _)
  have y8_15k := y8_15
  have y8_15 := y8_15.below ((Below.refl w15.heap.size w15).drew) (Nat.le_refl _)
  have y10_15k := y10_15
  have y10_15 := y10_15.below ((Below.refl w15.heap.size w15).drew) (Nat.le_refl _)
  have y12_15k := y12_15
  have y12_15 := y12_15.below ((Below.refl w15.heap.size w15).drew) (Nat.le_refl _)
  have g0_0_15k := g0_0_15
  have g0_0_15 := g0_0_15.below ((Below.refl w15.heap.size w15).drew) (Nat.le_refl _)
  refine (toGraph_any _ _ _ (hv0.below q15d (Nat.le_refl _)) hsm0).mono ?_
  rintro e w16 ⟨x16, rfl, y16_16, hb16⟩
  replace hb16 : Below w15.heap.size w15 w16 := ⟨hb16.os, hb16.tape, hb16.output, hb16.size, hb16.block⟩
  replace w0_0_15 := w0_0_15k
  replace y8_15 := y8_15k
  replace y10_15 := y10_15k
  replace y12_15 := y12_15k
  replace g0_0_15 := g0_0_15k
  have q16 := q15.trans (hb16.mono q15.size)
  have z16 := hb16.size
  have b0_16 : w16.cell? ⟨w.heap.size, 0, none⟩ = some (.slice a0 g0.length c0) := (hb16.cell (p := ⟨w.heap.size, 0, none⟩) (cell_lt b0_15)).trans b0_15
  have b1_16 : w16.cell? ⟨w.heap.size + 1, 0, none⟩ = some (.slice a1 g1.length c1) := (hb16.cell (p := ⟨w.heap.size + 1, 0, none⟩) (cell_lt b1_15)).trans b1_15
  have b2_16 : w16.cell? ⟨w.heap.size + 2, 0, none⟩ = some (.slice a2 m2.length c2) := (hb16.cell (p := ⟨w.heap.size + 2, 0, none⟩) (cell_lt b2_15)).trans b2_15
  have l9_16 : w16.cell? ⟨w8.heap.size, 0, none⟩ = some (.slice xa8 g0.length xc8) := (hb16.cell (p := ⟨w8.heap.size, 0, none⟩) (cell_lt l9_15)).trans l9_15
  have l11_16 : w16.cell? ⟨w10.heap.size, 0, none⟩ = some (.slice xa10 g1.length xc10) := (hb16.cell (p := ⟨w10.heap.size, 0, none⟩) (cell_lt l11_15)).trans l11_15
  have l13_16 : w16.cell? ⟨w12.heap.size, 0, none⟩ = some (.slice xa12 m2.length xc12) := (hb16.cell (p := ⟨w12.heap.size, 0, none⟩) (cell_lt l13_15)).trans l13_15
  have w0_0_16 := w0_0_15.below hb16 (Nat.le_refl _)
  have y8_16 := y8_15.below hb16 (Nat.le_refl _)
  have y10_16 := y10_15.below hb16 (Nat.le_refl _)
  have y12_16 := y12_15.below hb16 (Nat.le_refl _)
  have g0_0_16 := g0_0_15.below hb16 (Nat.le_refl _)
  try dsimp only
  refine hK.out _ _ ?h38 (fun hHeld => ?_)
  case h38 => first | exact ⟨‹_›, ‹_›, ‹_›, ‹_›, ‹_›, ‹_›⟩ | assumption | (simp [*, go_sem])
  clear hK K
  try simp only [Act.put, List.setIfInBounds_toArray, List.set_cons_zero, List.set_cons_succ]
  refine wpAnyH_ready (rs := [3]) (by kernel_rfl) (by simp) ?_
  refine AllReadyH.cons (by simp only [List.getElem?_toArray, List.getElem?_cons_succ, List.getElem?_cons_zero]; exact rfl) (fun K hK => ?_) AllReadyH.nil
  go_simp
  refine (eqG_same (y8_16.rows hsm0) y16_16).mono ?_
  rintro e w17 ⟨rfl, hb17⟩
  have q17 := q16.trans (hb17.mono q16.size)
  have z17 := hb17.size
  have b0_17 : w17.cell? ⟨w.heap.size, 0, none⟩ = some (.slice a0 g0.length c0) := (hb17.cell (p := ⟨w.heap.size, 0, none⟩) (cell_lt b0_16)).trans b0_16
  have b1_17 : w17.cell? ⟨w.heap.size + 1, 0, none⟩ = some (.slice a1 g1.length c1) := (hb17.cell (p := ⟨w.heap.size + 1, 0, none⟩) (cell_lt b1_16)).trans b1_16
  have b2_17 : w17.cell? ⟨w.heap.size + 2, 0, none⟩ = some (.slice a2 m2.length c2) := (hb17.cell (p := ⟨w.heap.size + 2, 0, none⟩) (cell_lt b2_16)).trans b2_16
  have l9_17 : w17.cell? ⟨w8.heap.size, 0, none⟩ = some (.slice xa8 g0.length xc8) := (hb17.cell (p := ⟨w8.heap.size, 0, none⟩) (cell_lt l9_16)).trans l9_16
  have l11_17 : w17.cell? ⟨w10.heap.size, 0, none⟩ = some (.slice xa10 g1.length xc10) := (hb17.cell (p := ⟨w10.heap.size, 0, none⟩) (cell_lt l11_16)).trans l11_16
  have l13_17 : w17.cell? ⟨w12.heap.size, 0, none⟩ = some (.slice xa12 m2.length xc12) := (hb17.cell (p := ⟨w12.heap.size, 0, none⟩) (cell_lt l13_16)).trans l13_16
  have w0_0_17 := w0_0_16.below hb17 (Nat.le_refl _)
  have y8_17 := y8_16.below hb17 (Nat.le_refl _)
  have y10_17 := y10_16.below hb17 (Nat.le_refl _)
  have y12_17 := y12_16.below hb17 (Nat.le_refl _)
  have g0_0_17 := g0_0_16.below hb17 (Nat.le_refl _)
  have y16_17 := y16_16.below hb17 (Nat.le_refl _)
  try dsimp only
  refine hK.out _ _ ?h40 (fun hHeld => ?_)
  case h40 => first | exact ⟨‹_›, ‹_›, ‹_›, ‹_›, ‹_›, ‹_›⟩ | assumption | (simp [*, go_sem])
  clear hK K
  try simp only [Act.put, List.setIfInBounds_toArray, List.set_cons_zero, List.set_cons_succ]
  refine wpAnyH_take (i := 4) (v := ?v41) (by simp only [List.getElem?_toArray, List.getElem?_cons_succ, List.getElem?_cons_zero]; exact rfl) (by kernel_rfl) (by kernel_rfl) (by kernel_rfl) (by intro _ _ _ h; exact h) (Or.inl ⟨by rfl, ?y41⟩) hHeld ?_
  case y41 => (intro w hSw; (try dsimp only at hSw); go_simp; try (with_reducible rfl))
  try simp only [Act.put, List.setIfInBounds_toArray, List.set_cons_zero, List.set_cons_succ]
  refine wpAnyH_done (by kernel_rfl) ?_ _
  go_wp2
  refine wp_region_held_drew (S := (fun w' => w'.cell? ⟨w.heap.size, 0, none⟩ = some (.slice a0 g0.length c0) ∧ w'.cell? ⟨w.heap.size + 1, 0, none⟩ = some (.slice a1 g1.length c1) ∧ w'.cell? ⟨w.heap.size + 2, 0, none⟩ = some (.slice a2 m2.length c2) ∧ w'.cell? ⟨w8.heap.size, 0, none⟩ = some (.slice xa8 g0.length xc8) ∧ w'.cell? ⟨w10.heap.size, 0, none⟩ = some (.slice xa10 g1.length xc10) ∧ w'.cell? ⟨w12.heap.size, 0, none⟩ = some (.slice xa12 m2.length xc12))) (by kernel_rfl) ?_ (fun hHeld => ?_)
  · first | exact ⟨‹_›, ‹_›, ‹_›, ‹_›, ‹_›, ‹_›⟩ | assumption | (simp [*, go_sem])
  refine wpAnyH_take (i := 0) (v := ?v42) (by simp only [List.getElem?_toArray, List.getElem?_cons_zero]; exact rfl) (by kernel_rfl) (by kernel_rfl) (by kernel_rfl) (by intro _ _ _ h; exact h) (Or.inl ⟨by rfl, ?y42⟩) hHeld ?_
  case y42 => (intro w hSw; (try dsimp only at hSw); go_simp; try (with_reducible rfl))
  try simp only [Act.put, List.setIfInBounds_toArray, List.set_cons_zero, List.set_cons_succ]
  refine wpAnyH_take (i := 1) (v := ?v43) (by simp only [List.getElem?_toArray, List.getElem?_cons_succ, List.getElem?_cons_zero]; exact rfl) (by kernel_rfl) (by kernel_rfl) (by kernel_rfl) (by intro _ _ _ h; exact h) (Or.inl ⟨by rfl, ?y43⟩) hHeld ?_
  case y43 => (intro w hSw; (try dsimp only at hSw); go_simp; try (with_reducible rfl))
  try simp only [Act.put, List.setIfInBounds_toArray, List.set_cons_zero, List.set_cons_succ]
  refine wpAnyH_ready (rs := [2]) (by kernel_rfl) (by simp) ?_
  refine AllReadyH.cons (by simp only [List.getElem?_toArray, List.getElem?_cons_succ, List.getElem?_cons_zero]; exact rfl) (fun K hK => ?_) AllReadyH.nil
  go_simp
  have q17d := q17.drew
  have w0_0_17k := w0_0_17
  have w0_0_17 := w0_0_17.below ((Below.refl w17.heap.size w17).drew) (Nat.le_refl _)
  have y8_17k := y8_17
  have y8_17 := y8_17.below ((Below.refl w17.heap.size w17).drew) (Nat.le_refl _)
  have y10_17k := y10_17
  have y10_17 := y10_17.below ((Below.refl w17.heap.size w17).drew) (Nat.le_refl _)
  have y12_17k := y12_17
  have y12_17 := y12_17.below ((Below.refl w17.heap.size w17).drew) (Nat.le_refl _)
  have g0_0_17k := g0_0_17
  have g0_0_17 := g0_0_17.below ((Below.refl w17.heap.size w17).drew) (Nat.le_refl _)
  refine (toGraph_any _ _ _ (hv1.below q17d (Nat.le_refl _)) hsm1).mono ?_
  rintro e w18 ⟨x18, rfl, y18_18, hb18⟩
  replace hb18 : Below w17.heap.size w17 w18 := ⟨hb18.os, hb18.tape, hb18.output, hb18.size, hb18.block⟩
  replace w0_0_17 := w0_0_17k
  replace y8_17 := y8_17k
  replace y10_17 := y10_17k
  replace y12_17 := y12_17k
  replace g0_0_17 := g0_0_17k
  have q18 := q17.trans (hb18.mono q17.size)
  have z18 := hb18.size
  have b0_18 : w18.cell? ⟨w.heap.size, 0, none⟩ = some (.slice a0 g0.length c0) := (hb18.cell (p := ⟨w.heap.size, 0, none⟩) (cell_lt b0_17)).trans b0_17
  have b1_18 : w18.cell? ⟨w.heap.size + 1, 0, none⟩ = some (.slice a1 g1.length c1) := (hb18.cell (p := ⟨w.heap.size + 1, 0, none⟩) (cell_lt b1_17)).trans b1_17
  have b2_18 : w18.cell? ⟨w.heap.size + 2, 0, none⟩ = some (.slice a2 m2.length c2) := (hb18.cell (p := ⟨w.heap.size + 2, 0, none⟩) (cell_lt b2_17)).trans b2_17
  have l9_18 : w18.cell? ⟨w8.heap.size, 0, none⟩ = some (.slice xa8 g0.length xc8) := (hb18.cell (p := ⟨w8.heap.size, 0, none⟩) (cell_lt l9_17)).trans l9_17
  have l11_18 : w18.cell? ⟨w10.heap.size, 0, none⟩ = some (.slice xa10 g1.length xc10) := (hb18.cell (p := ⟨w10.heap.size, 0, none⟩) (cell_lt l11_17)).trans l11_17
  have l13_18 : w18.cell? ⟨w12.heap.size, 0, none⟩ = some (.slice xa12 m2.length xc12) := (hb18.cell (p := ⟨w12.heap.size, 0, none⟩) (cell_lt l13_17)).trans l13_17
  have w0_0_18 := w0_0_17.below hb18 (Nat.le_refl _)
  have y8_18 := y8_17.below hb18 (Nat.le_refl _)
  have y10_18 := y10_17.below hb18 (Nat.le_refl _)
  have y12_18 := y12_17.below hb18 (Nat.le_refl _)
  have g0_0_18 := g0_0_17.below hb18 (Nat.le_refl _)
  try dsimp only
  refine hK.out _ _ ?h45 (fun hHeld => ?_)
  case h45 => first | exact ⟨‹_›, ‹_›, ‹_›, ‹_›, ‹_›, ‹_›⟩ | assumption | (simp [*, go_sem])
  clear hK K
  try simp only [Act.put, List.setIfInBounds_toArray, List.set_cons_zero, List.set_cons_succ]
  refine wpAnyH_ready (rs := [3]) (by kernel_rfl) (by simp) ?_
  refine AllReadyH.cons (by simp only [List.getElem?_toArray, List.getElem?_cons_succ, List.getElem?_cons_zero]; exact rfl) (fun K hK => ?_) AllReadyH.nil
  go_simp
  refine (eqG_same (y10_18.rows hsm1) y18_18).mono ?_
  rintro e w19 ⟨rfl, hb19⟩
  have q19 := q18.trans (hb19.mono q18.size)
  have z19 := hb19.size
  have b0_19 : w19.cell? ⟨w.heap.size, 0, none⟩ = some (.slice a0 g0.length c0) := (hb19.cell (p := ⟨w.heap.size, 0, none⟩) (cell_lt b0_18)).trans b0_18
  have b1_19 : w19.cell? ⟨w.heap.size + 1, 0, none⟩ = some (.slice a1 g1.length c1) := (hb19.cell (p := ⟨w.heap.size + 1, 0, none⟩) (cell_lt b1_18)).trans b1_18
  have b2_19 : w19.cell? ⟨w.heap.size + 2, 0, none⟩ = some (.slice a2 m2.length c2) := (hb19.cell (p := ⟨w.heap.size + 2, 0, none⟩) (cell_lt b2_18)).trans b2_18
  have l9_19 : w19.cell? ⟨w8.heap.size, 0, none⟩ = some (.slice xa8 g0.length xc8) := (hb19.cell (p := ⟨w8.heap.size, 0, none⟩) (cell_lt l9_18)).trans l9_18
  have l11_19 : w19.cell? ⟨w10.heap.size, 0, none⟩ = some (.slice xa10 g1.length xc10) := (hb19.cell (p := ⟨w10.heap.size, 0, none⟩) (cell_lt l11_18)).trans l11_18
  have l13_19 : w19.cell? ⟨w12.heap.size, 0, none⟩ = some (.slice xa12 m2.length xc12) := (hb19.cell (p := ⟨w12.heap.size, 0, none⟩) (cell_lt l13_18)).trans l13_18
  have w0_0_19 := w0_0_18.below hb19 (Nat.le_refl _)
  have y8_19 := y8_18.below hb19 (Nat.le_refl _)
  have y10_19 := y10_18.below hb19 (Nat.le_refl _)
  have y12_19 := y12_18.below hb19 (Nat.le_refl _)
  have g0_0_19 := g0_0_18.below hb19 (Nat.le_refl _)
  have y18_19 := y18_18.below hb19 (Nat.le_refl _)
  try dsimp only
  refine hK.out _ _ ?h47 (fun hHeld => ?_)
  case h47 => first | exact ⟨‹_›, ‹_›, ‹_›, ‹_›, ‹_›, ‹_›⟩ | assumption | (simp [*, go_sem])
  clear hK K
  try simp only [Act.put, List.setIfInBounds_toArray, List.set_cons_zero, List.set_cons_succ]
  refine wpAnyH_take (i := 4) (v := ?v48) (by simp only [List.getElem?_toArray, List.getElem?_cons_succ, List.getElem?_cons_zero]; exact rfl) (by kernel_rfl) (by kernel_rfl) (by kernel_rfl) (by intro _ _ _ h; exact h) (Or.inl ⟨by rfl, ?y48⟩) hHeld ?_
  case y48 => (intro w hSw; (try dsimp only at hSw); go_simp; try (with_reducible rfl))
  try simp only [Act.put, List.setIfInBounds_toArray, List.set_cons_zero, List.set_cons_succ]
  refine wpAnyH_done (by kernel_rfl) ?_ _
  go_wp2
  refine wp_region_held_drew (S := (fun w' => w'.cell? ⟨w.heap.size, 0, none⟩ = some (.slice a0 g0.length c0) ∧ w'.cell? ⟨w.heap.size + 1, 0, none⟩ = some (.slice a1 g1.length c1) ∧ w'.cell? ⟨w.heap.size + 2, 0, none⟩ = some (.slice a2 m2.length c2) ∧ w'.cell? ⟨w8.heap.size, 0, none⟩ = some (.slice xa8 g0.length xc8) ∧ w'.cell? ⟨w10.heap.size, 0, none⟩ = some (.slice xa10 g1.length xc10) ∧ w'.cell? ⟨w12.heap.size, 0, none⟩ = some (.slice xa12 m2.length xc12))) (by kernel_rfl) ?_ (fun hHeld => ?_)
  · first | exact ⟨‹_›, ‹_›, ‹_›, ‹_›, ‹_›, ‹_›⟩ | assumption | (simp [*, go_sem])
  refine wpAnyH_take (i := 0) (v := ?v49) (by simp only [List.getElem?_toArray, List.getElem?_cons_zero]; exact rfl) (by kernel_rfl) (by kernel_rfl) (by kernel_rfl) (by intro _ _ _ h; exact h) (Or.inl ⟨by rfl, ?y49⟩) hHeld ?_
  case y49 => (intro w hSw; (try dsimp only at hSw); go_simp; try (with_reducible rfl))
  try simp only [Act.put, List.setIfInBounds_toArray, List.set_cons_zero, List.set_cons_succ]
  refine wpAnyH_take (i := 1) (v := ?v50) (by simp only [List.getElem?_toArray, List.getElem?_cons_succ, List.getElem?_cons_zero]; exact rfl) (by kernel_rfl) (by kernel_rfl) (by kernel_rfl) (by intro _ _ _ h; exact h) (Or.inl ⟨by rfl, ?y50⟩) hHeld ?_
  case y50 => (intro w hSw; (try dsimp only at hSw); go_simp; try (with_reducible rfl))
  try simp only [Act.put, List.setIfInBounds_toArray, List.set_cons_zero, List.set_cons_succ]
  refine wpAnyH_ready (rs := [2]) (by kernel_rfl) (by simp) ?_
  refine AllReadyH.cons (by simp only [List.getElem?_toArray, List.getElem?_cons_succ, List.getElem?_cons_zero]; exact rfl) (fun K hK => ?_) AllReadyH.nil
  go_simp
  have q19d := q19.drew
  have w0_0_19k := w0_0_19
  have w0_0_19 := w0_0_19.below ((Below.refl w19.heap.size w19).drew) (Nat.le_refl _)
  have y8_19k := y8_19
  have y8_19 := y8_19.below ((Below.refl w19.heap.size w19).drew) (Nat.le_refl _)
  have y10_19k := y10_19
  have y10_19 := y10_19.below ((Below.refl w19.heap.size w19).drew) (Nat.le_refl _)
  have y12_19k := y12_19
  have y12_19 := y12_19.below ((Below.refl w19.heap.size w19).drew) (Nat.le_refl _)
  have g0_0_19k := g0_0_19
  have g0_0_19 := g0_0_19.below ((Below.refl w19.heap.size w19).drew) (Nat.le_refl _)
  refine (toModel_any _ _ _ (hv2.below q19d (Nat.le_refl _)) hsm2).mono ?_
  rintro e w20 ⟨x20, rfl, y20_20, hb20⟩
  replace hb20 : Below w19.heap.size w19 w20 := ⟨hb20.os, hb20.tape, hb20.output, hb20.size, hb20.block⟩
  replace w0_0_19 := w0_0_19k
  replace y8_19 := y8_19k
  replace y10_19 := y10_19k
  replace y12_19 := y12_19k
  replace g0_0_19 := g0_0_19k
  have q20 := q19.trans (hb20.mono q19.size)
  have z20 := hb20.size
  have b0_20 : w20.cell? ⟨w.heap.size, 0, none⟩ = some (.slice a0 g0.length c0) := (hb20.cell (p := ⟨w.heap.size, 0, none⟩) (cell_lt b0_19)).trans b0_19
  have b1_20 : w20.cell? ⟨w.heap.size + 1, 0, none⟩ = some (.slice a1 g1.length c1) := (hb20.cell (p := ⟨w.heap.size + 1, 0, none⟩) (cell_lt b1_19)).trans b1_19
  have b2_20 : w20.cell? ⟨w.heap.size + 2, 0, none⟩ = some (.slice a2 m2.length c2) := (hb20.cell (p := ⟨w.heap.size + 2, 0, none⟩) (cell_lt b2_19)).trans b2_19
  have l9_20 : w20.cell? ⟨w8.heap.size, 0, none⟩ = some (.slice xa8 g0.length xc8) := (hb20.cell (p := ⟨w8.heap.size, 0, none⟩) (cell_lt l9_19)).trans l9_19
  have l11_20 : w20.cell? ⟨w10.heap.size, 0, none⟩ = some (.slice xa10 g1.length xc10) := (hb20.cell (p := ⟨w10.heap.size, 0, none⟩) (cell_lt l11_19)).trans l11_19
  have l13_20 : w20.cell? ⟨w12.heap.size, 0, none⟩ = some (.slice xa12 m2.length xc12) := (hb20.cell (p := ⟨w12.heap.size, 0, none⟩) (cell_lt l13_19)).trans l13_19
  have w0_0_20 := w0_0_19.below hb20 (Nat.le_refl _)
  have y8_20 := y8_19.below hb20 (Nat.le_refl _)
  have y10_20 := y10_19.below hb20 (Nat.le_refl _)
  have y12_20 := y12_19.below hb20 (Nat.le_refl _)
  have g0_0_20 := g0_0_19.below hb20 (Nat.le_refl _)
  try dsimp only
  refine hK.out _ _ ?h52 (fun hHeld => ?_)
  case h52 => first | exact ⟨‹_›, ‹_›, ‹_›, ‹_›, ‹_›, ‹_›⟩ | assumption | (simp [*, go_sem])
  clear hK K
  try simp only [Act.put, List.setIfInBounds_toArray, List.set_cons_zero, List.set_cons_succ]
  refine wpAnyH_ready (rs := [3]) (by kernel_rfl) (by simp) ?_
  refine AllReadyH.cons (by simp only [List.getElem?_toArray, List.getElem?_cons_succ, List.getElem?_cons_zero]; exact rfl) (fun K hK => ?_) AllReadyH.nil
  go_simp
  refine (eqModel_same (y12_20.rows hsm2) y20_20).mono ?_
  rintro e w21 ⟨rfl, hb21⟩
  have q21 := q20.trans (hb21.mono q20.size)
  have z21 := hb21.size
  have b0_21 : w21.cell? ⟨w.heap.size, 0, none⟩ = some (.slice a0 g0.length c0) := (hb21.cell (p := ⟨w.heap.size, 0, none⟩) (cell_lt b0_20)).trans b0_20
  have b1_21 : w21.cell? ⟨w.heap.size + 1, 0, none⟩ = some (.slice a1 g1.length c1) := (hb21.cell (p := ⟨w.heap.size + 1, 0, none⟩) (cell_lt b1_20)).trans b1_20
  have b2_21 : w21.cell? ⟨w.heap.size + 2, 0, none⟩ = some (.slice a2 m2.length c2) := (hb21.cell (p := ⟨w.heap.size + 2, 0, none⟩) (cell_lt b2_20)).trans b2_20
  have l9_21 : w21.cell? ⟨w8.heap.size, 0, none⟩ = some (.slice xa8 g0.length xc8) := (hb21.cell (p := ⟨w8.heap.size, 0, none⟩) (cell_lt l9_20)).trans l9_20
  have l11_21 : w21.cell? ⟨w10.heap.size, 0, none⟩ = some (.slice xa10 g1.length xc10) := (hb21.cell (p := ⟨w10.heap.size, 0, none⟩) (cell_lt l11_20)).trans l11_20
  have l13_21 : w21.cell? ⟨w12.heap.size, 0, none⟩ = some (.slice xa12 m2.length xc12) := (hb21.cell (p := ⟨w12.heap.size, 0, none⟩) (cell_lt l13_20)).trans l13_20
  have w0_0_21 := w0_0_20.below hb21 (Nat.le_refl _)
  have y8_21 := y8_20.below hb21 (Nat.le_refl _)
  have y10_21 := y10_20.below hb21 (Nat.le_refl _)
  have y12_21 := y12_20.below hb21 (Nat.le_refl _)
  have g0_0_21 := g0_0_20.below hb21 (Nat.le_refl _)
  have y20_21 := y20_20.below hb21 (Nat.le_refl _)
  try dsimp only
  refine hK.out _ _ ?h54 (fun hHeld => ?_)
  case h54 => first | exact ⟨‹_›, ‹_›, ‹_›, ‹_›, ‹_›, ‹_›⟩ | assumption | (simp [*, go_sem])
  clear hK K
  try simp only [Act.put, List.setIfInBounds_toArray, List.set_cons_zero, List.set_cons_succ]
  refine wpAnyH_take (i := 4) (v := ?v55) (by simp only [List.getElem?_toArray, List.getElem?_cons_succ, List.getElem?_cons_zero]; exact rfl) (by kernel_rfl) (by kernel_rfl) (by kernel_rfl) (by intro _ _ _ h; exact h) (Or.inl ⟨by rfl, ?y55⟩) hHeld ?_
  case y55 => (intro w hSw; (try dsimp only at hSw); go_simp; try (with_reducible rfl))
  try simp only [Act.put, List.setIfInBounds_toArray, List.set_cons_zero, List.set_cons_succ]
  refine wpAnyH_done (by kernel_rfl) ?_ _
  go_wp2_with fail
  refine (markG_any y8_21 hsm0 (by omega) (by omega) (by omega)).mono ?_
  rintro e w22 ⟨k22, rfl, hk22, hl22, ht22⟩
  have q22 := ht22.below q21 (by have := q21.size; omega) q21.size
  have z22 := ht22.size
  have b0_22 : w22.cell? ⟨w.heap.size, 0, none⟩ = some (.slice a0 g0.length c0) := (ht22.cell (p := ⟨w.heap.size, 0, none⟩) (cell_lt b0_21) (by have : w.heap.size < w21.heap.size := cell_lt b0_21; show w.heap.size < _ ∨ _ ≤ w.heap.size; omega)).trans b0_21
  have b1_22 : w22.cell? ⟨w.heap.size + 1, 0, none⟩ = some (.slice a1 g1.length c1) := (ht22.cell (p := ⟨w.heap.size + 1, 0, none⟩) (cell_lt b1_21) (by have : w.heap.size + 1 < w21.heap.size := cell_lt b1_21; show w.heap.size + 1 < _ ∨ _ ≤ w.heap.size + 1; omega)).trans b1_21
  have b2_22 : w22.cell? ⟨w.heap.size + 2, 0, none⟩ = some (.slice a2 m2.length c2) := (ht22.cell (p := ⟨w.heap.size + 2, 0, none⟩) (cell_lt b2_21) (by have : w.heap.size + 2 < w21.heap.size := cell_lt b2_21; show w.heap.size + 2 < _ ∨ _ ≤ w.heap.size + 2; omega)).trans b2_21
  have l9_22 : w22.cell? ⟨w8.heap.size, 0, none⟩ = some (.slice xa8 g0.length xc8) := (ht22.cell (p := ⟨w8.heap.size, 0, none⟩) (cell_lt l9_21) (by have : w8.heap.size < w21.heap.size := cell_lt l9_21; show w8.heap.size < _ ∨ _ ≤ w8.heap.size; omega)).trans l9_21
  have l11_22 : w22.cell? ⟨w10.heap.size, 0, none⟩ = some (.slice xa10 g1.length xc10) := (ht22.cell (p := ⟨w10.heap.size, 0, none⟩) (cell_lt l11_21) (by have : w10.heap.size < w21.heap.size := cell_lt l11_21; show w10.heap.size < _ ∨ _ ≤ w10.heap.size; omega)).trans l11_21
  have l13_22 : w22.cell? ⟨w12.heap.size, 0, none⟩ = some (.slice xa12 m2.length xc12) := (ht22.cell (p := ⟨w12.heap.size, 0, none⟩) (cell_lt l13_21) (by have : w12.heap.size < w21.heap.size := cell_lt l13_21; show w12.heap.size < _ ∨ _ ≤ w12.heap.size; omega)).trans l13_21
  have w0_0_22 := w0_0_21.betweenR ht22 (fun b (hb : b < w7.heap.size) => ⟨by omega, by omega⟩)
  have y10_22 := y10_21.between ht22 (by omega)
  have y12_22 := y12_21.between ht22 (by omega)
  have g0_0_22 := g0_0_21.between ht22 (by omega)
  have hkn22 : ¬ k22 < 0 := by omega
  go_wp2_with fail
  refine (markG_any y10_22 hsm1 (by omega) (by omega) (by omega)).mono ?_
  rintro e w23 ⟨k23, rfl, hk23, hl23, ht23⟩
  have q23 := ht23.below q22 (by have := q22.size; omega) q22.size
  have z23 := ht23.size
  have b0_23 : w23.cell? ⟨w.heap.size, 0, none⟩ = some (.slice a0 g0.length c0) := (ht23.cell (p := ⟨w.heap.size, 0, none⟩) (cell_lt b0_22) (by have : w.heap.size < w22.heap.size := cell_lt b0_22; show w.heap.size < _ ∨ _ ≤ w.heap.size; omega)).trans b0_22
  have b1_23 : w23.cell? ⟨w.heap.size + 1, 0, none⟩ = some (.slice a1 g1.length c1) := (ht23.cell (p := ⟨w.heap.size + 1, 0, none⟩) (cell_lt b1_22) (by have : w.heap.size + 1 < w22.heap.size := cell_lt b1_22; show w.heap.size + 1 < _ ∨ _ ≤ w.heap.size + 1; omega)).trans b1_22
  have b2_23 : w23.cell? ⟨w.heap.size + 2, 0, none⟩ = some (.slice a2 m2.length c2) := (ht23.cell (p := ⟨w.heap.size + 2, 0, none⟩) (cell_lt b2_22) (by have : w.heap.size + 2 < w22.heap.size := cell_lt b2_22; show w.heap.size + 2 < _ ∨ _ ≤ w.heap.size + 2; omega)).trans b2_22
  have l9_23 : w23.cell? ⟨w8.heap.size, 0, none⟩ = some (.slice xa8 g0.length xc8) := (ht23.cell (p := ⟨w8.heap.size, 0, none⟩) (cell_lt l9_22) (by have : w8.heap.size < w22.heap.size := cell_lt l9_22; show w8.heap.size < _ ∨ _ ≤ w8.heap.size; omega)).trans l9_22
  have l11_23 : w23.cell? ⟨w10.heap.size, 0, none⟩ = some (.slice xa10 g1.length xc10) := (ht23.cell (p := ⟨w10.heap.size, 0, none⟩) (cell_lt l11_22) (by have : w10.heap.size < w22.heap.size := cell_lt l11_22; show w10.heap.size < _ ∨ _ ≤ w10.heap.size; omega)).trans l11_22
  have l13_23 : w23.cell? ⟨w12.heap.size, 0, none⟩ = some (.slice xa12 m2.length xc12) := (ht23.cell (p := ⟨w12.heap.size, 0, none⟩) (cell_lt l13_22) (by have : w12.heap.size < w22.heap.size := cell_lt l13_22; show w12.heap.size < _ ∨ _ ≤ w12.heap.size; omega)).trans l13_22
  have w0_0_23 := w0_0_22.betweenR ht23 (fun b (hb : b < w7.heap.size) => ⟨by omega, by omega⟩)
  have y12_23 := y12_22.between ht23 (by omega)
  have g0_0_23 := g0_0_22.between ht23 (by omega)
  have hkn23 : ¬ k23 < 0 := by omega
  go_wp2_with fail
  refine (markModel_any y12_23 hsm2 (by omega) (by omega) (by omega)).mono ?_
  rintro e w24 ⟨k24, rfl, hk24, hl24, ht24⟩
  have q24 := ht24.below q23 (by have := q23.size; omega) q23.size
  have z24 := ht24.size
  have b0_24 : w24.cell? ⟨w.heap.size, 0, none⟩ = some (.slice a0 g0.length c0) := (ht24.cell (p := ⟨w.heap.size, 0, none⟩) (cell_lt b0_23) (by have : w.heap.size < w23.heap.size := cell_lt b0_23; show w.heap.size < _ ∨ _ ≤ w.heap.size; omega)).trans b0_23
  have b1_24 : w24.cell? ⟨w.heap.size + 1, 0, none⟩ = some (.slice a1 g1.length c1) := (ht24.cell (p := ⟨w.heap.size + 1, 0, none⟩) (cell_lt b1_23) (by have : w.heap.size + 1 < w23.heap.size := cell_lt b1_23; show w.heap.size + 1 < _ ∨ _ ≤ w.heap.size + 1; omega)).trans b1_23
  have b2_24 : w24.cell? ⟨w.heap.size + 2, 0, none⟩ = some (.slice a2 m2.length c2) := (ht24.cell (p := ⟨w.heap.size + 2, 0, none⟩) (cell_lt b2_23) (by have : w.heap.size + 2 < w23.heap.size := cell_lt b2_23; show w.heap.size + 2 < _ ∨ _ ≤ w.heap.size + 2; omega)).trans b2_23
  have l9_24 : w24.cell? ⟨w8.heap.size, 0, none⟩ = some (.slice xa8 g0.length xc8) := (ht24.cell (p := ⟨w8.heap.size, 0, none⟩) (cell_lt l9_23) (by have : w8.heap.size < w23.heap.size := cell_lt l9_23; show w8.heap.size < _ ∨ _ ≤ w8.heap.size; omega)).trans l9_23
  have l11_24 : w24.cell? ⟨w10.heap.size, 0, none⟩ = some (.slice xa10 g1.length xc10) := (ht24.cell (p := ⟨w10.heap.size, 0, none⟩) (cell_lt l11_23) (by have : w10.heap.size < w23.heap.size := cell_lt l11_23; show w10.heap.size < _ ∨ _ ≤ w10.heap.size; omega)).trans l11_23
  have l13_24 : w24.cell? ⟨w12.heap.size, 0, none⟩ = some (.slice xa12 m2.length xc12) := (ht24.cell (p := ⟨w12.heap.size, 0, none⟩) (cell_lt l13_23) (by have : w12.heap.size < w23.heap.size := cell_lt l13_23; show w12.heap.size < _ ∨ _ ≤ w12.heap.size; omega)).trans l13_23
  have w0_0_24 := w0_0_23.betweenR ht24 (fun b (hb : b < w7.heap.size) => ⟨by omega, by omega⟩)
  have g0_0_24 := g0_0_23.between ht24 (by omega)
  have hkn24 : ¬ k24 < 0 := by omega
  go_wp2_with fail
  refine (eqR_same (g0_0_24.rows hN0) w0_0_24).mono ?_
  rintro e w25 ⟨rfl, hb25⟩
  have q25 := q24.trans (hb25.mono q24.size)
  have z25 := hb25.size
  have b0_25 : w25.cell? ⟨w.heap.size, 0, none⟩ = some (.slice a0 g0.length c0) := (hb25.cell (p := ⟨w.heap.size, 0, none⟩) (cell_lt b0_24)).trans b0_24
  have b1_25 : w25.cell? ⟨w.heap.size + 1, 0, none⟩ = some (.slice a1 g1.length c1) := (hb25.cell (p := ⟨w.heap.size + 1, 0, none⟩) (cell_lt b1_24)).trans b1_24
  have b2_25 : w25.cell? ⟨w.heap.size + 2, 0, none⟩ = some (.slice a2 m2.length c2) := (hb25.cell (p := ⟨w.heap.size + 2, 0, none⟩) (cell_lt b2_24)).trans b2_24
  have l9_25 : w25.cell? ⟨w8.heap.size, 0, none⟩ = some (.slice xa8 g0.length xc8) := (hb25.cell (p := ⟨w8.heap.size, 0, none⟩) (cell_lt l9_24)).trans l9_24
  have l11_25 : w25.cell? ⟨w10.heap.size, 0, none⟩ = some (.slice xa10 g1.length xc10) := (hb25.cell (p := ⟨w10.heap.size, 0, none⟩) (cell_lt l11_24)).trans l11_24
  have l13_25 : w25.cell? ⟨w12.heap.size, 0, none⟩ = some (.slice xa12 m2.length xc12) := (hb25.cell (p := ⟨w12.heap.size, 0, none⟩) (cell_lt l13_24)).trans l13_24
  have w0_0_25 := w0_0_24.below hb25 (Nat.le_refl _)
  have g0_0_25 := g0_0_24.below hb25 (Nat.le_refl _)
  go_wp2_with fail
  refine (markRR_any g0_0_25 hN0 (k := 1) (by omega) (by omega)).mono ?_
  rintro e w26 ⟨rfl, g0_0_26, ht26⟩
  have q26 := ht26.below q25 (by have := q25.size; omega) q25.size
  have z26 := ht26.size
  have b0_26 : w26.cell? ⟨w.heap.size, 0, none⟩ = some (.slice a0 g0.length c0) := (ht26.cell (p := ⟨w.heap.size, 0, none⟩) (cell_lt b0_25) (by have : w.heap.size < w25.heap.size := cell_lt b0_25; show w.heap.size < _ ∨ _ ≤ w.heap.size; omega)).trans b0_25
  have b1_26 : w26.cell? ⟨w.heap.size + 1, 0, none⟩ = some (.slice a1 g1.length c1) := (ht26.cell (p := ⟨w.heap.size + 1, 0, none⟩) (cell_lt b1_25) (by have : w.heap.size + 1 < w25.heap.size := cell_lt b1_25; show w.heap.size + 1 < _ ∨ _ ≤ w.heap.size + 1; omega)).trans b1_25
  have b2_26 : w26.cell? ⟨w.heap.size + 2, 0, none⟩ = some (.slice a2 m2.length c2) := (ht26.cell (p := ⟨w.heap.size + 2, 0, none⟩) (cell_lt b2_25) (by have : w.heap.size + 2 < w25.heap.size := cell_lt b2_25; show w.heap.size + 2 < _ ∨ _ ≤ w.heap.size + 2; omega)).trans b2_25
  have l9_26 : w26.cell? ⟨w8.heap.size, 0, none⟩ = some (.slice xa8 g0.length xc8) := (ht26.cell (p := ⟨w8.heap.size, 0, none⟩) (cell_lt l9_25) (by have : w8.heap.size < w25.heap.size := cell_lt l9_25; show w8.heap.size < _ ∨ _ ≤ w8.heap.size; omega)).trans l9_25
  have l11_26 : w26.cell? ⟨w10.heap.size, 0, none⟩ = some (.slice xa10 g1.length xc10) := (ht26.cell (p := ⟨w10.heap.size, 0, none⟩) (cell_lt l11_25) (by have : w10.heap.size < w25.heap.size := cell_lt l11_25; show w10.heap.size < _ ∨ _ ≤ w10.heap.size; omega)).trans l11_25
  have l13_26 : w26.cell? ⟨w12.heap.size, 0, none⟩ = some (.slice xa12 m2.length xc12) := (ht26.cell (p := ⟨w12.heap.size, 0, none⟩) (cell_lt l13_25) (by have : w12.heap.size < w25.heap.size := cell_lt l13_25; show w12.heap.size < _ ∨ _ ≤ w12.heap.size; omega)).trans l13_25
  have w0_0_26 := w0_0_25.betweenR ht26 (fun b (hb : b < w7.heap.size) => ⟨by omega, by omega⟩)
  have hmn26 : ¬ (1 + (sumL r0 : Int)) < 0 := by omega
  go_wp2_with fail
  refine (heldRR_any (g0_0_26.rows (marksR_small hN0)) hN0 (k := 1) (by omega) (by omega)).mono ?_
  rintro e w27 ⟨rfl, hb27⟩
  have q27 := q26.trans (hb27.mono q26.size)
  have z27 := hb27.size
  have b0_27 : w27.cell? ⟨w.heap.size, 0, none⟩ = some (.slice a0 g0.length c0) := (hb27.cell (p := ⟨w.heap.size, 0, none⟩) (cell_lt b0_26)).trans b0_26
  have b1_27 : w27.cell? ⟨w.heap.size + 1, 0, none⟩ = some (.slice a1 g1.length c1) := (hb27.cell (p := ⟨w.heap.size + 1, 0, none⟩) (cell_lt b1_26)).trans b1_26
  have b2_27 : w27.cell? ⟨w.heap.size + 2, 0, none⟩ = some (.slice a2 m2.length c2) := (hb27.cell (p := ⟨w.heap.size + 2, 0, none⟩) (cell_lt b2_26)).trans b2_26
  have l9_27 : w27.cell? ⟨w8.heap.size, 0, none⟩ = some (.slice xa8 g0.length xc8) := (hb27.cell (p := ⟨w8.heap.size, 0, none⟩) (cell_lt l9_26)).trans l9_26
  have l11_27 : w27.cell? ⟨w10.heap.size, 0, none⟩ = some (.slice xa10 g1.length xc10) := (hb27.cell (p := ⟨w10.heap.size, 0, none⟩) (cell_lt l11_26)).trans l11_26
  have l13_27 : w27.cell? ⟨w12.heap.size, 0, none⟩ = some (.slice xa12 m2.length xc12) := (hb27.cell (p := ⟨w12.heap.size, 0, none⟩) (cell_lt l13_26)).trans l13_26
  have w0_0_27 := w0_0_26.below hb27 (Nat.le_refl _)
  have g0_0_27 := g0_0_26.below hb27 (Nat.le_refl _)
  have hmn27 : ¬ (1 + (sumL r0 : Int)) < 0 := by omega
  go_wp2
  refine wp_region_held_drew (S := (fun w' => w'.cell? ⟨w.heap.size, 0, none⟩ = some (.slice a0 g0.length c0) ∧ w'.cell? ⟨w.heap.size + 1, 0, none⟩ = some (.slice a1 g1.length c1) ∧ w'.cell? ⟨w.heap.size + 2, 0, none⟩ = some (.slice a2 m2.length c2) ∧ w'.cell? ⟨w8.heap.size, 0, none⟩ = some (.slice xa8 g0.length xc8) ∧ w'.cell? ⟨w10.heap.size, 0, none⟩ = some (.slice xa10 g1.length xc10) ∧ w'.cell? ⟨w12.heap.size, 0, none⟩ = some (.slice xa12 m2.length xc12))) (by kernel_rfl) ?_ (fun hHeld => ?_)
  · first | exact ⟨‹_›, ‹_›, ‹_›, ‹_›, ‹_›, ‹_›⟩ | assumption | (simp [*, go_sem])
  refine wpAnyH_take (i := 0) (v := ?v56) (by simp only [List.getElem?_toArray, List.getElem?_cons_zero]; exact rfl) (by kernel_rfl) (by kernel_rfl) (by kernel_rfl) (by intro _ _ _ h; exact h) (Or.inl ⟨by rfl, ?y56⟩) hHeld ?_
  case y56 => (intro w hSw; (try dsimp only at hSw); go_simp; try (with_reducible rfl))
  try simp only [Act.put, List.setIfInBounds_toArray, List.set_cons_zero, List.set_cons_succ]
  refine wpAnyH_take (i := 2) (v := ?v57) (by simp only [List.getElem?_toArray, List.getElem?_cons_succ, List.getElem?_cons_zero]; exact rfl) (by kernel_rfl) (by kernel_rfl) (by kernel_rfl) (by intro _ _ _ h; exact h) (Or.inl ⟨by rfl, ?y57⟩) hHeld ?_
  case y57 => (intro w hSw; (try dsimp only at hSw); go_simp; try (with_reducible rfl))
  try simp only [Act.put, List.setIfInBounds_toArray, List.set_cons_zero, List.set_cons_succ]
  refine wpAnyH_take (i := 4) (v := ?v58) (by simp only [List.getElem?_toArray, List.getElem?_cons_succ, List.getElem?_cons_zero]; exact rfl) (by kernel_rfl) (by kernel_rfl) (by kernel_rfl) (by intro _ _ _ h; exact h) (Or.inl ⟨by rfl, ?y58⟩) hHeld ?_
  case y58 => (intro w hSw; (try dsimp only at hSw); go_simp; try (with_reducible rfl))
  try simp only [Act.put, List.setIfInBounds_toArray, List.set_cons_zero, List.set_cons_succ]
  refine wpAnyH_ready (rs := [1]) (by kernel_rfl) (by simp) ?_
  refine AllReadyH.cons (by simp only [List.getElem?_toArray, List.getElem?_cons_succ, List.getElem?_cons_zero]; exact rfl) (fun K hK => ?_) AllReadyH.nil
  go_simp
  have q27d := q27.drew
  have w0_0_27k := w0_0_27
  have w0_0_27 := w0_0_27.below ((Below.refl w27.heap.size w27).drew) (Nat.le_refl _)
  have g0_0_27k := g0_0_27
  have g0_0_27 := g0_0_27.below ((Below.refl w27.heap.size w27).drew) (Nat.le_refl _)
  refine (toGraph_any _ _ _ (hv0.below q27d (Nat.le_refl _)) hsm0).mono ?_
  rintro e w28 ⟨x28, rfl, y28_28, hb28⟩
  replace hb28 : Below w27.heap.size w27 w28 := ⟨hb28.os, hb28.tape, hb28.output, hb28.size, hb28.block⟩
  replace w0_0_27 := w0_0_27k
  replace g0_0_27 := g0_0_27k
  have q28 := q27.trans (hb28.mono q27.size)
  have z28 := hb28.size
  have b0_28 : w28.cell? ⟨w.heap.size, 0, none⟩ = some (.slice a0 g0.length c0) := (hb28.cell (p := ⟨w.heap.size, 0, none⟩) (cell_lt b0_27)).trans b0_27
  have b1_28 : w28.cell? ⟨w.heap.size + 1, 0, none⟩ = some (.slice a1 g1.length c1) := (hb28.cell (p := ⟨w.heap.size + 1, 0, none⟩) (cell_lt b1_27)).trans b1_27
  have b2_28 : w28.cell? ⟨w.heap.size + 2, 0, none⟩ = some (.slice a2 m2.length c2) := (hb28.cell (p := ⟨w.heap.size + 2, 0, none⟩) (cell_lt b2_27)).trans b2_27
  have l9_28 : w28.cell? ⟨w8.heap.size, 0, none⟩ = some (.slice xa8 g0.length xc8) := (hb28.cell (p := ⟨w8.heap.size, 0, none⟩) (cell_lt l9_27)).trans l9_27
  have l11_28 : w28.cell? ⟨w10.heap.size, 0, none⟩ = some (.slice xa10 g1.length xc10) := (hb28.cell (p := ⟨w10.heap.size, 0, none⟩) (cell_lt l11_27)).trans l11_27
  have l13_28 : w28.cell? ⟨w12.heap.size, 0, none⟩ = some (.slice xa12 m2.length xc12) := (hb28.cell (p := ⟨w12.heap.size, 0, none⟩) (cell_lt l13_27)).trans l13_27
  have w0_0_28 := w0_0_27.below hb28 (Nat.le_refl _)
  have g0_0_28 := g0_0_27.below hb28 (Nat.le_refl _)
  try dsimp only
  refine hK.out _ _ ?h60 (fun hHeld => ?_)
  case h60 => first | exact ⟨‹_›, ‹_›, ‹_›, ‹_›, ‹_›, ‹_›⟩ | assumption | (simp [*, go_sem])
  clear hK K
  try simp only [Act.put, List.setIfInBounds_toArray, List.set_cons_zero, List.set_cons_succ]
  refine wpAnyH_ready (rs := [3]) (by kernel_rfl) (by simp) ?_
  refine AllReadyH.cons (by simp only [List.getElem?_toArray, List.getElem?_cons_succ, List.getElem?_cons_zero]; exact rfl) (fun K hK => ?_) AllReadyH.nil
  go_simp
  refine (toGraph_any _ _ _ (hv1.below q28 (Nat.le_refl _)) hsm1).mono ?_
  rintro e w29 ⟨x29, rfl, y29_29, hb29⟩
  have q29 := q28.trans (hb29.mono q28.size)
  have z29 := hb29.size
  have b0_29 : w29.cell? ⟨w.heap.size, 0, none⟩ = some (.slice a0 g0.length c0) := (hb29.cell (p := ⟨w.heap.size, 0, none⟩) (cell_lt b0_28)).trans b0_28
  have b1_29 : w29.cell? ⟨w.heap.size + 1, 0, none⟩ = some (.slice a1 g1.length c1) := (hb29.cell (p := ⟨w.heap.size + 1, 0, none⟩) (cell_lt b1_28)).trans b1_28
  have b2_29 : w29.cell? ⟨w.heap.size + 2, 0, none⟩ = some (.slice a2 m2.length c2) := (hb29.cell (p := ⟨w.heap.size + 2, 0, none⟩) (cell_lt b2_28)).trans b2_28
  have l9_29 : w29.cell? ⟨w8.heap.size, 0, none⟩ = some (.slice xa8 g0.length xc8) := (hb29.cell (p := ⟨w8.heap.size, 0, none⟩) (cell_lt l9_28)).trans l9_28
  have l11_29 : w29.cell? ⟨w10.heap.size, 0, none⟩ = some (.slice xa10 g1.length xc10) := (hb29.cell (p := ⟨w10.heap.size, 0, none⟩) (cell_lt l11_28)).trans l11_28
  have l13_29 : w29.cell? ⟨w12.heap.size, 0, none⟩ = some (.slice xa12 m2.length xc12) := (hb29.cell (p := ⟨w12.heap.size, 0, none⟩) (cell_lt l13_28)).trans l13_28
  have w0_0_29 := w0_0_28.below hb29 (Nat.le_refl _)
  have g0_0_29 := g0_0_28.below hb29 (Nat.le_refl _)
  have y28_29 := y28_28.below hb29 (Nat.le_refl _)
  try dsimp only
  refine hK.out _ _ ?h62 (fun hHeld => ?_)
  case h62 => first | exact ⟨‹_›, ‹_›, ‹_›, ‹_›, ‹_›, ‹_›⟩ | assumption | (simp [*, go_sem])
  clear hK K
  try simp only [Act.put, List.setIfInBounds_toArray, List.set_cons_zero, List.set_cons_succ]
  refine wpAnyH_ready (rs := [5]) (by kernel_rfl) (by simp) ?_
  refine AllReadyH.cons (by simp only [List.getElem?_toArray, List.getElem?_cons_succ, List.getElem?_cons_zero]; exact rfl) (fun K hK => ?_) AllReadyH.nil
  go_simp
  refine (toModel_any _ _ _ (hv2.below q29 (Nat.le_refl _)) hsm2).mono ?_
  rintro e w30 ⟨x30, rfl, y30_30, hb30⟩
  have q30 := q29.trans (hb30.mono q29.size)
  have z30 := hb30.size
  have b0_30 : w30.cell? ⟨w.heap.size, 0, none⟩ = some (.slice a0 g0.length c0) := (hb30.cell (p := ⟨w.heap.size, 0, none⟩) (cell_lt b0_29)).trans b0_29
  have b1_30 : w30.cell? ⟨w.heap.size + 1, 0, none⟩ = some (.slice a1 g1.length c1) := (hb30.cell (p := ⟨w.heap.size + 1, 0, none⟩) (cell_lt b1_29)).trans b1_29
  have b2_30 : w30.cell? ⟨w.heap.size + 2, 0, none⟩ = some (.slice a2 m2.length c2) := (hb30.cell (p := ⟨w.heap.size + 2, 0, none⟩) (cell_lt b2_29)).trans b2_29
  have l9_30 : w30.cell? ⟨w8.heap.size, 0, none⟩ = some (.slice xa8 g0.length xc8) := (hb30.cell (p := ⟨w8.heap.size, 0, none⟩) (cell_lt l9_29)).trans l9_29
  have l11_30 : w30.cell? ⟨w10.heap.size, 0, none⟩ = some (.slice xa10 g1.length xc10) := (hb30.cell (p := ⟨w10.heap.size, 0, none⟩) (cell_lt l11_29)).trans l11_29
  have l13_30 : w30.cell? ⟨w12.heap.size, 0, none⟩ = some (.slice xa12 m2.length xc12) := (hb30.cell (p := ⟨w12.heap.size, 0, none⟩) (cell_lt l13_29)).trans l13_29
  have w0_0_30 := w0_0_29.below hb30 (Nat.le_refl _)
  have g0_0_30 := g0_0_29.below hb30 (Nat.le_refl _)
  have y28_30 := y28_29.below hb30 (Nat.le_refl _)
  have y29_30 := y29_29.below hb30 (Nat.le_refl _)
  try dsimp only
  refine hK.out _ _ ?h64 (fun hHeld => ?_)
  case h64 => first | exact ⟨‹_›, ‹_›, ‹_›, ‹_›, ‹_›, ‹_›⟩ | assumption | (simp [*, go_sem])
  clear hK K
  try simp only [Act.put, List.setIfInBounds_toArray, List.set_cons_zero, List.set_cons_succ]
  refine wpAnyH_ready (rs := [6]) (by kernel_rfl) (by simp) ?_
  refine AllReadyH.cons (by simp only [List.getElem?_toArray, List.getElem?_cons_succ, List.getElem?_cons_zero]; exact rfl) (fun K hK => ?_) AllReadyH.nil
  go_simp
  refine (hI (ht.below q30 (Nat.le_refl _)) y28_30 y29_30 y30_30).mono ?_
  rintro e w31 ⟨h0u0, rfl, h0_0_31, hb31⟩
  have q31 := q30.trans (hb31.mono q30.size)
  have z31 := hb31.size
  have b0_31 : w31.cell? ⟨w.heap.size, 0, none⟩ = some (.slice a0 g0.length c0) := (hb31.cell (p := ⟨w.heap.size, 0, none⟩) (cell_lt b0_30)).trans b0_30
  have b1_31 : w31.cell? ⟨w.heap.size + 1, 0, none⟩ = some (.slice a1 g1.length c1) := (hb31.cell (p := ⟨w.heap.size + 1, 0, none⟩) (cell_lt b1_30)).trans b1_30
  have b2_31 : w31.cell? ⟨w.heap.size + 2, 0, none⟩ = some (.slice a2 m2.length c2) := (hb31.cell (p := ⟨w.heap.size + 2, 0, none⟩) (cell_lt b2_30)).trans b2_30
  have l9_31 : w31.cell? ⟨w8.heap.size, 0, none⟩ = some (.slice xa8 g0.length xc8) := (hb31.cell (p := ⟨w8.heap.size, 0, none⟩) (cell_lt l9_30)).trans l9_30
  have l11_31 : w31.cell? ⟨w10.heap.size, 0, none⟩ = some (.slice xa10 g1.length xc10) := (hb31.cell (p := ⟨w10.heap.size, 0, none⟩) (cell_lt l11_30)).trans l11_30
  have l13_31 : w31.cell? ⟨w12.heap.size, 0, none⟩ = some (.slice xa12 m2.length xc12) := (hb31.cell (p := ⟨w12.heap.size, 0, none⟩) (cell_lt l13_30)).trans l13_30
  have w0_0_31 := w0_0_30.below hb31 (Nat.le_refl _)
  have g0_0_31 := g0_0_30.below hb31 (Nat.le_refl _)
  have y28_31 := y28_30.below hb31 (Nat.le_refl _)
  have y29_31 := y29_30.below hb31 (Nat.le_refl _)
  have y30_31 := y30_30.below hb31 (Nat.le_refl _)
  obtain ⟨h0a0, h0c0, rfl⟩ := h0_0_31.isSlice
  try dsimp only
  refine hK.out _ _ ?h66 (fun hHeld => ?_)
  case h66 => first | exact ⟨‹_›, ‹_›, ‹_›, ‹_›, ‹_›, ‹_›⟩ | assumption | (simp [*, go_sem])
  clear hK K
  try simp only [Act.put, List.setIfInBounds_toArray, List.set_cons_zero, List.set_cons_succ]
  refine wpAnyH_take (i := 7) (v := ?v67) (by simp only [List.getElem?_toArray, List.getElem?_cons_succ, List.getElem?_cons_zero]; exact rfl) (by kernel_rfl) (by kernel_rfl) (by kernel_rfl) (by intro _ _ _ h; exact h) (Or.inl ⟨by rfl, ?y67⟩) hHeld ?_
  case y67 => (intro w hSw; (try dsimp only at hSw); go_simp; try (with_reducible rfl))
  try simp only [Act.put, List.setIfInBounds_toArray, List.set_cons_zero, List.set_cons_succ]
  refine wpAnyH_done (by kernel_rfl) ?_ _
  go_wp2_with fail
  refine (eqR_same (h0_0_31.rows hN0) w0_0_31).mono ?_
  rintro e w32 ⟨rfl, hb32⟩
  have q32 := q31.trans (hb32.mono q31.size)
  have z32 := hb32.size
  have b0_32 : w32.cell? ⟨w.heap.size, 0, none⟩ = some (.slice a0 g0.length c0) := (hb32.cell (p := ⟨w.heap.size, 0, none⟩) (cell_lt b0_31)).trans b0_31
  have b1_32 : w32.cell? ⟨w.heap.size + 1, 0, none⟩ = some (.slice a1 g1.length c1) := (hb32.cell (p := ⟨w.heap.size + 1, 0, none⟩) (cell_lt b1_31)).trans b1_31
  have b2_32 : w32.cell? ⟨w.heap.size + 2, 0, none⟩ = some (.slice a2 m2.length c2) := (hb32.cell (p := ⟨w.heap.size + 2, 0, none⟩) (cell_lt b2_31)).trans b2_31
  have l9_32 : w32.cell? ⟨w8.heap.size, 0, none⟩ = some (.slice xa8 g0.length xc8) := (hb32.cell (p := ⟨w8.heap.size, 0, none⟩) (cell_lt l9_31)).trans l9_31
  have l11_32 : w32.cell? ⟨w10.heap.size, 0, none⟩ = some (.slice xa10 g1.length xc10) := (hb32.cell (p := ⟨w10.heap.size, 0, none⟩) (cell_lt l11_31)).trans l11_31
  have l13_32 : w32.cell? ⟨w12.heap.size, 0, none⟩ = some (.slice xa12 m2.length xc12) := (hb32.cell (p := ⟨w12.heap.size, 0, none⟩) (cell_lt l13_31)).trans l13_31
  have w0_0_32 := w0_0_31.below hb32 (Nat.le_refl _)
  have g0_0_32 := g0_0_31.below hb32 (Nat.le_refl _)
  have h0_0_32 := h0_0_31.below hb32 (Nat.le_refl _)
  go_wp2_with fail
  refine (heldRR_any (g0_0_32.rows (marksR_small hN0)) hN0 (k := 1) (by omega) (by omega)).mono ?_
  rintro e w33 ⟨rfl, hb33⟩
  have q33 := q32.trans (hb33.mono q32.size)
  have z33 := hb33.size
  have b0_33 : w33.cell? ⟨w.heap.size, 0, none⟩ = some (.slice a0 g0.length c0) := (hb33.cell (p := ⟨w.heap.size, 0, none⟩) (cell_lt b0_32)).trans b0_32
  have b1_33 : w33.cell? ⟨w.heap.size + 1, 0, none⟩ = some (.slice a1 g1.length c1) := (hb33.cell (p := ⟨w.heap.size + 1, 0, none⟩) (cell_lt b1_32)).trans b1_32
  have b2_33 : w33.cell? ⟨w.heap.size + 2, 0, none⟩ = some (.slice a2 m2.length c2) := (hb33.cell (p := ⟨w.heap.size + 2, 0, none⟩) (cell_lt b2_32)).trans b2_32
  have l9_33 : w33.cell? ⟨w8.heap.size, 0, none⟩ = some (.slice xa8 g0.length xc8) := (hb33.cell (p := ⟨w8.heap.size, 0, none⟩) (cell_lt l9_32)).trans l9_32
  have l11_33 : w33.cell? ⟨w10.heap.size, 0, none⟩ = some (.slice xa10 g1.length xc10) := (hb33.cell (p := ⟨w10.heap.size, 0, none⟩) (cell_lt l11_32)).trans l11_32
  have l13_33 : w33.cell? ⟨w12.heap.size, 0, none⟩ = some (.slice xa12 m2.length xc12) := (hb33.cell (p := ⟨w12.heap.size, 0, none⟩) (cell_lt l13_32)).trans l13_32
  have w0_0_33 := w0_0_32.below hb33 (Nat.le_refl _)
  have g0_0_33 := g0_0_32.below hb33 (Nat.le_refl _)
  have h0_0_33 := h0_0_32.below hb33 (Nat.le_refl _)
  have hmn33 : ¬ (1 + (sumL r0 : Int)) < 0 := by omega
  go_wp2
  go_ret
  exact ⟨rfl, q33⟩
end Go.Proofs.YtklnjpdpinccoaaDoor
