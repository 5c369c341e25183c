/- BranchEdges of the reference; the program's bagMasks. -/
import Derived.Test.YtklnjpdpinccoaaDoorBra1
namespace Go.Proofs.YtklnjpdpinccoaaDoor
open Go.RowKit
def brE (g ms : List (List Int)) (e : List Int) : List Int := firstE g (mset ms (e.getD 0 0)) (mset ms (e.getD 1 0))
def branchL (g p ms : List (List Int)) : List (List Int) := (edgesL p).map (brE g ms)
noncomputable def branchF (g p ms : List (List Int)) : List (List Int) := if modelOkB g p ms = true then branchL g p ms else []
theorem model_parts {g p ms : List (List Int)} (h : modelOkB g p ms = true) : GOk g ∧ GOk p ∧ ms.length = p.length ∧ (∀ k (hk : k < ms.length), Rise ms[k] g.length) ∧ ∀ e ∈ edgesL p, betwB g (mset ms (e.getD 0 0)) (mset ms (e.getD 1 0)) = true := by
  simp only [modelOkB, Bool.and_eq_true, decide_eq_true_eq, List.all_eq_true] at h
  obtain ⟨⟨⟨⟨h1, h2⟩, h3⟩, -⟩, h5⟩ := h
  obtain ⟨hg, -, hr⟩ := modelF_parts (g := g) (ms := ms) (by intro e; rw [e] at h1; cases h1)
  exact ⟨hg, gokB_iff.1 h2, h3, hr, h5⟩
theorem firstE_len {g : List (List Int)} (hg : GOk g) (A B : List Int) : (firstE g A B).length ≤ 2 := by
  unfold firstE
  cases h : (edgesL g).find? (tst A B) with
  | none => simp
  | some e =>
    have hm := List.mem_of_find?_eq_some h
    obtain ⟨u, -, v, -, -, e1⟩ := mem_edgesTo.1 (show e ∈ edgesTo g g.length from hm)
    rw [e1]; simp
theorem branch_small {g p ms : List (List Int)} : SmallR (branchF g p ms) 1048576 := by
  unfold branchF
  split
  · rename_i h
    obtain ⟨hg, hp, -⟩ := model_parts h
    have hs := (edges_small hp).1
    refine ⟨by rw [branchL, List.length_map]; exact hs, fun i hi _ => ?_⟩
    simp only [branchL, List.getElem_map]
    have := firstE_len hg (mset ms (((edgesL p)[i]'(by simpa [branchL] using hi)).getD 0 0)) (mset ms (((edgesL p)[i]'(by simpa [branchL] using hi)).getD 1 0))
    unfold brE; omega
  · exact ⟨by simp, fun i hi => by simp at hi⟩
set_option maxRecDepth 100000 in
set_option maxHeartbeats 8000000 in
theorem specBranchEdges_any {S0 S1 S2 : Nat → Prop} {gv pv mv : Value} {g p ms : List (List Int)} {w : World} (hvg : SlR S0 w gv g) (hvp : SlR S1 w pv p) (hvm : SlR S2 w mv ms) :
    Calls Tryd.prog 24 #[.agg #[gv], .agg #[pv], .agg #[mv]] w fun e w' => ∃ u, e = .returned u ∧ SlR (fun b => b < w'.heap.size) w' u (branchF g p ms) ∧ Below w.heap.size w w' := by
  have hgb := fun (W : World) (hb : Below w.heap.size w W) => hvg.below hb (Nat.le_refl _)
  have hpb := fun (W : World) (hb : Below w.heap.size w W) => hvp.below hb (Nat.le_refl _)
  have hmb := fun (W : World) (hb : Below w.heap.size w W) => hvm.below hb (Nat.le_refl _)
  obtain ⟨ga, gc, rfl⟩ := hvg.slice
  obtain ⟨pa, pc, rfl⟩ := hvp.slice
  obtain ⟨ma, mc, rfl⟩ := hvm.slice
  have hq0 : Below w.heap.size w ((((w.alloc (.cells #[.slice ga g.length gc] 27)).alloc (.cells #[.slice pa p.length pc] 27)).alloc (.cells #[.slice ma ms.length mc] 43)).alloc (.cells #[] 34)) := ((((Below.refl _ _).alloc (Nat.le_refl _) _).alloc (by simp) _).alloc (by simp; omega) _).alloc (by simp; omega) _
  have hS0 : OwnS ((((w.alloc (.cells #[.slice ga g.length gc] 27)).alloc (.cells #[.slice pa p.length pc] 27)).alloc (.cells #[.slice ma ms.length mc] 43)).alloc (.cells #[] 34)) (w.heap.size + 3) 34 (.slice (some ⟨w.heap.size + 3, 0, none⟩) 0 0) [] := by
    have h := OwnS.empty (((w.alloc (.cells #[.slice ga g.length gc] 27)).alloc (.cells #[.slice pa p.length pc] 27)).alloc (.cells #[.slice ma ms.length mc] 43)) (w.heap.size + 3) 34 (by simp)
    rw [show (((w.alloc (.cells #[.slice ga g.length gc] 27)).alloc (.cells #[.slice pa p.length pc] 27)).alloc (.cells #[.slice ma ms.length mc] 43)).heap.size = w.heap.size + 3 by simp] at h
    exact h
  have hmo := specModelOk_any (hgb _ hq0) (hpb _ hq0) (hmb _ hq0)
  by_cases hok : modelOkB g p ms = true
  case neg =>
    have hok' : modelOkB g p ms = false := by simpa using hok
    have HE := Lib.hid (show branchF g p ms = [] by rw [branchF, if_neg hok])
    rw [hok'] at hmo
    rw [HE.out]
    clear hok hok'
    go_enter Tryd.func24, Tryd.ntmps24
    go_wp2_with fail
    refine hmo.mono ?_
    rintro e w1 ⟨rfl, hb1⟩
    go_wp2
    go_ret
    exact ⟨_, rfl, ⟨_, w.heap.size, 0, 0, fun _ => undef, rfl, by simp, fun h => by simp at h, fun i hi => by simp at hi⟩, hq0.trans (hb1.mono hq0.size)⟩
  have HE := Lib.hid (show branchF g p ms = branchL g p ms by rw [branchF, if_pos hok])
  obtain ⟨hg, hp, hlen, hri, hbt⟩ := model_parts hok
  rw [hok] at hmo
  rw [HE.out]
  have hes := edges_small hp
  have hEL := hes.1
  have hed := fun (W : World) (hb : Below w.heap.size w W) => EdgesOf_any hp (hpb W hb)
  have HPT := Lib.hid (fun k (hk : k < (edgesL p).length) => edge_parts hp hk)
  have HBL := Lib.hid (show branchL g p ms = (edgesL p).map (brE g ms) from rfl)
  have hbet := fun (W : World) (hb : Below w.heap.size w W) (a b : Value) (A B : List Int) (hA : SlI S2 W .i64 a A) (hB : SlI S2 W .i64 b B) => l21BetweenR_any hg (hgb W hb) hA hB
  have HLEN := Lib.hid hlen
  clear hok hbt hlen
  go_enter Tryd.func24, Tryd.ntmps24
  go_wp2_with fail
  refine hmo.mono ?_
  rintro e w1 ⟨rfl, hb1⟩
  have hq1 := hq0.trans (hb1.mono hq0.size)
  have b0 : w1.cell? ⟨w.heap.size, 0, none⟩ = some (.slice ga g.length gc) := (hb1.cell (p := ⟨w.heap.size, 0, none⟩) (by simp <;> omega)).trans (by simp [go_sem])
  have b1 : w1.cell? ⟨w.heap.size + 1, 0, none⟩ = some (.slice pa p.length pc) := (hb1.cell (p := ⟨w.heap.size + 1, 0, none⟩) (by simp <;> omega)).trans (by simp [go_sem])
  have b2 : w1.cell? ⟨w.heap.size + 2, 0, none⟩ = some (.slice ma ms.length mc) := (hb1.cell (p := ⟨w.heap.size + 2, 0, none⟩) (by simp <;> omega)).trans (by simp [go_sem])
  have hS1 := hS0.below hb1 (Nat.le_refl _)
  clear hmo hS0 hq0
  go_wp2_with fail
  refine (hed _ hq1).mono ?_
  rintro e w2 ⟨ev, rfl, hev, hb2⟩
  have hq2 := hq1.trans (hb2.mono hq1.size)
  have b0 := (hb2.cell (cell_lt b0)).trans b0
  have b2 := (hb2.cell (cell_lt b2)).trans b2
  have hS2 := hS1.below hb2 (Nat.le_refl _)
  have hE : SlR (Off1 w2 (.slice (some ⟨w.heap.size + 3, 0, none⟩) 0 0)) w2 ev (edgesL p) := (hev.rows hes).weak (fun b hb => ⟨hb.2, fun e => by
    have h1 := cell_lt b1
    obtain ⟨vs, -, h2, -⟩ := hS1
    have := (h2.lt b e).2
    have := hb.1; omega⟩)
  generalize edgesL p = E at *
  obtain ⟨ea, ec, rfl⟩ := hE.slice
  clear hev hS1 hq1 hb1 b1 hed
  go_wp2
  go_loopw [7, 9] (fun o i wr => ∃ k : Nat, k ≤ E.length ∧ i = .int .i64 k ∧ OwnS wr (w.heap.size + 3) 34 o ((E.take k).map (brE g ms)) ∧ SlR (Off1 wr o) wr (.slice ea E.length ec) E ∧ Below w.heap.size w wr ∧ wr.cell? ⟨w.heap.size, 0, none⟩ = some (.slice ga g.length gc) ∧ wr.cell? ⟨w.heap.size + 2, 0, none⟩ = some (.slice ma ms.length mc)) (fun _ i _ => E.length - (intOf i).toNat)
  case atStart => exact ⟨0, Nat.zero_le _, rfl, by simpa using hS2, hE, hq2, b0, b2⟩
  case round =>
    clear hS2 hE hq2 b0 b2
    obtain ⟨k, hk, rfl, hS, hE, hq, b0, b2⟩ := hrel
    obtain ⟨wi, rfl⟩ : ∃ wx : World, wx = wr := ⟨_, rfl⟩
    have hml : ((E.take k).map (brE g ms)).length = k := by rw [List.length_map, List.length_take]; omega
    obtain ⟨oa, oc, rfl⟩ := hS.isSlice
    by_cases hlt : k < E.length
    case neg =>
      obtain rfl : k = E.length := by omega
      have h6 := hS.rows (by rw [hml]; omega)
      have HX := Lib.hid (show (E.take E.length).map (brE g ms) = branchL g p ms by rw [List.take_length, HBL.out])
      have h7 : SlR (fun b => b < wi.heap.size) wi (.slice oa ((E.take E.length).map (brE g ms)).length oc) (branchL g p ms) := by rw [← HX.out]; exact h6
      go_wp2
      go_ret
      exact ⟨.slice oa ((E.take E.length).map (brE g ms)).length oc, rfl, h7, hq⟩
    obtain ⟨u, z, hek, hu, hz⟩ := HPT.out k hlt
    obtain ⟨eab, eb, eo, ecp, ef, hve, hel, hea, hec⟩ := hE
    obtain ⟨rfl, hSe⟩ := hea (by omega)
    simp only [Value.slice.injEq, true_and] at hve
    obtain ⟨rfl, rfl⟩ := hve
    obtain ⟨hce, hrow⟩ := hec k hlt
    rw [hek] at hrow
    obtain ⟨ra, rb, ro, rc, hre, -, hra, hrc⟩ := hrow
    obtain ⟨rfl, hSr⟩ := hra (by simp)
    rw [hre] at hce
    have c0 := hrc 0 (by simp)
    have c1 := hrc 1 (by simp)
    simp only [List.length_cons, List.length_nil, Nat.zero_add, List.getElem_cons_zero, List.getElem_cons_succ, Nat.add_zero] at hce c0 c1
    have HTK := Lib.hid (show (E.take (k + 1)).map (brE g ms) = (E.take k).map (brE g ms) ++ [firstE g (ms.getD u []) (ms.getD z [])] by
      rw [List.take_succ_eq_append_getElem hlt, List.map_append, hek]; rfl)
    have hE2 : SlR (Off1 wi (.slice oa ((E.take k).map (brE g ms)).length oc)) wi (.slice (some ⟨eb, eo, none⟩) E.length ec) E := ⟨_, eb, eo, ec, ef, rfl, hel, hea, hec⟩
    have hlen := HLEN.out
    obtain ⟨mab, mb, mo, mcp, mf, hve2, hml2, hma, hmc⟩ := hmb wi hq
    obtain ⟨rfl, -⟩ := hma (by omega)
    simp only [Value.slice.injEq, true_and] at hve2
    obtain ⟨rfl, rfl⟩ := hve2
    obtain ⟨hcu, hru⟩ := hmc u (by omega)
    obtain ⟨hcz, hrz⟩ := hmc z (by omega)
    have eu : ms.getD u [] = ms[u]'(by omega) := by simp; rw [List.getElem?_eq_getElem (by omega)]; rfl
    have ez : ms.getD z [] = ms[z]'(by omega) := by simp; rw [List.getElem?_eq_getElem (by omega)]; rfl
    rw [← eu] at hru
    rw [← ez] at hrz
    obtain ⟨uva, uvc, hue⟩ := hru.slice
    obtain ⟨zva, zvc, hze⟩ := hrz.slice
    rw [hue] at hcu hru
    rw [hze] at hcz hrz
    have hum : u < ms.length := by omega
    have hzm : z < ms.length := by omega
    have hfl := firstE_len hg (ms.getD u []) (ms.getD z [])
    have hbw := fun (W : World) (hb : Below w.heap.size w W) (hd : Below wi.heap.size wi W) => hbet W hb _ _ _ _ (hru.below hd (Nat.le_refl _)) (hrz.below hd (Nat.le_refl _))
    clear hec hel hea hrc hre hek hmc hml2 hma hue hze eu ez hbet HPT hru hrz hlen
    generalize firstE g (ms.getD u []) (ms.getD z []) = fe at *
    generalize ms.getD u [] = A at *
    generalize ms.getD z [] = B at *
    generalize (E.take k).map (brE g ms) = F at *
    have hFl : F.length ≤ 1048576 := by omega
    have HML := Lib.hid hml
    clear hml
    have hdb0 := (Below.refl wi.heap.size wi).drew
    go_wp2
    refine wp_region_held_drew (S := (fun w' => w'.cell? ⟨w.heap.size, 0, none⟩ = some (.slice ga g.length gc) ∧ w'.cell? ⟨w.heap.size + 2, 0, none⟩ = some (.slice (some ⟨mb, mo, none⟩) ms.length mc) ∧ w'.cell? ⟨eb, eo + k, none⟩ = some (.slice (some ⟨rb, ro, none⟩) 2 rc) ∧ w'.cell? ⟨rb, ro, none⟩ = some (.int .i64 (u : Int)) ∧ w'.cell? ⟨rb, ro + 1, none⟩ = some (.int .i64 (z : Int)) ∧ w'.cell? ⟨mb, mo + u, none⟩ = some (.slice uva A.length uvc) ∧ w'.cell? ⟨mb, mo + z, none⟩ = some (.slice zva B.length zvc))) (by kernel_rfl) ?_ (fun hHeld => ?_)
    · first | exact ⟨‹_›, ‹_›, ‹_›, ‹_›, ‹_›, ‹_›, ‹_›⟩ | assumption | (simp [*, go_sem])
    have hqd := hq.drew
    have hdd := hdb0
    have hSd := hS.below hdb0 (Nat.le_refl _)
    have hEd := hE2.offBelow hdb0
    generalize wi.drew = wd at hqd hdd hSd hEd hHeld ⊢
    have hHeld2 := hHeld
    obtain ⟨d0, d1, d2, d3, d4, d5, d6⟩ := hHeld2
    refine wpAnyH_take (i := 0) (v := ?v1) (by simp only [List.getElem?_toArray, List.getElem?_cons_zero]; exact rfl) (by kernel_rfl) (by kernel_rfl) (by kernel_rfl) (by intro _ _ _ h; exact h) (Or.inl ⟨by rfl, ?y1⟩) hHeld ?_
    case y1 => (intro w hSw; (try dsimp only at hSw); go_simp; try (with_reducible rfl))
    try simp only [Act.put, List.setIfInBounds_toArray, List.set_cons_zero, List.set_cons_succ]
    refine wpAnyH_take (i := 1) (v := ?v2) (by simp only [List.getElem?_toArray, List.getElem?_cons_succ, List.getElem?_cons_zero]; exact rfl) (by kernel_rfl) (by kernel_rfl) (by kernel_rfl) (by intro _ _ _ h; exact h) (Or.inl ⟨by rfl, ?y2⟩) hHeld ?_
    case y2 => (intro w hSw; (try dsimp only at hSw); go_simp; try (with_reducible rfl))
    try simp only [Act.put, List.setIfInBounds_toArray, List.set_cons_zero, List.set_cons_succ]
    refine wpAnyH_take (i := 2) (v := ?v3) (by simp only [List.getElem?_toArray, List.getElem?_cons_succ, List.getElem?_cons_zero]; exact rfl) (by kernel_rfl) (by kernel_rfl) (by kernel_rfl) (by intro _ _ _ h; exact h) (Or.inl ⟨by rfl, ?y3⟩) hHeld ?_
    case y3 => (intro w hSw; (try dsimp only at hSw); go_simp; try (with_reducible rfl))
    try simp only [Act.put, List.setIfInBounds_toArray, List.set_cons_zero, List.set_cons_succ]
    refine wpAnyH_take (i := 3) (v := ?v4) (by simp only [List.getElem?_toArray, List.getElem?_cons_succ, List.getElem?_cons_zero]; exact rfl) (by kernel_rfl) (by kernel_rfl) (by kernel_rfl) (by intro _ _ _ h; exact h) (Or.inl ⟨by rfl, ?y4⟩) hHeld ?_
    case y4 => (intro w hSw; (try dsimp only at hSw); go_simp; try (with_reducible rfl))
    try simp only [Act.put, List.setIfInBounds_toArray, List.set_cons_zero, List.set_cons_succ]
    refine wpAnyH_take (i := 4) (v := ?v5) (by simp only [List.getElem?_toArray, List.getElem?_cons_succ, List.getElem?_cons_zero]; exact rfl) (by kernel_rfl) (by kernel_rfl) (by kernel_rfl) (by intro _ _ _ h; exact h) (Or.inl ⟨by rfl, ?y5⟩) hHeld ?_
    case y5 => (intro w hSw; (try dsimp only at hSw); go_simp; try (with_reducible rfl))
    try simp only [Act.put, List.setIfInBounds_toArray, List.set_cons_zero, List.set_cons_succ]
    refine wpAnyH_take (i := 5) (v := ?v6) (by simp only [List.getElem?_toArray, List.getElem?_cons_succ, List.getElem?_cons_zero]; exact rfl) (by kernel_rfl) (by kernel_rfl) (by kernel_rfl) (by intro _ _ _ h; exact h) (Or.inl ⟨by rfl, ?y6⟩) hHeld ?_
    case y6 => (intro w hSw; (try dsimp only at hSw); go_simp; try (with_reducible rfl))
    try simp only [Act.put, List.setIfInBounds_toArray, List.set_cons_zero, List.set_cons_succ]
    refine wpAnyH_take (i := 6) (v := ?v7) (by simp only [List.getElem?_toArray, List.getElem?_cons_succ, List.getElem?_cons_zero]; exact rfl) (by kernel_rfl) (by kernel_rfl) (by kernel_rfl) (by intro _ _ _ h; exact h) (Or.inl ⟨by rfl, ?y7⟩) hHeld ?_
    case y7 => (intro w hSw; (try dsimp only at hSw); go_simp; try (with_reducible rfl))
    try simp only [Act.put, List.setIfInBounds_toArray, List.set_cons_zero, List.set_cons_succ]
    refine wpAnyH_take (i := 7) (v := ?v8) (by simp only [List.getElem?_toArray, List.getElem?_cons_succ, List.getElem?_cons_zero]; exact rfl) (by kernel_rfl) (by kernel_rfl) (by kernel_rfl) (by intro _ _ _ h; exact h) (Or.inl ⟨by rfl, ?y8⟩) hHeld ?_
    case y8 => (intro w hSw; (try dsimp only at hSw); go_simp; try (with_reducible rfl))
    try simp only [Act.put, List.setIfInBounds_toArray, List.set_cons_zero, List.set_cons_succ]
    refine wpAnyH_take (i := 8) (v := ?v9) (by simp only [List.getElem?_toArray, List.getElem?_cons_succ, List.getElem?_cons_zero]; exact rfl) (by kernel_rfl) (by kernel_rfl) (by kernel_rfl) (by intro _ _ _ h; exact h) (Or.inl ⟨by rfl, ?y9⟩) hHeld ?_
    case y9 => (intro w hSw; (try dsimp only at hSw); go_simp; try (with_reducible rfl))
    try simp only [Act.put, List.setIfInBounds_toArray, List.set_cons_zero, List.set_cons_succ]
    refine wpAnyH_take (i := 9) (v := ?v10) (by simp only [List.getElem?_toArray, List.getElem?_cons_succ, List.getElem?_cons_zero]; exact rfl) (by kernel_rfl) (by kernel_rfl) (by kernel_rfl) (by intro _ _ _ h; exact h) (Or.inl ⟨by rfl, ?y10⟩) hHeld ?_
    case y10 => (intro w hSw; (try dsimp only at hSw); go_simp; try (with_reducible rfl))
    try simp only [Act.put, List.setIfInBounds_toArray, List.set_cons_zero, List.set_cons_succ]
    refine wpAnyH_take (i := 10) (v := ?v11) (by simp only [List.getElem?_toArray, List.getElem?_cons_succ, List.getElem?_cons_zero]; exact rfl) (by kernel_rfl) (by kernel_rfl) (by kernel_rfl) (by intro _ _ _ h; exact h) (Or.inl ⟨by rfl, ?y11⟩) hHeld ?_
    case y11 => (intro w hSw; (try dsimp only at hSw); go_simp; try (with_reducible rfl))
    try simp only [Act.put, List.setIfInBounds_toArray, List.set_cons_zero, List.set_cons_succ]
    refine wpAnyH_take (i := 11) (v := ?v12) (by simp only [List.getElem?_toArray, List.getElem?_cons_succ, List.getElem?_cons_zero]; exact rfl) (by kernel_rfl) (by kernel_rfl) (by kernel_rfl) (by intro _ _ _ h; exact h) (Or.inl ⟨by rfl, ?y12⟩) hHeld ?_
    case y12 => (intro w hSw; (try dsimp only at hSw); go_simp; try (with_reducible rfl))
    try simp only [Act.put, List.setIfInBounds_toArray, List.set_cons_zero, List.set_cons_succ]
    refine wpAnyH_take (i := 12) (v := ?v13) (by simp only [List.getElem?_toArray, List.getElem?_cons_succ, List.getElem?_cons_zero]; exact rfl) (by kernel_rfl) (by kernel_rfl) (by kernel_rfl) (by intro _ _ _ h; exact h) (Or.inl ⟨by rfl, ?y13⟩) hHeld ?_
    case y13 => (intro w hSw; (try dsimp only at hSw); go_simp; try (with_reducible rfl))
    try simp only [Act.put, List.setIfInBounds_toArray, List.set_cons_zero, List.set_cons_succ]
    refine wpAnyH_take (i := 13) (v := ?v14) (by simp only [List.getElem?_toArray, List.getElem?_cons_succ, List.getElem?_cons_zero]; exact rfl) (by kernel_rfl) (by kernel_rfl) (by kernel_rfl) (by intro _ _ _ h; exact h) (Or.inl ⟨by rfl, ?y14⟩) hHeld ?_
    case y14 => (intro w hSw; (try dsimp only at hSw); go_simp; try (with_reducible rfl))
    try simp only [Act.put, List.setIfInBounds_toArray, List.set_cons_zero, List.set_cons_succ]
    refine wpAnyH_take (i := 14) (v := ?v15) (by simp only [List.getElem?_toArray, List.getElem?_cons_succ, List.getElem?_cons_zero]; exact rfl) (by kernel_rfl) (by kernel_rfl) (by kernel_rfl) (by intro _ _ _ h; exact h) (Or.inl ⟨by rfl, ?y15⟩) hHeld ?_
    case y15 => (intro w hSw; (try dsimp only at hSw); go_simp; try (with_reducible rfl))
    try simp only [Act.put, List.setIfInBounds_toArray, List.set_cons_zero, List.set_cons_succ]
    refine wpAnyH_take (i := 15) (v := ?v16) (by simp only [List.getElem?_toArray, List.getElem?_cons_succ, List.getElem?_cons_zero]; exact rfl) (by kernel_rfl) (by kernel_rfl) (by kernel_rfl) (by intro _ _ _ h; exact h) (Or.inl ⟨by rfl, ?y16⟩) hHeld ?_
    case y16 => (intro w hSw; (try dsimp only at hSw); go_simp; try (with_reducible rfl))
    try simp only [Act.put, List.setIfInBounds_toArray, List.set_cons_zero, List.set_cons_succ]
    refine wpAnyH_take (i := 16) (v := ?v17) (by simp only [List.getElem?_toArray, List.getElem?_cons_succ, List.getElem?_cons_zero]; exact rfl) (by kernel_rfl) (by kernel_rfl) (by kernel_rfl) (by intro _ _ _ h; exact h) (Or.inl ⟨by rfl, ?y17⟩) hHeld ?_
    case y17 => (intro w hSw; (try dsimp only at hSw); go_simp; try (with_reducible rfl))
    try simp only [Act.put, List.setIfInBounds_toArray, List.set_cons_zero, List.set_cons_succ]
    refine wpAnyH_take (i := 17) (v := ?v18) (by simp only [List.getElem?_toArray, List.getElem?_cons_succ, List.getElem?_cons_zero]; exact rfl) (by kernel_rfl) (by kernel_rfl) (by kernel_rfl) (by intro _ _ _ h; exact h) (Or.inl ⟨by rfl, ?y18⟩) hHeld ?_
    case y18 => (intro w hSw; (try dsimp only at hSw); go_simp; try (with_reducible rfl))
    try simp only [Act.put, List.setIfInBounds_toArray, List.set_cons_zero, List.set_cons_succ]
    refine wpAnyH_take (i := 18) (v := ?v19) (by simp only [List.getElem?_toArray, List.getElem?_cons_succ, List.getElem?_cons_zero]; exact rfl) (by kernel_rfl) (by kernel_rfl) (by kernel_rfl) (by intro _ _ _ h; exact h) (Or.inl ⟨by rfl, ?y19⟩) hHeld ?_
    case y19 => (intro w hSw; (try dsimp only at hSw); go_simp; try (with_reducible rfl))
    try simp only [Act.put, List.setIfInBounds_toArray, List.set_cons_zero, List.set_cons_succ]
    refine wpAnyH_take (i := 19) (v := ?v20) (by simp only [List.getElem?_toArray, List.getElem?_cons_succ, List.getElem?_cons_zero]; exact rfl) (by kernel_rfl) (by kernel_rfl) (by kernel_rfl) (by intro _ _ _ h; exact h) (Or.inl ⟨by rfl, ?y20⟩) hHeld ?_
    case y20 => (intro w hSw; (try dsimp only at hSw); go_simp; try (with_reducible rfl))
    try simp only [Act.put, List.setIfInBounds_toArray, List.set_cons_zero, List.set_cons_succ]
    refine wpAnyH_take (i := 20) (v := ?v21) (by simp only [List.getElem?_toArray, List.getElem?_cons_succ, List.getElem?_cons_zero]; exact rfl) (by kernel_rfl) (by kernel_rfl) (by kernel_rfl) (by intro _ _ _ h; exact h) (Or.inl ⟨by rfl, ?y21⟩) hHeld ?_
    case y21 => (intro w hSw; (try dsimp only at hSw); go_simp; try (with_reducible rfl))
    try simp only [Act.put, List.setIfInBounds_toArray, List.set_cons_zero, List.set_cons_succ]
    refine wpAnyH_ready (rs := [21]) (by kernel_rfl) (by simp) ?_
    refine AllReadyH.cons (by simp only [List.getElem?_toArray, List.getElem?_cons_succ, List.getElem?_cons_zero]; exact rfl) (fun K hK => ?_) AllReadyH.nil
    go_simp
    refine (hbw _ hqd hdd).mono ?_
    rintro e wn ⟨r, rfl, hr, hbn⟩
    have hqn := hqd.trans (hbn.mono hqd.size)
    have hSn := hSd.below hbn (Nat.le_refl _)
    have hEn := hEd.offBelow hbn
    have hszd : w.heap.size + 3 ≤ wd.heap.size := cell_lt d1
    have hob : ∀ b, (Value.slice oa F.length oc).ownBlock = some b → b < wd.heap.size := (by obtain ⟨vs, _, ho, _⟩ := hSd; intro b hb; exact (ho.lt b hb).2)
    have d0 := (hbn.cell (cell_lt d0)).trans d0
    have d1 := (hbn.cell (cell_lt d1)).trans d1
    have d2 := (hbn.cell (cell_lt d2)).trans d2
    have d3 := (hbn.cell (cell_lt d3)).trans d3
    have d4 := (hbn.cell (cell_lt d4)).trans d4
    have d5 := (hbn.cell (cell_lt d5)).trans d5
    have d6 := (hbn.cell (cell_lt d6)).trans d6
    try dsimp only
    refine hK.out _ _ ?h23 (fun hHeld => ?_)
    case h23 => first | exact ⟨‹_›, ‹_›, ‹_›, ‹_›, ‹_›, ‹_›, ‹_›⟩ | assumption | (simp [*, go_sem])
    clear hK K
    try simp only [Act.put, List.setIfInBounds_toArray, List.set_cons_zero, List.set_cons_succ]
    refine wpAnyH_take (i := 22) (v := ?v24) (by simp only [List.getElem?_toArray, List.getElem?_cons_succ, List.getElem?_cons_zero]; exact rfl) (by kernel_rfl) (by kernel_rfl) (by kernel_rfl) (by intro _ _ _ h; exact h) (Or.inl ⟨by rfl, ?y24⟩) hHeld ?_
    case y24 => (intro w hSw; (try dsimp only at hSw); go_simp; try (with_reducible rfl))
    try simp only [Act.put, List.setIfInBounds_toArray, List.set_cons_zero, List.set_cons_succ]
    refine wpAnyH_take (i := 23) (v := ?v25) (by simp only [List.getElem?_toArray, List.getElem?_cons_succ, List.getElem?_cons_zero]; exact rfl) (by kernel_rfl) (by kernel_rfl) (by kernel_rfl) (by intro _ _ _ h; exact h) (Or.inl ⟨by rfl, ?y25⟩) hHeld ?_
    case y25 => (intro w hSw; (try dsimp only at hSw); go_simp; try (with_reducible rfl))
    try simp only [Act.put, List.setIfInBounds_toArray, List.set_cons_zero, List.set_cons_succ]
    refine wpAnyH_take (i := 24) (v := ?v26) (by simp only [List.getElem?_toArray, List.getElem?_cons_succ, List.getElem?_cons_zero]; exact rfl) (by kernel_rfl) (by kernel_rfl) (by kernel_rfl) (by intro _ _ _ h; exact h) (Or.inl ⟨by rfl, ?y26⟩) hHeld ?_
    case y26 => (intro w hSw; (try dsimp only at hSw); go_simp; try (with_reducible rfl))
    try simp only [Act.put, List.setIfInBounds_toArray, List.set_cons_zero, List.set_cons_succ]
    refine wpAnyH_take (i := 25) (v := ?v27) (by simp only [List.getElem?_toArray, List.getElem?_cons_succ, List.getElem?_cons_zero]; exact rfl) (by kernel_rfl) (by kernel_rfl) (by kernel_rfl) (by intro _ _ _ h; exact h) (Or.inl ⟨by rfl, ?y27⟩) hHeld ?_
    case y27 => (intro w hSw; (try dsimp only at hSw); go_simp; try (with_reducible rfl))
    try simp only [Act.put, List.setIfInBounds_toArray, List.set_cons_zero, List.set_cons_succ]
    refine wpAnyH_take (i := 26) (v := ?v28) (by simp only [List.getElem?_toArray, List.getElem?_cons_succ, List.getElem?_cons_zero]; exact rfl) (by kernel_rfl) (by kernel_rfl) (by kernel_rfl) (by intro _ _ _ h; exact h) (Or.inl ⟨by rfl, ?y28⟩) hHeld ?_
    case y28 => (intro w hSw; (try dsimp only at hSw); go_simp; try (with_reducible rfl))
    try simp only [Act.put, List.setIfInBounds_toArray, List.set_cons_zero, List.set_cons_succ]
    refine wpAnyH_done (by kernel_rfl) ?_ _
    obtain ⟨ra, rcap, rfl⟩ := hr.slice
    obtain ⟨vs, hvl, hown, hrows⟩ := hSn
    clear hS hSd hEd hE2 hbw d2 d3 d4 d5 d6
    go_wp2_with (at_builtin; refine wpList_append1b elRows rfl _ _ rfl hown rfl rfl rfl rfl (by omega) (by have := hbn.size; omega) ?_; intro o5 w5 hown5 hkept hmv; obtain ⟨oa5, oc5, rfl⟩ := hown5.isSlice)
    have hS5 : OwnS w5 (w.heap.size + 3) 34 (.slice oa5 (F.length + 1) oc5) (F ++ [fe]) := OwnS.app (news := [.slice ra fe.length rcap]) hvl rfl hrows (fun i hi hi2 => by
      obtain rfl : i = 0 := by simp at hi; omega
      exact hr.weak (fun b hb => ⟨by have := hb.1; omega, hb.2, fun e => by have := hob b e; have := hb.1; omega⟩)) hown5 hkept hmv (by simp)
    have hE5 := hEn.offApp hkept hmv (by simp)
    have hq5 := hkept.below hqn hqn.size (fun b hb => by have := (hown.lt b hb).1; omega)
    have e0 := (World.cell?_of_block (a := ⟨w.heap.size, 0, none⟩) (hkept.2.2.2.2 w.heap.size (cell_lt d0) (fun e => by have := (hown.lt w.heap.size e.symm).1; omega))).trans d0
    have e1 := (World.cell?_of_block (a := ⟨w.heap.size + 2, 0, none⟩) (hkept.2.2.2.2 (w.heap.size + 2) (cell_lt d1) (fun e => by have := (hown.lt (w.heap.size + 2) e.symm).1; omega))).trans d1
    go_roundw
    case rel => exact ⟨k + 1, by omega, by go_num, by rw [HTK.out]; exact hS5, hE5, hq5, e0, e1⟩
    case measure => simp [intOf]; omega
set_option maxHeartbeats 1000000 in
theorem bagMasks_any {S : Nat → Prop} {v : Value} {ms : List (List Int)} {w : World} (hv : SlR S w v ms) (h16 : ms.length ≤ 1048576) (hri : ∀ k (hk : k < ms.length), ∀ x ∈ ms[k], 0 ≤ x ∧ x < 32) :
    Calls Tryd.prog 64 #[v] w fun e w' => ∃ u, e = .returned u ∧ Own w' w.heap.size 66 1 u ms.length ((natsI (netsL ms)).map (.int .u32)) ∧ Below w.heap.size w w' := by
  obtain ⟨a, b, off, cap, f, rfl, hl, ha, hc0⟩ := hv
  go_enter Tryd.func64, Tryd.ntmps64
  go_wp2
  go_loopw [9, 3] (fun i o wr => ∃ k : Nat, k ≤ ms.length ∧ i = .int .i64 k ∧ Own wr w.heap.size 66 1 o k ((natsI (netsL (ms.take k))).map (.int .u32)) ∧ Below w.heap.size w wr) (fun i _ _ => ms.length - (intOf i).toNat)
  case atStart =>
    refine ⟨0, Nat.zero_le _, rfl, ?_, (Below.refl _ _).alloc (Nat.le_refl _) _⟩
    have := World.ownsRow_lit (base := w.heap.size) (e := 66) (size := 1) w #[] 0 (Nat.le_refl _) (by unfold maxLen; omega) rfl
    simpa [Own, natsI, netsL] using this
  case round =>
    obtain ⟨k, hk, rfl, hown, hq⟩ := hrel
    have hc := hc0.below hq (Nat.le_refl _)
    have hB := hq.size
    by_cases hlt : k < ms.length
    · obtain ⟨hcell, hrow⟩ := hc k hlt
      obtain ⟨rfl, hS⟩ := ha (by omega)
      go_wp2_with (first
        | (go_at_call 55; refine (maskOf_any _ _ _ hrow (hri k hlt)).mono ?_; rintro e w' ⟨rfl, rfl⟩)
        | (at_builtin; refine wpList_append1 elVs rfl _ _ rfl hown rfl rfl rfl (by omega) hB ?_; intro v' w1 hown1 hkept hmv))
      go_roundw
      case rel =>
        refine ⟨k + 1, by omega, by go_num, ?_, hkept.below hq hB hown.ge⟩
        rw [List.take_succ_eq_append_getElem hlt, netsI_snoc, List.map_append]; exact hown1
      case measure => simp [intOf]; omega
    · go_wp2
      go_ret
      obtain rfl : k = ms.length := by omega
      rw [List.take_length] at hown
      exact ⟨_, rfl, hown, hq⟩
end Go.Proofs.YtklnjpdpinccoaaDoor
