/- The law of MirrorOf. -/
import Derived.Test.YtbpjbjeglcphcaaMir3
import Derived.Test.YtbpjbjeglcphcaaFac2
import Derived.Test.YtbpjbjeglcphcaaBoxAround
import Derived.Test.YtbpjbjeglcphcaaMark4
namespace Go.Proofs.Ytbpjbjeglcphcaa
open Go.RowKit
noncomputable def mirF (g r : List (List Int)) : List (List Int) := if aroundB g r then (mirN (tOf r)).map natsI else []
set_option maxRecDepth 100000 in
set_option maxHeartbeats 8000000 in
theorem specMirrorOf_any {S S' : Nat → Prop} {gv rv : Value} {g r : List (List Int)} {w : World} (hvg : SlR S w gv g) (hvr : SlR S' w rv r) :
    Calls Try.prog 26 #[.agg #[gv], .agg #[rv]] w fun e w' => ∃ x, e = .returned (.agg #[x]) ∧ SlR (fun b => w.heap.size ≤ b ∧ b < w'.heap.size) w' x (mirF g r) ∧ Below w.heap.size w w' := by
  obtain ⟨ga, gc, rfl⟩ := hvg.slice
  obtain ⟨ra, rc, rfl⟩ := hvr.slice
  obtain ⟨W, hW⟩ : ∃ W, W = (((w.alloc (.cells #[.slice ga g.length gc] 30)).alloc (.cells #[.slice ra r.length rc] 32)).alloc (.cells #[.slice none 0 0] 32)).alloc (.cells #[.slice none 0 0] 32) := ⟨_, rfl⟩
  have hWW := Lib.hid hW
  have hq0 : Below w.heap.size w W := by rw [hW]; exact ((((Below.refl _ _).alloc (Nat.le_refl _) _).alloc (by simp) _).alloc (by simp; omega) _).alloc (by simp; omega) _
  have hr0 : Own W w.heap.size 32 1 (.slice (some ⟨w.heap.size + 1 + 1, 0, none⟩) 1 1) 1 [.slice none 0 0] := by
    rw [hW]
    have h := (own_new ((w.alloc (.cells #[.slice ga g.length gc] 30)).alloc (.cells #[.slice ra r.length rc] 32)) w.heap.size 32 (.slice none 0 0) (by simp; omega)).alloc (.cells #[.slice none 0 0] 32)
    rw [show ((w.alloc (.cells #[.slice ga g.length gc] 30)).alloc (.cells #[.slice ra r.length rc] 32)).heap.size = w.heap.size + 1 + 1 by simp] at h
    exact h
  have ho0 : Own W w.heap.size 32 1 (.slice (some ⟨w.heap.size + 1 + 1 + 1, 0, none⟩) 1 1) 1 [.slice none 0 0] := by
    rw [hW]
    have h := own_new (((w.alloc (.cells #[.slice ga g.length gc] 30)).alloc (.cells #[.slice ra r.length rc] 32)).alloc (.cells #[.slice none 0 0] 32)) w.heap.size 32 (.slice none 0 0) (by simp; omega)
    rw [show (((w.alloc (.cells #[.slice ga g.length gc] 30)).alloc (.cells #[.slice ra r.length rc] 32)).alloc (.cells #[.slice none 0 0] 32)).heap.size = w.heap.size + 1 + 1 + 1 by simp] at h
    exact h
  have hao := specAroundOk_any (hvg.below hq0 (Nat.le_refl _)) (hvr.below hq0 (Nat.le_refl _))
  clear hW
  by_cases ha : aroundB g r = true
  case neg =>
    have HE := Lib.hid (show mirF g r = [] by rw [mirF, if_neg ha])
    rw [Bool.not_eq_true] at ha
    rw [ha] at hao
    clear ha
    rw [HE.out]
    rw [hWW.out] at hao
    go_enter Try.func26, Try.ntmps26
    go_wp2_with fail
    refine hao.mono ?_
    rintro e w1 ⟨rfl, hb1⟩
    rw [← hWW.out] at hb1
    have hq1 := hq0.trans (hb1.mono hq0.size)
    obtain ⟨o1, o2, -, o3⟩ := own_cell (ho0.below hb1 (Nat.le_refl _))
    obtain ⟨r1, r2, -, r3⟩ := own_cell (hr0.below hb1 (Nat.le_refl _))
    clear hao
    go_wp2
    refine bodyPost_ret (v := .agg #[.slice none 0 0]) (by simp [results, Try.results26, go_sem, r1]) rfl ⟨_, rfl, ?_, hq1.setCell (by simp; omega) _⟩
    exact ⟨_, w1.heap.size, 0, 0, fun _ => undef, rfl, by simp, fun h => by simp at h, fun i hi => by simp at hi⟩
  have hP := around_iff.1 ha
  have HE := Lib.hid (show mirF g r = (mirN (tOf r)).map natsI by rw [mirF, if_pos ha])
  rw [ha] at hao
  have HRT := Lib.hid (aro_rot hP)
  have HEQ := Lib.hid (aro_eq hP)
  have hrl : r.length = (tOf r).length := (tOf_len r).symm
  clear ha hP
  rw [HE.out]
  rw [hWW.out] at hao
  generalize tOf r = ts at *
  have hgl : ((mirN ts).map natsI).length = ts.length := by rw [List.length_map, mirN_len]
  have hGL := Lib.hid hgl
  have HG := Lib.hid (fun k (hk : k < ts.length) => show ((mirN ts).map natsI).take (k + 1) = ((mirN ts).map natsI).take k ++ [natsI (rotL ts[k].reverse)] by rw [List.take_succ_eq_append_getElem (by rw [hgl]; exact hk)]; simp [mirN])
  clear hgl
  generalize (mirN ts).map natsI = G at *
  have hvt : SlR S' w (.slice ra r.length rc) (ts.map natsI) := by rwa [← HEQ.out]
  have hts : ts.length ≤ 16 := HRT.out.le
  clear HEQ
  generalize r.length = n at *
  subst hrl
  obtain ⟨a, b, off, cap, f, hve, hl, haa, hc0⟩ := hvt
  rw [List.length_map] at *
  simp only [Value.slice.injEq] at hve
  obtain ⟨rfl, -, rfl⟩ := hve
  have c30 : W.cell? ⟨w.heap.size + 1, 0, none⟩ = some (.slice ra ts.length rc) := by rw [hWW.out]; simp [go_sem]
  clear hvg hvr
  go_enter Try.func26, Try.ntmps26
  go_wp2_with fail
  refine hao.mono ?_
  rintro e w1 ⟨rfl, hb1⟩
  rw [← hWW.out] at hb1
  have hq1 := hq0.trans (hb1.mono hq0.size)
  have hr1 := hr0.below hb1 (Nat.le_refl _)
  have ho1 := ho0.below hb1 (Nat.le_refl _)
  have c31 := (hb1.cell (cell_lt c30)).trans c30
  have hS0 : OwnS w1 (w.heap.size + 4) 37 (.slice none 0 0) [] := .nil _ _ _ (Own.nil _ _ _ _)
  have hz1 : w.heap.size + 4 ≤ w1.heap.size := by have := (own_cell ho1).2.2.2; omega
  clear hao hr0 ho0 c30
  go_wp2_with fail
  go_loopw [6] (fun i wr => ∃ (k : Nat) (o : Value), k ≤ ts.length ∧ i = .int .i64 k ∧ OwnS wr (w.heap.size + 4) 37 o (G.take k) ∧ Own wr w.heap.size 32 1 (.slice (some ⟨w.heap.size + 1 + 1, 0, none⟩) 1 1) 1 [.slice none 0 0] ∧ Own wr w.heap.size 32 1 (.slice (some ⟨w.heap.size + 1 + 1 + 1, 0, none⟩) 1 1) 1 [o] ∧ Below w.heap.size w wr ∧ w.heap.size + 4 ≤ wr.heap.size ∧ wr.cell? ⟨w.heap.size + 1, 0, none⟩ = some (.slice ra ts.length rc)) (fun i _ => ts.length - (RowKit.intOf i).toNat)
  case atStart => exact ⟨0, _, Nat.zero_le _, rfl, by rw [List.take_zero]; exact hS0, hr1, ho1, hq1, hz1, c31⟩
  case round =>
    clear hS0 hr1 ho1 hq1 hz1 hb1 c31
    obtain ⟨k, o, hk, rfl, hS, hr, ho, hq, hsz, c3⟩ := hrel
    obtain ⟨wi, rfl⟩ : ∃ wx : World, wx = wr := ⟨_, rfl⟩
    have hlen : (G.take k).length = k := by rw [List.length_take, hGL.out]; omega
    obtain ⟨o1, o2, -, o3⟩ := own_cell ho
    obtain ⟨r1, r2, -, r3⟩ := own_cell hr
    obtain ⟨oa, oc, rfl⟩ := hS.isSlice
    rw [hlen] at hS ho o1
    have HLN := Lib.hid hlen
    clear hlen
    by_cases hlt : k < ts.length
    case neg =>
      obtain rfl : k = ts.length := by omega
      have hSo : OwnS wi (w.heap.size + 4) 37 (.slice oa ts.length oc) (G.take ts.length) := hS
      go_wp2
      refine bodyPost_ret (v := .agg #[.slice oa ts.length oc]) (by simp [results, Try.results26, go_sem, r1]) rfl ⟨_, rfl, ?_, hq.setCell (by simp; omega) _⟩
      have h5 := OwnS.keepB (w' := wi.setCell ⟨w.heap.size + 1 + 1, 0, none⟩ (.slice oa ts.length oc)) hSo (fun b hb _ => Below.heap_setCell _ _ _ _ (by simp; omega)) (by simp)
      have h6 := h5.rowsB (by rw [HLN.out]; omega)
      rw [List.take_of_length_le (by rw [hGL.out]; exact Nat.le_refl _)] at h6
      exact h6.weak fun b hb => ⟨by omega, hb.2⟩
    obtain ⟨hcr0, hrow0⟩ := hc0 k (by rw [List.length_map]; exact hlt)
    obtain ⟨rfl, -⟩ := haa (by omega)
    have hcr := (hq.cell (p := ⟨b, off + k, none⟩) (cell_lt hcr0)).trans hcr0
    have hrow := hrow0.below hq (Nat.le_refl _)
    rw [List.getElem_map] at hrow
    have HGK := Lib.hid (HG.out k hlt)
    clear hcr0 hrow0 HG
    have hl16 : ts[k].length ≤ 16 := by
      have h1 : ts.getD k [] = ts[k] := by rw [List.getD_eq_getElem?_getD, List.getElem?_eq_getElem hlt]; rfl
      have h2 := nodup_lenA (E := List.range ts.length) (h1 ▸ HRT.out.nd k) (fun x hx => List.mem_range.2 (HRT.out.sym k x (h1 ▸ hx)).1)
      rw [List.length_range] at h2
      omega
    generalize ts[k] = l at *
    obtain ⟨la, lc, hre⟩ := hrow.slice
    rw [hre] at hcr hrow
    rw [natsI_len] at hcr hrow
    clear hre
    have hbw : Below wi.heap.size wi (wi.alloc (.cells #[] 2)) := (Below.refl _ _).alloc (Nat.le_refl _) _
    have hB0 : Own (wi.alloc (.cells #[] 2)) wi.heap.size 2 1 (.slice (some ⟨wi.heap.size, 0, none⟩) 0 0) 0 [] := World.ownsRow_lit (base := wi.heap.size) (e := 2) (size := 1) wi #[] 0 (Nat.le_refl _) (by unfold maxLen; omega) rfl
    have c3b := (hbw.cell (cell_lt c3)).trans c3
    have hcrb := (hbw.cell (cell_lt hcr)).trans hcr
    go_wp2_with fail
    go_loopw [7, 8] (fun o i wr => ∃ j : Nat, j ≤ l.length ∧ i = .int .i64 ((l.length : Int) - 1 - j) ∧ Own wr wi.heap.size 2 1 o j ((natsI (l.reverse.take j)).map (.int .i64)) ∧ Below wi.heap.size wi wr ∧ (∃ ad n c, o = .slice (some ad) n c)) (fun _ i _ => (RowKit.intOf i + 1).toNat)
    case atStart => exact ⟨0, Nat.zero_le _, by simp, by simpa [natsI] using hB0, hbw, _, _, _, rfl⟩
    case round =>
      clear hB0 hbw c3b hcrb
      obtain ⟨j, hj, rfl, hown, hb2, hsm⟩ := hrel
      have d3 := (hb2.cell (cell_lt c3)).trans c3
      have dcr := (hb2.cell (cell_lt hcr)).trans hcr
      by_cases hjl : j < l.length
      · obtain ⟨p, hp⟩ : ∃ p : Nat, (l.length : Int) - 1 - j = (p : Int) := ⟨l.length - 1 - j, by omega⟩
        have hpl : p < l.length := by omega
        have hrev : l.reverse.take (j + 1) = l.reverse.take j ++ [l[p]] := by
          rw [List.take_succ_eq_append_getElem (by rw [List.length_reverse]; exact hjl), List.getElem_reverse]
          congr 3
          omega
        obtain ⟨xa, xb, xo, xc, hxe, -, hxa, hxc⟩ := hrow.below hb2 (Nat.le_refl _)
        have dx := hxc p (by rw [natsI_len]; exact hpl)
        obtain ⟨rfl, -⟩ := hxa (by rw [natsI_len]; omega)
        simp only [Value.slice.injEq] at hxe
        obtain ⟨rfl, -, rfl⟩ := hxe
        have dx : wr.cell? ⟨xb, xo + p, none⟩ = some (.int .i64 (l[p] : Int)) := by simpa [natsI] using dx
        have HP := Lib.hid hp
        rw [hp]
        have HREV := Lib.hid hrev
        clear hrev hp hxa hxc
        go_wp2_with (at_builtin; refine hold_in ?_)
        unfold HoldP
        refine wpList_append1 elI64 rfl _ _ rfl hown rfl rfl rfl (by omega) hb2.size ?_
        intro o5 w5 hown5 hkept hmv
        have hb5 := hkept.below hb2 hb2.size (fun c h => (hown.lt c h).1)
        have hown6 : Own w5 wi.heap.size 2 1 o5 (j + 1) ((natsI (l.reverse.take (j + 1))).map (.int .i64)) := by rw [HREV.out]; simpa [natsI] using hown5
        have hsm5 : ∃ ad n c, o5 = .slice (some ad) n c := by
          rcases own_none_some hown5 with ⟨-, hn⟩ | ⟨gb, gc, rfl⟩
          · omega
          · exact ⟨_, _, _, rfl⟩
        obtain ⟨oa5, oc5, rfl⟩ := hown5.isSlice
        clear hown5 hkept hown hb2 d3 dcr dx hsm
        go_wp2_with fail
        exact ⟨⟨j + 1, by omega, by congr 1; have := HP.out; omega, hown6, hb5, hsm5⟩, by first | (simp [RowKit.intOf]; done) | (simp [RowKit.intOf]; omega)⟩
      · obtain rfl : j = l.length := by omega
        rw [show ((l.length : Int) - 1 - (l.length : Int)) = -1 by omega]
        have hrv : l.reverse.take l.length = l.reverse := List.take_of_length_le (by simp)
        rw [hrv] at hown
        obtain ⟨ba, bc, rfl⟩ := hown.isSlice
        have hbi := Own.ints (xs := natsI l.reverse) (by simpa [natsI] using hown) (by omega)
        have hq2 := hq.trans (hb2.mono hq.size)
        have hS2 := hS.below hb2 (Nat.le_refl _)
        have ho2 := ho.below hb2 (Nat.le_refl _)
        have hr2 := hr.below hb2 (Nat.le_refl _)
        obtain ⟨o1b, o2b, -, -⟩ := own_cell ho2
        have hzb : w.heap.size + 4 ≤ wr.heap.size := Nat.le_trans hsz hb2.size
        clear hrv o1 o2 o3 r1 r2 r3 d3 dcr
        have c3b := (hb2.cell (cell_lt c3)).trans c3
        have hlr : l.reverse.length = l.length := List.length_reverse
        generalize l.reverse = lr at *
        have HLR := Lib.hid hlr
        have hlr5 : lr.length ≤ 100000 := by omega
        clear hlr hown hb2
        go_wp2_with fail
        refine wp_region_late (S := (fun w' => w'.cell? ⟨w.heap.size + 1 + 1 + 1, 0, none⟩ = some (.slice oa k oc))) (late := [7]) (by kernel_rfl) ?_ (fun hHeld => ?_)
        · first | assumption | (simp [*, go_sem])
        have hdw : Drawn wr wr.drew := (Drawn.refl _).drew
        generalize wr.drew = wd at hdw hHeld ⊢
        refine wpLate_take (i := 0) (v := ?v1) (by simp only [List.getElem?_toArray, List.getElem?_cons_zero]; exact rfl) (by kernel_rfl) (by kernel_rfl) (by kernel_rfl) (by intro _ _ _ h; exact h) (Or.inl ⟨by rfl, ?y1⟩) ?_
        case y1 => (intro w _; go_simp; try (with_reducible rfl))
        try simp only [Act.put, List.setIfInBounds_toArray, List.set_cons_zero, List.set_cons_succ]
        refine wpLate_load (i := 1) (v := ?v2) (by simp only [List.getElem?_toArray, List.getElem?_cons_succ, List.getElem?_cons_zero]; exact rfl) (by kernel_rfl) (by kernel_rfl) (by kernel_rfl) (by kernel_rfl) (by intro _ _ _ h; exact h) (Or.inl ⟨by rfl, ?y2⟩) hHeld ?_
        case y2 => (intro w hSw; (try dsimp only at hSw); go_simp; try (with_reducible rfl))
        try simp only [Act.put, List.setIfInBounds_toArray, List.set_cons_zero, List.set_cons_succ]
        refine wpLate_take (i := 2) (v := ?v3) (by simp only [List.getElem?_toArray, List.getElem?_cons_succ, List.getElem?_cons_zero]; exact rfl) (by kernel_rfl) (by kernel_rfl) (by kernel_rfl) (by intro _ _ _ h; exact h) (Or.inl ⟨by rfl, ?y3⟩) ?_
        case y3 => (intro w _; go_simp; try (with_reducible rfl))
        try simp only [Act.put, List.setIfInBounds_toArray, List.set_cons_zero, List.set_cons_succ]
        refine wpLate_one (i := 3) (by kernel_rfl) (by simp only [List.getElem?_toArray, List.getElem?_cons_succ, List.getElem?_cons_zero]; exact rfl) (by kernel_rfl) (fun K hK => ?_)
        go_simp
        refine (l22First_any _ lr _ (hbi.drawn hdw) hlr5 hsm).mono ?_
        rintro e w3 ⟨xc, rfl, hxc, hb3⟩
        rw [HLR.out] at hxc
        have hqd := hq2.trans (hdw.below _)
        have hq3 := hqd.trans (hb3.mono hqd.size)
        have hSd := hS2.drawn hdw
        have hS3 := hSd.below hb3 (Nat.le_refl _)
        have ho3 := (ho2.drawn hdw).below hb3 (Nat.le_refl _)
        have hr3 := (hr2.drawn hdw).below hb3 (Nat.le_refl _)
        have cg3 := (hb3.cell (cell_lt ((hdw.cell _).trans c3b))).trans ((hdw.cell _).trans c3b)
        obtain ⟨p1, p2, -, p3⟩ := own_cell ho3
        obtain ⟨xa, xcap, rfl⟩ := hxc.isSlice
        have hxi := (Own.ints (xs := natsI (rotL lr)) hxc (by omega))
        have hsz3 : w.heap.size + 4 ≤ wd.heap.size := by rw [hdw.heap]; exact hzb
        try dsimp only
        refine hK.out _ _ ?h4 (fun hHeld => ?_)
        case h4 => first | assumption | (simp [*, go_sem])
        clear hK K
        try simp only [Act.put, List.setIfInBounds_toArray, List.set_cons_zero, List.set_cons_succ]
        refine wpLate_one (i := 4) (by kernel_rfl) (by simp only [List.getElem?_toArray, List.getElem?_cons_succ, List.getElem?_cons_zero]; exact rfl) (by kernel_rfl) (fun K hK => ?_)
        go_simp
        have hbb : Below w3.heap.size w3 (w3.alloc (.cells #[.slice xa l.length xcap] 37)) := (Below.refl _ _).alloc (Nat.le_refl _) _
        have p1b := (hbb.cell (cell_lt p1)).trans p1
        try dsimp only
        refine hK.out _ _ ?h5 (fun hHeld => ?_)
        case h5 => first | assumption | (simp [*, go_sem])
        clear hK K
        try simp only [Act.put, List.setIfInBounds_toArray, List.set_cons_zero, List.set_cons_succ]
        refine wpLate_one (i := 5) (by kernel_rfl) (by simp only [List.getElem?_toArray, List.getElem?_cons_succ, List.getElem?_cons_zero]; exact rfl) (by kernel_rfl) (fun K hK => ?_)
        rw [if_pos (by rfl)]
        obtain ⟨vs, hvl, hown, hrows⟩ := hS3
        rw [HLN.out] at hvl hown
        refine opWp_append1S elRows _ _ rfl hown rfl rfl rfl rfl (by omega) (by have := hb3.size; omega) ?_
        intro o5 w5 hown5 hkept hmv
        have hS5 : OwnS w5 (w.heap.size + 4) 37 o5 (G.take k ++ [natsI (rotL lr)]) := OwnS.app (news := [.slice xa l.length xcap]) (by rw [HLN.out]; exact hvl) rfl hrows (fun i hi hi2 => by (obtain rfl : i = 0 := by simp at hi; omega); exact hxi.low3S.weak (fun b hb => ⟨by have := hxc.ge b hb.1; omega, hb.2, fun e => by have h1 := hxc.ge b hb.1; (obtain ⟨vs', _, h2, _⟩ := hSd); have := (h2.lt b e).2; omega⟩)) (by rw [HLN.out]; exact hown5) hkept hmv (by simp)
        have ho5 := ho3.otherT hown (by decide) hkept
        have hr5 := hr3.otherT hown (by decide) hkept
        have hq5 := hkept.below hq3 hq3.size (fun b hb => by have := (hown.lt b hb).1; omega)
        have cg5 := (World.cell?_of_block (a := ⟨w.heap.size + 1, 0, none⟩) (hkept.2.2.2.2 (w.heap.size + 1) (cell_lt cg3) (fun e => by have := (hown.lt (w.heap.size + 1) e.symm).1; omega))).trans cg3
        obtain ⟨p1, p2, -, p3⟩ := own_cell ho5
        obtain ⟨oa5, oc5, rfl⟩ := hown5.isSlice
        try dsimp only
        refine hK.out _ _ ?h6 (fun hHeld => ?_)
        case h6 => first | assumption | (simp [*, go_sem])
        clear hK K
        try simp only [Act.put, List.setIfInBounds_toArray, List.set_cons_zero, List.set_cons_succ]
        refine wpLate_take (i := 6) (v := ?v7) (by simp only [List.getElem?_toArray, List.getElem?_cons_succ, List.getElem?_cons_zero]; exact rfl) (by kernel_rfl) (by kernel_rfl) (by kernel_rfl) (by intro _ _ _ h; exact h) (Or.inl ⟨by rfl, ?y7⟩) ?_
        case y7 => (intro w _; go_simp; try (with_reducible rfl))
        try simp only [Act.put, List.setIfInBounds_toArray, List.set_cons_zero, List.set_cons_succ]
        refine wpLate_late (i := 7) (by kernel_rfl) (by simp only [List.getElem?_toArray, List.getElem?_cons_succ, List.getElem?_cons_zero]; exact rfl) (by kernel_rfl) (fun K hK => ?_)
        go_simp
        skip
        try dsimp only
        refine hK.out _ _ ?_
        clear hK K
        try simp only [Act.put, List.setIfInBounds_toArray, List.set_cons_zero, List.set_cons_succ]
        refine wpLate_done (by kernel_rfl) ?_ _
        have ho6 := own_set ho5 (.slice oa5 (k + 1) oc5)
        have hr6 : Own (w5.setCell ⟨w.heap.size + 1 + 1 + 1, 0, none⟩ (.slice oa5 (k + 1) oc5)) w.heap.size 32 1 (.slice (some ⟨w.heap.size + 1 + 1, 0, none⟩) 1 1) 1 [.slice none 0 0] := hr5.keep (fun b hb => Below.heap_setCell _ _ _ _ (by have : w.heap.size + 1 + 1 = b := (by simpa [Value.ownBlock] using hb); simp; omega))
        have hS6 : OwnS (w5.setCell ⟨w.heap.size + 1 + 1 + 1, 0, none⟩ (.slice oa5 (k + 1) oc5)) (w.heap.size + 4) 37 (.slice oa5 (k + 1) oc5) (G.take k ++ [natsI (rotL lr)]) := hS5.keepB (fun b hb _ => Below.heap_setCell _ _ _ _ (by first | (simp; done) | (simp; omega))) (by simp)
        have hq6 : Below w.heap.size w (w5.setCell ⟨w.heap.size + 1 + 1 + 1, 0, none⟩ (.slice oa5 (k + 1) oc5)) := hq5.setCell (by first | (simp; done) | (simp; omega)) _
        have cg6 := (World.cell?_of_block (a := ⟨w.heap.size + 1, 0, none⟩) (Below.heap_setCell w5 ⟨w.heap.size + 1 + 1 + 1, 0, none⟩ (.slice oa5 (k + 1) oc5) _ (by simp))).trans cg5
        have hz6 : w.heap.size + 4 ≤ (w5.setCell ⟨w.heap.size + 1 + 1 + 1, 0, none⟩ (.slice oa5 (k + 1) oc5)).heap.size := by have := hkept.2.2.2.1; have := hbb.size; have := hb3.size; simp at *; omega
        generalize w5.setCell ⟨w.heap.size + 1 + 1 + 1, 0, none⟩ (.slice oa5 (k + 1) oc5) = w6 at *
        go_wp2
        go_roundw
        case rel => exact ⟨k + 1, _, by omega, by go_num, by rw [HGK.out]; exact hS6, hr6, ho6, hq6, hz6, cg6⟩
        case measure => simp [RowKit.intOf]; omega
/-- A row written over in its own block. -/
theorem ownR_rowTo {w w' : World} {B C ab n c k : Nat} {EO EI : TypeId} {g : List (List Int)} {r : List Int} {v : Value} (h : OwnR w B C EO EI (.slice (some ⟨ab, 0, none⟩) n c) g) (hk : k < g.length) (hcell : w.cell? ⟨ab, k, none⟩ = some v) (hkept : KeptBut w w' v.ownBlock)
    (hown : Own w' B EI 1 v r.length (r.map (.int .i64))) : OwnR w' B C EO EI (.slice (some ⟨ab, 0, none⟩) n c) (g.set k r) := by
  obtain ⟨vs, h1, h2, h3, hap, h4⟩ := h
  obtain ⟨a, cc, hn⟩ := h2.isSlice
  simp only [Value.slice.injEq] at hn
  obtain ⟨-, rfl, -⟩ := hn
  have hkv : k < vs.length := by omega
  have hv : vs[k] = v := by
    have e := (World.ownsRow.cellAt h2 k (by omega)).symm.trans hcell
    simpa [hkv] using e
  subst hv
  have hrow := h4 k hk hkv
  refine ⟨vs, by simp [h1], ?_, h3, hap, fun i hi hi2 => ?_⟩
  · rw [List.length_set]
    exact h2.kept hkept (fun b hb he => (hrow.2 b he).2 hb)
  · rw [List.length_set] at hi
    by_cases e : k = i
    · subst e
      rw [List.getElem_set_self]
      exact ⟨hown, hrow.2⟩
    · rw [List.getElem_set_ne e]
      obtain ⟨h5, h6⟩ := h4 i hi hi2
      exact ⟨h5.kept hkept (fun b hb he => e (hap k i hkv hi2 b he hb)), h6⟩
def revTo (r : List (List Int)) (k : Nat) : List (List Int) := (r.take k).map List.reverse ++ r.drop k
theorem revTo_len (r : List (List Int)) (k : Nat) : (revTo r k).length = r.length := by simp [revTo]; omega
theorem revTo_get {r : List (List Int)} {k : Nat} (hk : k < r.length) (h2 : k < (revTo r k).length) : (revTo r k)[k] = r[k] := by
  have h : (revTo r k)[k]? = some r[k] := by
    unfold revTo
    rw [List.getElem?_append_right (by simp; omega)]
    simp [Nat.min_eq_left (Nat.le_of_lt hk), hk]
  exact (List.getElem?_eq_some_iff.1 h).2
theorem set_mid {α : Type} : ∀ (A B : List α) (x y : α) (k : Nat), A.length = k → (A ++ x :: B).set k y = A ++ y :: B
  | [], B, x, y, k, h => by subst h; rfl
  | a :: A, B, x, y, k, h => by
    subst h
    simp only [List.cons_append, List.length_cons, List.set_cons_succ]
    rw [set_mid A B x y A.length rfl]
theorem revTo_set {r : List (List Int)} {k : Nat} (hk : k < r.length) : (revTo r k).set k r[k].reverse = revTo r (k + 1) := by
  unfold revTo
  rw [List.drop_eq_getElem_cons hk, set_mid _ _ _ _ k (by simp; omega), List.take_succ_eq_append_getElem hk, List.map_append, List.append_assoc]
  rfl
theorem revTo_all (r : List (List Int)) : revTo r r.length = r.map List.reverse := by simp [revTo]
theorem rot_rowM {t : List (List Nat)} (h : RotN t) {l : List Nat} (hl : l ∈ t) : l.length ≤ 16 ∧ ∀ x ∈ l, x < 16 := by
  obtain ⟨k, hk, rfl⟩ := List.getElem_of_mem hl
  have e : t.getD k [] = t[k] := by simp [hk]
  have hx : ∀ x ∈ t[k], x < t.length := fun x hx => (h.sym k x (e ▸ hx)).1
  have h2 := nodup_lenA (E := List.range t.length) (e ▸ h.nd k) (fun x hx' => List.mem_range.2 (hx x hx'))
  rw [List.length_range] at h2
  have := h.le
  exact ⟨by omega, fun x hx' => by have := hx x hx'; omega⟩
theorem revTo_small {r : List (List Int)} (h : SmallR r 1048576) (k : Nat) : SmallR (r.map List.reverse) 1048576 := by
  refine ⟨by rw [List.length_map]; exact h.1, fun i hi _ => ?_⟩
  rw [List.getElem_map, List.length_reverse]
  have h2 : i < r.length := by simpa using hi
  exact h.2 i h2 h2
set_option maxRecDepth 100000 in
set_option maxHeartbeats 8000000 in
theorem implMirrorOf_any {S S' : Nat → Prop} {gv rv : Value} {g r : List (List Int)} {w : World} (hvg : SlR S w gv g) (hvr : SlR S' w rv r) (hs : SmallR r 1048576) :
    Calls Try.prog 27 #[.agg #[gv], .agg #[rv]] w fun e w' => ∃ u, e = .returned (.agg #[u]) ∧ OwnR w' w.heap.size w'.heap.size 37 2 u (mirF g r) ∧ Below w.heap.size w w' := by
  obtain ⟨ga, gc, rfl⟩ := hvg.slice
  obtain ⟨ra, rc, rfl⟩ := hvr.slice
  obtain ⟨W, hW⟩ : ∃ W, W = (((w.alloc (.cells #[.slice ga g.length gc] 30)).alloc (.cells #[.slice ra r.length rc] 32)).alloc (.cells #[.slice none 0 0] 32)) := ⟨_, rfl⟩
  have hWW := Lib.hid hW
  have hq0 : Below w.heap.size w W := by rw [hW]; exact (((Below.refl _ _).alloc (Nat.le_refl _) _).alloc (by simp) _).alloc (by simp; omega) _
  have hr0 : Own W w.heap.size 32 1 (.slice (some ⟨w.heap.size + 1 + 1, 0, none⟩) 1 1) 1 [.slice none 0 0] := by
    rw [hW]
    have h := own_new ((w.alloc (.cells #[.slice ga g.length gc] 30)).alloc (.cells #[.slice ra r.length rc] 32)) w.heap.size 32 (.slice none 0 0) (by simp; omega)
    rw [show ((w.alloc (.cells #[.slice ga g.length gc] 30)).alloc (.cells #[.slice ra r.length rc] 32)).heap.size = w.heap.size + 1 + 1 by simp] at h
    exact h
  have c10 : W.cell? ⟨w.heap.size + 1, 0, none⟩ = some (.slice ra r.length rc) := by rw [hW]; simp [go_sem]
  have hao := implAroundOk_any (hvg.below hq0 (Nat.le_refl _)) (hvr.below hq0 (Nat.le_refl _)) (fun x hx => by
    obtain ⟨i, hi, rfl⟩ := List.getElem_of_mem hx
    have := hs.2 i hi hi; omega)
  clear hW
  by_cases ha : aroundB g r = true
  case neg =>
    have HE := Lib.hid (show mirF g r = [] by rw [mirF, if_neg ha])
    rw [Bool.not_eq_true] at ha
    rw [ha] at hao
    clear ha
    rw [HE.out]
    rw [hWW.out] at hao
    go_enter Try.func27, Try.ntmps27
    go_wp2_with fail
    refine hao.mono ?_
    rintro e w1 ⟨rfl, hb1⟩
    rw [← hWW.out] at hb1
    have hq1 := hq0.trans (hb1.mono hq0.size)
    obtain ⟨r1, r2, -, r3⟩ := own_cell (hr0.below hb1 (Nat.le_refl _))
    clear hao
    go_wp2
    refine bodyPost_ret (v := .agg #[.slice none 0 0]) (by simp [results, Try.results27, go_sem, r1]) rfl ⟨_, rfl, ?_, ?_⟩
    · exact ⟨[], rfl, Own.nil _ _ _ _, fun b hb => by simp [Value.ownBlock] at hb, ApartL.nil, fun i hi => by simp at hi⟩
    · exact hq1.setCell (by simp; omega) _
  have hP := around_iff.1 ha
  have HE := Lib.hid (show mirF g r = (((tOf r).map List.reverse).map rotL).map natsI by rw [mirF, if_pos ha]; simp [mirN])
  rw [ha] at hao
  rw [HE.out]
  have HRT := Lib.hid (aro_rot hP)
  have HEQ := Lib.hid (aro_eq hP)
  have HRL := Lib.hid (show r.map List.reverse = ((tOf r).map List.reverse).map natsI by
    conv => lhs; rw [aro_eq hP]
    simp [natsI, List.map_reverse])
  have hlen : r.length ≤ 16 := by have := HRT.out.le; rwa [tOf_len] at this
  clear ha hP
  rw [hWW.out] at hao
  go_enter Try.func27, Try.ntmps27
  go_wp2_with fail
  refine hao.mono ?_
  rintro e w1 ⟨rfl, hb1⟩
  rw [← hWW.out] at hb1
  have hq1 := hq0.trans (hb1.mono hq0.size)
  have c1 := (hb1.cell (cell_lt c10)).trans c10
  have hr1 := hr0.below hb1 (Nat.le_refl _)
  have htn := turnsOf_any (hvr.below hq1 (Nat.le_refl _)) hs
  clear hao
  go_wp2_with fail
  refine htn.mono ?_
  rintro e w2 ⟨tu, rfl, htu, hb2⟩
  clear htn
  have hq2 := hq1.trans (hb2.mono hq1.size)
  have hR0 : OwnR w2 w1.heap.size w2.heap.size 68 3 tu (revTo r 0) := by simpa [revTo] using htu
  have hq1s := hq1.size
  obtain ⟨ta, tc, rfl⟩ := htu.isSlice
  clear htu c10 hr0
  have HSR := Lib.hid hs
  clear hs
  go_wp2_with fail
  go_loopw [17] (fun i wr => ∃ k : Nat, k ≤ r.length ∧ i = .int .i64 k ∧ OwnR wr w1.heap.size w2.heap.size 68 3 (.slice ta r.length tc) (revTo r k) ∧ Below w1.heap.size w1 wr) (fun i _ => r.length - (RowKit.intOf i).toNat)
  case atStart => exact ⟨0, Nat.zero_le _, rfl, hR0, hb2⟩
  case round =>
    clear hR0
    obtain ⟨k, hk, rfl, hR, hq⟩ := hrel
    obtain ⟨wi, rfl⟩ : ∃ wx : World, wx = wr := ⟨_, rfl⟩
    have hqw := hq1.trans (hq.mono hq1.size)
    by_cases hlt : k < r.length
    · have hta : ∃ tb, ta = some ⟨tb, 0, none⟩ := by
        obtain ⟨vs, -, h2, -⟩ := hR
        rcases own_none_some h2 with ⟨-, hn⟩ | ⟨gb, gc', he⟩
        · rw [revTo_len] at hn; omega
        · simp only [Value.slice.injEq] at he
          exact ⟨gb, he.1⟩
      obtain ⟨tb, rfl⟩ := hta
      have hkl : k < (revTo r k).length := by rw [revTo_len]; exact hlt
      obtain ⟨xa, xc, hcell, -, hrow, -, -⟩ := hR.row hkl
      have e1 := revTo_get hlt hkl
      rw [e1] at hcell hrow
      have hrl : r[k].length ≤ 1048576 := by have := HSR.out.2 k hlt hlt; omega
      have hST := fun (w' : World) (hk : KeptBut wi w' (Value.slice xa r[k].length xc).ownBlock) (ho : Own w' w1.heap.size 3 1 (.slice xa r[k].length xc) r[k].length (r[k].reverse.map (.int .i64))) => ownR_rowTo hR hkl hcell hk (r := r[k].reverse) (by rw [List.length_reverse]; exact ho)
      rw [revTo_set hlt] at hST
      generalize r[k] = l at *
      clear e1
      go_wp2_with fail
      refine (reverseI_any hrow hrl).mono ?_
      rintro e w3 ⟨rfl, hrow3, hk3⟩
      have hR3 := hST w3 hk3 hrow3
      have hq3 := hk3.below hq hq.size (fun b hb => (hrow.lt b hb).1)
      clear hST hR hrow hcell
      go_wp2_with fail
      exact ⟨⟨k + 1, by omega, by simp, hR3, hq3⟩, by simp [RowKit.intOf]; omega⟩
    · obtain rfl : k = r.length := by omega
      rw [revTo_all] at hR
      have hRR := hR.rows (revTo_small HSR.out 0)
      rw [HRL.out] at hRR
      have hr4 := hr1.below hq (Nat.le_refl _)
      have har := aroundOf_any hRR (by rw [List.length_map, tOf_len]; omega) (fun l hl => by
        obtain ⟨l', hl', rfl⟩ := List.mem_map.1 hl
        have h1 := rot_rowM HRT.out hl'
        rw [List.length_reverse]
        exact ⟨by omega, fun x hx => by have := h1.2 x (List.mem_reverse.1 hx); omega⟩)
      obtain ⟨G, hG⟩ : ∃ G, G = ((((tOf r).map List.reverse).map rotL).map natsI) := ⟨_, rfl⟩
      rw [← hG] at har
      have HGH := Lib.hid hG
      clear hG
      clear hR hRR
      go_wp2_with fail
      refine har.mono ?_
      rintro e w4 ⟨u, rfl, hu, hb4⟩
      have hr5 := hr4.below hb4 (Nat.le_refl _)
      have hq4 := hqw.trans (hb4.mono hqw.size)
      have hws := hqw.size
      obtain ⟨r1, r2, -, r3⟩ := own_cell hr5
      obtain ⟨ua, uc, rfl⟩ := hu.isSlice
      clear har
      go_wp2
      refine bodyPost_ret (v := .agg #[.slice ua G.length uc]) (by simp [results, Try.results27, go_sem, r1]) rfl ⟨_, rfl, ?_, hq4.setCell (by simp; omega) _⟩
      have hG := HGH.out
      clear HGH
      subst hG
      exact (hu.setOther hr5 (by decide) (by decide) _).weaken (by omega) (Nat.le_of_eq (by simp))
theorem markAroundE_any {B C : Nat} {EO : TypeId} {u : Value} {g : List (List Int)} {k : Int} {w : World} (hu : OwnR w B C EO 2 u g) (hs : SmallR g 1048576) (hC : C ≤ w.heap.size) (hk0 : 0 ≤ k) (hk1 : k ≤ 100000000000000) :
    Calls Try.prog 23 #[.agg #[u], .int .i64 k] w fun e w' => e = .returned (.int .i64 (k + (sumL g : Int))) ∧ OwnR w' B C EO 2 u (marksR k g) ∧ Between B C w w' := by
  have hbl : Below w.heap.size w (w.alloc (.cells #[u] 32)) := (Below.refl _ _).alloc (Nat.le_refl _) _
  have hu1 := hu.below hbl (Nat.le_refl _)
  obtain ⟨ua, uc, rfl⟩ := hu.isSlice
  go_enter Try.func23, Try.ntmps23
  go_wp2_with fail
  refine (markRR_any hu1 hs hk0 hk1).mono ?_
  rintro e w' ⟨rfl, h2, h3⟩
  have hs3 := h3.size
  have hC1 := hC
  simp at hs3
  go_wp2
  go_ret
  exact ⟨rfl, h2, h3.os, h3.tape, h3.output, by omega, fun b hb hB => (h3.block b (by simp; omega) hB).trans (hbl.block b hb)⟩
theorem heldAround_any {S : Nat → Prop} {u : Value} {g : List (List Int)} {k : Int} {w : World} (hu : SlR S w u (marksR k g)) (hs : SmallR g 1048576) (hk0 : 0 ≤ k) (hk1 : k ≤ 100000000000000) :
    Calls Try.prog 28 #[.agg #[u], .int .i64 k] w fun e w' => e = .returned (.int .i64 (k + (sumL g : Int))) ∧ Below w.heap.size w w' := by
  have hbl : Below w.heap.size w (w.alloc (.cells #[u] 32)) := (Below.refl _ _).alloc (Nat.le_refl _) _
  have hu1 := hu.below hbl (Nat.le_refl _)
  obtain ⟨ua, uc, rfl⟩ := hu.slice
  have hneg : ¬ (k + (sumL g : Int)) < 0 := by omega
  go_enter Try.func28, Try.ntmps28
  go_wp2_with fail
  refine (heldRR_any hu1 hs hk0 hk1).mono ?_
  rintro e w' ⟨rfl, h2⟩
  go_wp2
  go_ret
  exact ⟨rfl, hbl.trans (h2.mono hbl.size)⟩
theorem meetA1 {H G : Value → Option Addr → Nat → Nat → World → Prop} {R : Prop} (rest : ∀ a b c d e, H a b c d e → G a b c d e) (orders : (∀ a b c d e, H a b c d e → G a b c d e) → R) : R := orders rest
theorem meetA2 {H G : Value → Value → Option Addr → Nat → Nat → World → Prop} {R : Prop} (rest : ∀ a b c d e f, H a b c d e f → G a b c d e f) (orders : (∀ a b c d e f, H a b c d e f → G a b c d e f) → R) : R := orders rest
theorem Between.setCell1 (w : World) (ab : Nat) (v : Value) : Between ab (ab + 1) w (w.setCell ⟨ab, 0, none⟩ v) :=
  ⟨rfl, rfl, rfl, by simp, fun b hb h => Below.heap_setCell _ _ _ _ (by simp; omega)⟩
theorem mirF_small (g r : List (List Int)) : SmallR (mirF g r) 1048576 := by
  unfold mirF
  split
  · rename_i hc
    have hr := mirN_rot (aro_rot (around_iff.1 hc))
    refine ⟨by have := hr.le; rw [List.length_map]; omega, fun i hi _ => ?_⟩
    rw [List.getElem_map, natsI_len]
    have := (rot_rowM hr (List.getElem_mem (by simpa using hi))).1
    omega
  · exact ⟨by simp, fun i hi => by simp at hi⟩
theorem conMirrorOf {g0 : List (List Int)} {rr1 : List (List Int)} (hsm0 : SmallR g0 1048576) (hsm1 : SmallR rr1 1048576) : ∃ (r0 : List (List Int)), (∀ {S0 S1 : Nat → Prop} {v0 v1 : Value} {w : World}, SlR S0 w v0 g0 → SlR S1 w v1 rr1 → Calls Try.prog 26 #[.agg #[v0], .agg #[v1]] w fun e w' => ∃ u0, e = .returned (.agg #[u0]) ∧ SlR (fun b => w.heap.size ≤ b ∧ b < w'.heap.size) w' u0 r0 ∧ Below w.heap.size w w') ∧
    (∀ {S0 S1 : Nat → Prop} {v0 v1 : Value} {w : World}, SlR S0 w v0 g0 → SlR S1 w v1 rr1 → Calls Try.prog 27 #[.agg #[v0], .agg #[v1]] w fun e w' => ∃ u0, e = .returned (.agg #[u0]) ∧ OwnR w' w.heap.size w'.heap.size 37 2 u0 r0 ∧ Below w.heap.size w w') ∧
    SmallR r0 1048576 := by
  exact ⟨mirF g0 rr1, fun h0 h1 => specMirrorOf_any h0 h1, fun h0 h1 => implMirrorOf_any h0 h1 hsm1, mirF_small g0 rr1⟩
set_option maxRecDepth 100000 in
set_option maxHeartbeats 16000000 in
theorem lawMirrorOf_any {S0 S1 : Nat → Prop} (v0 : Value) (g0 : List (List Int)) (v1 : Value) (rr1 : List (List Int)) (w : World) (hv0 : SlR S0 w v0 g0) (hv1 : SlR S1 w v1 rr1) :
    Calls Try.prog 6 #[.agg #[v0], .agg #[v1]] w fun e w' => e = .returned (.bool true) ∧ Below w.heap.size w w' := by
  obtain ⟨a0, c0, rfl⟩ := hv0.slice
  obtain ⟨a1, c1, rfl⟩ := hv1.slice
  have q0 : Below w.heap.size w ((w.alloc (.cells #[.slice a0 g0.length c0] 24)).alloc (.cells #[.slice a1 rr1.length c1] 26)) := ((Below.refl _ _).alloc (Nat.le_refl _) _).alloc (by simp; try omega) _
  go_enter Try.func6, Try.ntmps6
  go_wp2_with fail
  refine (szGraph_any _ _ _ _ (hv0.below q0 (Nat.le_refl _)) (by omega) (by omega)).mono ?_
  rintro e w1 ⟨r1, rfl, hr1, hs1, hm1, hb1⟩
  have q1 := q0.trans (hb1.mono q0.size)
  have z0 := q0.size
  have z1 : w.heap.size + 2 ≤ w1.heap.size := by have := hb1.size; simp at this; omega
  have b0_1 : w1.cell? ⟨w.heap.size, 0, none⟩ = some (.slice a0 g0.length c0) := (hb1.cell (p := ⟨w.heap.size, 0, none⟩) (by simp <;> omega)).trans (by simp [go_sem])
  have b1_1 : w1.cell? ⟨w.heap.size + 1, 0, none⟩ = some (.slice a1 rr1.length c1) := (hb1.cell (p := ⟨w.heap.size + 1, 0, none⟩) (by simp <;> omega)).trans (by simp [go_sem])
  by_cases hneg1 : r1 < 0
  case pos =>
    go_wp2
    go_ret
    exact ⟨rfl, q1⟩
  have hsm0 : SmallR g0 1048576 := hm1 (by omega)
  go_wp2_with fail
  refine (szAround_any _ _ _ _ (hv1.below q1 (Nat.le_refl _)) (by omega) (by omega)).mono ?_
  rintro e w2 ⟨r2, rfl, hr2, hs2, hm2, hb2⟩
  have q2 := q1.trans (hb2.mono q1.size)
  have z2 := hb2.size
  have b0_2 : w2.cell? ⟨w.heap.size, 0, none⟩ = some (.slice a0 g0.length c0) := (hb2.cell (p := ⟨w.heap.size, 0, none⟩) (cell_lt b0_1)).trans b0_1
  have b1_2 : w2.cell? ⟨w.heap.size + 1, 0, none⟩ = some (.slice a1 rr1.length c1) := (hb2.cell (p := ⟨w.heap.size + 1, 0, none⟩) (cell_lt b1_1)).trans b1_1
  by_cases hneg2 : r2 < 0
  case pos =>
    go_wp2
    go_ret
    exact ⟨rfl, q2⟩
  have hsm1 : SmallR rr1 1048576 := smallR_mono (hm2 (by omega)) (by omega)
  obtain ⟨r0, hS, hI, hN0⟩ := conMirrorOf hsm0 hsm1
  go_wp2
  apply meetA2 (H := fun (_ : Value) (_ : Value) (ua : Option Addr) (uc ab : Nat) (W : World) => Below w2.heap.size w2 W ∧ w2.heap.size ≤ ab ∧ ab < W.heap.size ∧ W.cell? ⟨ab, 0, none⟩ = some (.slice ua r0.length uc) ∧ SlR (fun b => b < W.heap.size) W (.slice ua r0.length uc) r0)
  case orders =>
    intro rest
    refine wp_region_held_drew (S := (fun w' => w'.cell? ⟨w.heap.size, 0, none⟩ = some (.slice a0 g0.length c0) ∧ w'.cell? ⟨w.heap.size + 1, 0, none⟩ = some (.slice a1 rr1.length c1))) (by kernel_rfl) ?_ (fun hHeld => ?_)
    · first | exact ⟨‹_›, ‹_›⟩ | assumption | (simp [*, go_sem])
    have hqz : Below w2.heap.size w2 w2.drew := (Below.refl _ _).drew
    have b0_z := (hqz.cell (p := ⟨w.heap.size, 0, none⟩) (cell_lt b0_2)).trans b0_2
    have b1_z := (hqz.cell (p := ⟨w.heap.size + 1, 0, none⟩) (cell_lt b1_2)).trans b1_2
    generalize w2.drew = wz at hqz b0_z b1_z hHeld ⊢
    refine wpAnyH_take (i := 0) (v := ?v9) (by simp only [List.getElem?_toArray, List.getElem?_cons_zero]; exact rfl) (by kernel_rfl) (by kernel_rfl) (by kernel_rfl) (by intro _ _ _ h; exact h) (Or.inl ⟨by rfl, ?y9⟩) hHeld ?_
    case y9 => (intro w hSw; (try dsimp only at hSw); go_simp; try (with_reducible rfl))
    try simp only [Act.put, List.setIfInBounds_toArray, List.set_cons_zero, List.set_cons_succ]
    refine wpAnyH_take (i := 2) (v := ?v10) (by simp only [List.getElem?_toArray, List.getElem?_cons_succ, List.getElem?_cons_zero]; exact rfl) (by kernel_rfl) (by kernel_rfl) (by kernel_rfl) (by intro _ _ _ h; exact h) (Or.inl ⟨by rfl, ?y10⟩) hHeld ?_
    case y10 => (intro w hSw; (try dsimp only at hSw); go_simp; try (with_reducible rfl))
    try simp only [Act.put, List.setIfInBounds_toArray, List.set_cons_zero, List.set_cons_succ]
    refine wpAnyH_ready (rs := [1, 5]) (by kernel_rfl) (by simp) ?_
    refine (AllReadyH.cons (by simp only [List.getElem?_toArray, List.getElem?_cons_succ, List.getElem?_cons_zero]; exact rfl) (fun K hK => ?b11_1) (AllReadyH.cons (by simp only [List.getElem?_toArray, List.getElem?_cons_succ, List.getElem?_cons_zero]; exact rfl) (fun K hK => ?b11_5) AllReadyH.nil))
    case b11_1 =>
      go_simp
      refine (toGraph_any _ _ _ (hv0.below (q2.trans (hqz.mono q2.size)) (Nat.le_refl _)) hsm0).mono ?_
      rintro e wy ⟨x0z, rfl, y0z, hby⟩
      replace hqz := hqz.trans (hby.mono hqz.size)
      replace b0_z := (hby.cell (p := ⟨w.heap.size, 0, none⟩) (cell_lt b0_z)).trans b0_z
      replace b1_z := (hby.cell (p := ⟨w.heap.size + 1, 0, none⟩) (cell_lt b1_z)).trans b1_z
      try (replace y1z := y1z.below hby (Nat.le_refl _))
      try (replace hown := hown.below hby (Nat.le_refl _))
      clear hby
      obtain ⟨wz, rfl⟩ : ∃ wx : World, wx = wy := ⟨_, rfl⟩
      try dsimp only
      refine hK.out _ _ ?h12 (fun hHeld => ?_)
      case h12 => first | exact ⟨‹_›, ‹_›⟩ | assumption | (simp [*, go_sem])
      clear hK K
      try simp only [Act.put, List.setIfInBounds_toArray, List.set_cons_zero, List.set_cons_succ]
      refine wpAnyH_ready (rs := [3, 5]) (by kernel_rfl) (by simp) ?_
      refine (AllReadyH.cons (by simp only [List.getElem?_toArray, List.getElem?_cons_succ, List.getElem?_cons_zero]; exact rfl) (fun K hK => ?b13_3) (AllReadyH.cons (by simp only [List.getElem?_toArray, List.getElem?_cons_succ, List.getElem?_cons_zero]; exact rfl) (fun K hK => ?b13_5) AllReadyH.nil))
      case b13_3 =>
        go_simp
        refine (toAround_any _ _ _ (hv1.below (q2.trans (hqz.mono q2.size)) (Nat.le_refl _)) hsm1).mono ?_
        rintro e wy ⟨x1z, rfl, y1z, hby⟩
        replace hqz := hqz.trans (hby.mono hqz.size)
        replace b0_z := (hby.cell (p := ⟨w.heap.size, 0, none⟩) (cell_lt b0_z)).trans b0_z
        replace b1_z := (hby.cell (p := ⟨w.heap.size + 1, 0, none⟩) (cell_lt b1_z)).trans b1_z
        try (replace y0z := y0z.below hby (Nat.le_refl _))
        try (replace hown := hown.below hby (Nat.le_refl _))
        clear hby
        obtain ⟨wz, rfl⟩ : ∃ wx : World, wx = wy := ⟨_, rfl⟩
        try dsimp only
        refine hK.out _ _ ?h14 (fun hHeld => ?_)
        case h14 => first | exact ⟨‹_›, ‹_›⟩ | assumption | (simp [*, go_sem])
        clear hK K
        try simp only [Act.put, List.setIfInBounds_toArray, List.set_cons_zero, List.set_cons_succ]
        refine wpAnyH_ready (rs := [4, 5]) (by kernel_rfl) (by simp) ?_
        refine (AllReadyH.cons (by simp only [List.getElem?_toArray, List.getElem?_cons_succ, List.getElem?_cons_zero]; exact rfl) (fun K hK => ?b15_4) (AllReadyH.cons (by simp only [List.getElem?_toArray, List.getElem?_cons_succ, List.getElem?_cons_zero]; exact rfl) (fun K hK => ?b15_5) AllReadyH.nil))
        case b15_4 =>
          go_simp
          refine (hS y0z y1z).mono ?_
          rintro e wy ⟨u0, rfl, hres, hby⟩
          try (replace hres := hres.weak (S' := fun b => b ≠ ab ∧ b < wy.heap.size) (fun b hb => ⟨by have := (hown.lt ab rfl).2; omega, hb.2⟩))
          obtain ⟨ua, uc, rfl⟩ := hres.slice
          replace hqz := hqz.trans (hby.mono hqz.size)
          replace b0_z := (hby.cell (p := ⟨w.heap.size, 0, none⟩) (cell_lt b0_z)).trans b0_z
          replace b1_z := (hby.cell (p := ⟨w.heap.size + 1, 0, none⟩) (cell_lt b1_z)).trans b1_z
          try (replace hown := hown.below hby (Nat.le_refl _))
          try (replace hsz := Nat.le_trans hsz hby.size)
          clear hby
          obtain ⟨wz, rfl⟩ : ∃ wx : World, wx = wy := ⟨_, rfl⟩
          try dsimp only
          refine hK.out _ _ ?h16 (fun hHeld => ?_)
          case h16 => first | exact ⟨‹_›, ‹_›⟩ | assumption | (simp [*, go_sem])
          clear hK K
          try simp only [Act.put, List.setIfInBounds_toArray, List.set_cons_zero, List.set_cons_succ]
          refine wpAnyH_ready (rs := [5]) (by kernel_rfl) (by simp) ?_
          refine AllReadyH.cons (by simp only [List.getElem?_toArray, List.getElem?_cons_succ, List.getElem?_cons_zero]; exact rfl) (fun K hK => ?_) AllReadyH.nil
          go_simp
          have hby : Below wz.heap.size wz (wz.alloc (.cells #[.slice none 0 0] 32)) := (Below.refl _ _).alloc (Nat.le_refl _) _
          have hown := own_new wz w2.heap.size 32 (.slice none 0 0) hqz.size
          try (replace hres := (hres.below hby (Nat.le_refl _)).weak (S' := fun b => b ≠ wz.heap.size ∧ b < (wz.alloc (.cells #[.slice none 0 0] 32)).heap.size) (fun b hb => ⟨by omega, by simp; omega⟩))
          replace hqz := hqz.trans (hby.mono hqz.size)
          replace b0_z := (hby.cell (p := ⟨w.heap.size, 0, none⟩) (cell_lt b0_z)).trans b0_z
          replace b1_z := (hby.cell (p := ⟨w.heap.size + 1, 0, none⟩) (cell_lt b1_z)).trans b1_z
          try (replace y0z := y0z.below hby (Nat.le_refl _))
          try (replace y1z := y1z.below hby (Nat.le_refl _))
          clear hby
          generalize (wz.alloc (.cells #[.slice none 0 0] 32)) = wy at *
          generalize wz.heap.size = ab at *
          obtain ⟨wz, rfl⟩ : ∃ wx : World, wx = wy := ⟨_, rfl⟩
          try dsimp only
          refine hK.out _ _ ?h18 (fun hHeld => ?_)
          case h18 => first | exact ⟨‹_›, ‹_›⟩ | assumption | (simp [*, go_sem])
          clear hK K
          try simp only [Act.put, List.setIfInBounds_toArray, List.set_cons_zero, List.set_cons_succ]
          refine wpAnyH_ready (rs := [6]) (by kernel_rfl) (by simp) ?_
          refine AllReadyH.cons (by simp only [List.getElem?_toArray, List.getElem?_cons_succ, List.getElem?_cons_zero]; exact rfl) (fun K hK => ?_) AllReadyH.nil
          obtain ⟨p1, p2, p3, p4⟩ := own_cell hown
          go_simp
          have hge := hown.ge ab rfl
          have b0_s := (World.cell?_of_block (a := ⟨w.heap.size, 0, none⟩) (Below.heap_setCell wz ⟨ab, 0, none⟩ (.slice ua r0.length uc) _ (by have h9 : w.heap.size < w2.heap.size := cell_lt b0_2; first | omega | (simp; omega)))).trans b0_z
          have b1_s := (World.cell?_of_block (a := ⟨w.heap.size + 1, 0, none⟩) (Below.heap_setCell wz ⟨ab, 0, none⟩ (.slice ua r0.length uc) _ (by have h9 : w.heap.size + 1 < w2.heap.size := cell_lt b1_2; first | omega | (simp; omega)))).trans b1_z
          have hlt := (hown.lt ab rfl).2
          have hqS : Below w2.heap.size w2 (wz.setCell ⟨ab, 0, none⟩ (.slice ua r0.length uc)) := hqz.setCell (by simpa using hge) _
          have hcl := (own_cell (own_set hown (.slice ua r0.length uc))).1
          have hrS : SlR (fun b => b < (wz.setCell ⟨ab, 0, none⟩ (.slice ua r0.length uc)).heap.size) (wz.setCell ⟨ab, 0, none⟩ (.slice ua r0.length uc)) (.slice ua r0.length uc) r0 := (hres.keep (w' := (wz.setCell ⟨ab, 0, none⟩ (.slice ua r0.length uc))) (fun b hb => Below.heap_setCell _ _ _ _ (by have := hb.1; simpa using this))).weak (fun b hb => by have := hb.2; simpa using this)
          try dsimp only
          refine hK.out _ _ ?h20 (fun hHeld => ?_)
          case h20 => first | exact ⟨‹_›, ‹_›⟩ | assumption | (simp [*, go_sem])
          clear hK K
          try simp only [Act.put, List.setIfInBounds_toArray, List.set_cons_zero, List.set_cons_succ]
          refine wpAnyH_done (by kernel_rfl) ?_ _
          exact rest x0z x1z ua uc ab _ ⟨hqS, hge, by simpa using hlt, hcl, hrS⟩
        case b15_5 =>
          go_simp
          have hby : Below wz.heap.size wz (wz.alloc (.cells #[.slice none 0 0] 32)) := (Below.refl _ _).alloc (Nat.le_refl _) _
          have hown := own_new wz w2.heap.size 32 (.slice none 0 0) hqz.size
          try (replace hres := (hres.below hby (Nat.le_refl _)).weak (S' := fun b => b ≠ wz.heap.size ∧ b < (wz.alloc (.cells #[.slice none 0 0] 32)).heap.size) (fun b hb => ⟨by omega, by simp; omega⟩))
          replace hqz := hqz.trans (hby.mono hqz.size)
          replace b0_z := (hby.cell (p := ⟨w.heap.size, 0, none⟩) (cell_lt b0_z)).trans b0_z
          replace b1_z := (hby.cell (p := ⟨w.heap.size + 1, 0, none⟩) (cell_lt b1_z)).trans b1_z
          try (replace y0z := y0z.below hby (Nat.le_refl _))
          try (replace y1z := y1z.below hby (Nat.le_refl _))
          clear hby
          generalize (wz.alloc (.cells #[.slice none 0 0] 32)) = wy at *
          generalize wz.heap.size = ab at *
          obtain ⟨wz, rfl⟩ : ∃ wx : World, wx = wy := ⟨_, rfl⟩
          try dsimp only
          refine hK.out _ _ ?h21 (fun hHeld => ?_)
          case h21 => first | exact ⟨‹_›, ‹_›⟩ | assumption | (simp [*, go_sem])
          clear hK K
          try simp only [Act.put, List.setIfInBounds_toArray, List.set_cons_zero, List.set_cons_succ]
          refine wpAnyH_ready (rs := [4]) (by kernel_rfl) (by simp) ?_
          refine AllReadyH.cons (by simp only [List.getElem?_toArray, List.getElem?_cons_succ, List.getElem?_cons_zero]; exact rfl) (fun K hK => ?_) AllReadyH.nil
          go_simp
          refine (hS y0z y1z).mono ?_
          rintro e wy ⟨u0, rfl, hres, hby⟩
          try (replace hres := hres.weak (S' := fun b => b ≠ ab ∧ b < wy.heap.size) (fun b hb => ⟨by have := (hown.lt ab rfl).2; omega, hb.2⟩))
          obtain ⟨ua, uc, rfl⟩ := hres.slice
          replace hqz := hqz.trans (hby.mono hqz.size)
          replace b0_z := (hby.cell (p := ⟨w.heap.size, 0, none⟩) (cell_lt b0_z)).trans b0_z
          replace b1_z := (hby.cell (p := ⟨w.heap.size + 1, 0, none⟩) (cell_lt b1_z)).trans b1_z
          try (replace hown := hown.below hby (Nat.le_refl _))
          try (replace hsz := Nat.le_trans hsz hby.size)
          clear hby
          obtain ⟨wz, rfl⟩ : ∃ wx : World, wx = wy := ⟨_, rfl⟩
          try dsimp only
          refine hK.out _ _ ?h23 (fun hHeld => ?_)
          case h23 => first | exact ⟨‹_›, ‹_›⟩ | assumption | (simp [*, go_sem])
          clear hK K
          try simp only [Act.put, List.setIfInBounds_toArray, List.set_cons_zero, List.set_cons_succ]
          refine wpAnyH_ready (rs := [6]) (by kernel_rfl) (by simp) ?_
          refine AllReadyH.cons (by simp only [List.getElem?_toArray, List.getElem?_cons_succ, List.getElem?_cons_zero]; exact rfl) (fun K hK => ?_) AllReadyH.nil
          obtain ⟨p1, p2, p3, p4⟩ := own_cell hown
          go_simp
          have hge := hown.ge ab rfl
          have b0_s := (World.cell?_of_block (a := ⟨w.heap.size, 0, none⟩) (Below.heap_setCell wz ⟨ab, 0, none⟩ (.slice ua r0.length uc) _ (by have h9 : w.heap.size < w2.heap.size := cell_lt b0_2; first | omega | (simp; omega)))).trans b0_z
          have b1_s := (World.cell?_of_block (a := ⟨w.heap.size + 1, 0, none⟩) (Below.heap_setCell wz ⟨ab, 0, none⟩ (.slice ua r0.length uc) _ (by have h9 : w.heap.size + 1 < w2.heap.size := cell_lt b1_2; first | omega | (simp; omega)))).trans b1_z
          have hlt := (hown.lt ab rfl).2
          have hqS : Below w2.heap.size w2 (wz.setCell ⟨ab, 0, none⟩ (.slice ua r0.length uc)) := hqz.setCell (by simpa using hge) _
          have hcl := (own_cell (own_set hown (.slice ua r0.length uc))).1
          have hrS : SlR (fun b => b < (wz.setCell ⟨ab, 0, none⟩ (.slice ua r0.length uc)).heap.size) (wz.setCell ⟨ab, 0, none⟩ (.slice ua r0.length uc)) (.slice ua r0.length uc) r0 := (hres.keep (w' := (wz.setCell ⟨ab, 0, none⟩ (.slice ua r0.length uc))) (fun b hb => Below.heap_setCell _ _ _ _ (by have := hb.1; simpa using this))).weak (fun b hb => by have := hb.2; simpa using this)
          try dsimp only
          refine hK.out _ _ ?h25 (fun hHeld => ?_)
          case h25 => first | exact ⟨‹_›, ‹_›⟩ | assumption | (simp [*, go_sem])
          clear hK K
          try simp only [Act.put, List.setIfInBounds_toArray, List.set_cons_zero, List.set_cons_succ]
          refine wpAnyH_done (by kernel_rfl) ?_ _
          exact rest x0z x1z ua uc ab _ ⟨hqS, hge, by simpa using hlt, hcl, hrS⟩
      case b13_5 =>
        go_simp
        have hby : Below wz.heap.size wz (wz.alloc (.cells #[.slice none 0 0] 32)) := (Below.refl _ _).alloc (Nat.le_refl _) _
        have hown := own_new wz w2.heap.size 32 (.slice none 0 0) hqz.size
        try (replace hres := (hres.below hby (Nat.le_refl _)).weak (S' := fun b => b ≠ wz.heap.size ∧ b < (wz.alloc (.cells #[.slice none 0 0] 32)).heap.size) (fun b hb => ⟨by omega, by simp; omega⟩))
        replace hqz := hqz.trans (hby.mono hqz.size)
        replace b0_z := (hby.cell (p := ⟨w.heap.size, 0, none⟩) (cell_lt b0_z)).trans b0_z
        replace b1_z := (hby.cell (p := ⟨w.heap.size + 1, 0, none⟩) (cell_lt b1_z)).trans b1_z
        try (replace y0z := y0z.below hby (Nat.le_refl _))
        try (replace y1z := y1z.below hby (Nat.le_refl _))
        clear hby
        generalize (wz.alloc (.cells #[.slice none 0 0] 32)) = wy at *
        generalize wz.heap.size = ab at *
        obtain ⟨wz, rfl⟩ : ∃ wx : World, wx = wy := ⟨_, rfl⟩
        try dsimp only
        refine hK.out _ _ ?h26 (fun hHeld => ?_)
        case h26 => first | exact ⟨‹_›, ‹_›⟩ | assumption | (simp [*, go_sem])
        clear hK K
        try simp only [Act.put, List.setIfInBounds_toArray, List.set_cons_zero, List.set_cons_succ]
        refine wpAnyH_ready (rs := [3]) (by kernel_rfl) (by simp) ?_
        refine AllReadyH.cons (by simp only [List.getElem?_toArray, List.getElem?_cons_succ, List.getElem?_cons_zero]; exact rfl) (fun K hK => ?_) AllReadyH.nil
        go_simp
        refine (toAround_any _ _ _ (hv1.below (q2.trans (hqz.mono q2.size)) (Nat.le_refl _)) hsm1).mono ?_
        rintro e wy ⟨x1z, rfl, y1z, hby⟩
        replace hqz := hqz.trans (hby.mono hqz.size)
        replace b0_z := (hby.cell (p := ⟨w.heap.size, 0, none⟩) (cell_lt b0_z)).trans b0_z
        replace b1_z := (hby.cell (p := ⟨w.heap.size + 1, 0, none⟩) (cell_lt b1_z)).trans b1_z
        try (replace y0z := y0z.below hby (Nat.le_refl _))
        try (replace hown := hown.below hby (Nat.le_refl _))
        clear hby
        obtain ⟨wz, rfl⟩ : ∃ wx : World, wx = wy := ⟨_, rfl⟩
        try dsimp only
        refine hK.out _ _ ?h28 (fun hHeld => ?_)
        case h28 => first | exact ⟨‹_›, ‹_›⟩ | assumption | (simp [*, go_sem])
        clear hK K
        try simp only [Act.put, List.setIfInBounds_toArray, List.set_cons_zero, List.set_cons_succ]
        refine wpAnyH_ready (rs := [4]) (by kernel_rfl) (by simp) ?_
        refine AllReadyH.cons (by simp only [List.getElem?_toArray, List.getElem?_cons_succ, List.getElem?_cons_zero]; exact rfl) (fun K hK => ?_) AllReadyH.nil
        go_simp
        refine (hS y0z y1z).mono ?_
        rintro e wy ⟨u0, rfl, hres, hby⟩
        try (replace hres := hres.weak (S' := fun b => b ≠ ab ∧ b < wy.heap.size) (fun b hb => ⟨by have := (hown.lt ab rfl).2; omega, hb.2⟩))
        obtain ⟨ua, uc, rfl⟩ := hres.slice
        replace hqz := hqz.trans (hby.mono hqz.size)
        replace b0_z := (hby.cell (p := ⟨w.heap.size, 0, none⟩) (cell_lt b0_z)).trans b0_z
        replace b1_z := (hby.cell (p := ⟨w.heap.size + 1, 0, none⟩) (cell_lt b1_z)).trans b1_z
        try (replace hown := hown.below hby (Nat.le_refl _))
        try (replace hsz := Nat.le_trans hsz hby.size)
        clear hby
        obtain ⟨wz, rfl⟩ : ∃ wx : World, wx = wy := ⟨_, rfl⟩
        try dsimp only
        refine hK.out _ _ ?h30 (fun hHeld => ?_)
        case h30 => first | exact ⟨‹_›, ‹_›⟩ | assumption | (simp [*, go_sem])
        clear hK K
        try simp only [Act.put, List.setIfInBounds_toArray, List.set_cons_zero, List.set_cons_succ]
        refine wpAnyH_ready (rs := [6]) (by kernel_rfl) (by simp) ?_
        refine AllReadyH.cons (by simp only [List.getElem?_toArray, List.getElem?_cons_succ, List.getElem?_cons_zero]; exact rfl) (fun K hK => ?_) AllReadyH.nil
        obtain ⟨p1, p2, p3, p4⟩ := own_cell hown
        go_simp
        have hge := hown.ge ab rfl
        have b0_s := (World.cell?_of_block (a := ⟨w.heap.size, 0, none⟩) (Below.heap_setCell wz ⟨ab, 0, none⟩ (.slice ua r0.length uc) _ (by have h9 : w.heap.size < w2.heap.size := cell_lt b0_2; first | omega | (simp; omega)))).trans b0_z
        have b1_s := (World.cell?_of_block (a := ⟨w.heap.size + 1, 0, none⟩) (Below.heap_setCell wz ⟨ab, 0, none⟩ (.slice ua r0.length uc) _ (by have h9 : w.heap.size + 1 < w2.heap.size := cell_lt b1_2; first | omega | (simp; omega)))).trans b1_z
        have hlt := (hown.lt ab rfl).2
        have hqS : Below w2.heap.size w2 (wz.setCell ⟨ab, 0, none⟩ (.slice ua r0.length uc)) := hqz.setCell (by simpa using hge) _
        have hcl := (own_cell (own_set hown (.slice ua r0.length uc))).1
        have hrS : SlR (fun b => b < (wz.setCell ⟨ab, 0, none⟩ (.slice ua r0.length uc)).heap.size) (wz.setCell ⟨ab, 0, none⟩ (.slice ua r0.length uc)) (.slice ua r0.length uc) r0 := (hres.keep (w' := (wz.setCell ⟨ab, 0, none⟩ (.slice ua r0.length uc))) (fun b hb => Below.heap_setCell _ _ _ _ (by have := hb.1; simpa using this))).weak (fun b hb => by have := hb.2; simpa using this)
        try dsimp only
        refine hK.out _ _ ?h32 (fun hHeld => ?_)
        case h32 => first | exact ⟨‹_›, ‹_›⟩ | assumption | (simp [*, go_sem])
        clear hK K
        try simp only [Act.put, List.setIfInBounds_toArray, List.set_cons_zero, List.set_cons_succ]
        refine wpAnyH_done (by kernel_rfl) ?_ _
        exact rest x0z x1z ua uc ab _ ⟨hqS, hge, by simpa using hlt, hcl, hrS⟩
    case b11_5 =>
      go_simp
      have hby : Below wz.heap.size wz (wz.alloc (.cells #[.slice none 0 0] 32)) := (Below.refl _ _).alloc (Nat.le_refl _) _
      have hown := own_new wz w2.heap.size 32 (.slice none 0 0) hqz.size
      try (replace hres := (hres.below hby (Nat.le_refl _)).weak (S' := fun b => b ≠ wz.heap.size ∧ b < (wz.alloc (.cells #[.slice none 0 0] 32)).heap.size) (fun b hb => ⟨by omega, by simp; omega⟩))
      replace hqz := hqz.trans (hby.mono hqz.size)
      replace b0_z := (hby.cell (p := ⟨w.heap.size, 0, none⟩) (cell_lt b0_z)).trans b0_z
      replace b1_z := (hby.cell (p := ⟨w.heap.size + 1, 0, none⟩) (cell_lt b1_z)).trans b1_z
      try (replace y0z := y0z.below hby (Nat.le_refl _))
      try (replace y1z := y1z.below hby (Nat.le_refl _))
      clear hby
      generalize (wz.alloc (.cells #[.slice none 0 0] 32)) = wy at *
      generalize wz.heap.size = ab at *
      obtain ⟨wz, rfl⟩ : ∃ wx : World, wx = wy := ⟨_, rfl⟩
      try dsimp only
      refine hK.out _ _ ?h33 (fun hHeld => ?_)
      case h33 => first | exact ⟨‹_›, ‹_›⟩ | assumption | (simp [*, go_sem])
      clear hK K
      try simp only [Act.put, List.setIfInBounds_toArray, List.set_cons_zero, List.set_cons_succ]
      refine wpAnyH_ready (rs := [1]) (by kernel_rfl) (by simp) ?_
      refine AllReadyH.cons (by simp only [List.getElem?_toArray, List.getElem?_cons_succ, List.getElem?_cons_zero]; exact rfl) (fun K hK => ?_) AllReadyH.nil
      go_simp
      refine (toGraph_any _ _ _ (hv0.below (q2.trans (hqz.mono q2.size)) (Nat.le_refl _)) hsm0).mono ?_
      rintro e wy ⟨x0z, rfl, y0z, hby⟩
      replace hqz := hqz.trans (hby.mono hqz.size)
      replace b0_z := (hby.cell (p := ⟨w.heap.size, 0, none⟩) (cell_lt b0_z)).trans b0_z
      replace b1_z := (hby.cell (p := ⟨w.heap.size + 1, 0, none⟩) (cell_lt b1_z)).trans b1_z
      try (replace y1z := y1z.below hby (Nat.le_refl _))
      try (replace hown := hown.below hby (Nat.le_refl _))
      clear hby
      obtain ⟨wz, rfl⟩ : ∃ wx : World, wx = wy := ⟨_, rfl⟩
      try dsimp only
      refine hK.out _ _ ?h35 (fun hHeld => ?_)
      case h35 => first | exact ⟨‹_›, ‹_›⟩ | assumption | (simp [*, go_sem])
      clear hK K
      try simp only [Act.put, List.setIfInBounds_toArray, List.set_cons_zero, List.set_cons_succ]
      refine wpAnyH_ready (rs := [3]) (by kernel_rfl) (by simp) ?_
      refine AllReadyH.cons (by simp only [List.getElem?_toArray, List.getElem?_cons_succ, List.getElem?_cons_zero]; exact rfl) (fun K hK => ?_) AllReadyH.nil
      go_simp
      refine (toAround_any _ _ _ (hv1.below (q2.trans (hqz.mono q2.size)) (Nat.le_refl _)) hsm1).mono ?_
      rintro e wy ⟨x1z, rfl, y1z, hby⟩
      replace hqz := hqz.trans (hby.mono hqz.size)
      replace b0_z := (hby.cell (p := ⟨w.heap.size, 0, none⟩) (cell_lt b0_z)).trans b0_z
      replace b1_z := (hby.cell (p := ⟨w.heap.size + 1, 0, none⟩) (cell_lt b1_z)).trans b1_z
      try (replace y0z := y0z.below hby (Nat.le_refl _))
      try (replace hown := hown.below hby (Nat.le_refl _))
      clear hby
      obtain ⟨wz, rfl⟩ : ∃ wx : World, wx = wy := ⟨_, rfl⟩
      try dsimp only
      refine hK.out _ _ ?h37 (fun hHeld => ?_)
      case h37 => first | exact ⟨‹_›, ‹_›⟩ | assumption | (simp [*, go_sem])
      clear hK K
      try simp only [Act.put, List.setIfInBounds_toArray, List.set_cons_zero, List.set_cons_succ]
      refine wpAnyH_ready (rs := [4]) (by kernel_rfl) (by simp) ?_
      refine AllReadyH.cons (by simp only [List.getElem?_toArray, List.getElem?_cons_succ, List.getElem?_cons_zero]; exact rfl) (fun K hK => ?_) AllReadyH.nil
      go_simp
      refine (hS y0z y1z).mono ?_
      rintro e wy ⟨u0, rfl, hres, hby⟩
      try (replace hres := hres.weak (S' := fun b => b ≠ ab ∧ b < wy.heap.size) (fun b hb => ⟨by have := (hown.lt ab rfl).2; omega, hb.2⟩))
      obtain ⟨ua, uc, rfl⟩ := hres.slice
      replace hqz := hqz.trans (hby.mono hqz.size)
      replace b0_z := (hby.cell (p := ⟨w.heap.size, 0, none⟩) (cell_lt b0_z)).trans b0_z
      replace b1_z := (hby.cell (p := ⟨w.heap.size + 1, 0, none⟩) (cell_lt b1_z)).trans b1_z
      try (replace hown := hown.below hby (Nat.le_refl _))
      try (replace hsz := Nat.le_trans hsz hby.size)
      clear hby
      obtain ⟨wz, rfl⟩ : ∃ wx : World, wx = wy := ⟨_, rfl⟩
      try dsimp only
      refine hK.out _ _ ?h39 (fun hHeld => ?_)
      case h39 => first | exact ⟨‹_›, ‹_›⟩ | assumption | (simp [*, go_sem])
      clear hK K
      try simp only [Act.put, List.setIfInBounds_toArray, List.set_cons_zero, List.set_cons_succ]
      refine wpAnyH_ready (rs := [6]) (by kernel_rfl) (by simp) ?_
      refine AllReadyH.cons (by simp only [List.getElem?_toArray, List.getElem?_cons_succ, List.getElem?_cons_zero]; exact rfl) (fun K hK => ?_) AllReadyH.nil
      obtain ⟨p1, p2, p3, p4⟩ := own_cell hown
      go_simp
      have hge := hown.ge ab rfl
      have b0_s := (World.cell?_of_block (a := ⟨w.heap.size, 0, none⟩) (Below.heap_setCell wz ⟨ab, 0, none⟩ (.slice ua r0.length uc) _ (by have h9 : w.heap.size < w2.heap.size := cell_lt b0_2; first | omega | (simp; omega)))).trans b0_z
      have b1_s := (World.cell?_of_block (a := ⟨w.heap.size + 1, 0, none⟩) (Below.heap_setCell wz ⟨ab, 0, none⟩ (.slice ua r0.length uc) _ (by have h9 : w.heap.size + 1 < w2.heap.size := cell_lt b1_2; first | omega | (simp; omega)))).trans b1_z
      have hlt := (hown.lt ab rfl).2
      have hqS : Below w2.heap.size w2 (wz.setCell ⟨ab, 0, none⟩ (.slice ua r0.length uc)) := hqz.setCell (by simpa using hge) _
      have hcl := (own_cell (own_set hown (.slice ua r0.length uc))).1
      have hrS : SlR (fun b => b < (wz.setCell ⟨ab, 0, none⟩ (.slice ua r0.length uc)).heap.size) (wz.setCell ⟨ab, 0, none⟩ (.slice ua r0.length uc)) (.slice ua r0.length uc) r0 := (hres.keep (w' := (wz.setCell ⟨ab, 0, none⟩ (.slice ua r0.length uc))) (fun b hb => Below.heap_setCell _ _ _ _ (by have := hb.1; simpa using this))).weak (fun b hb => by have := hb.2; simpa using this)
      try dsimp only
      refine hK.out _ _ ?h41 (fun hHeld => ?_)
      case h41 => first | exact ⟨‹_›, ‹_›⟩ | assumption | (simp [*, go_sem])
      clear hK K
      try simp only [Act.put, List.setIfInBounds_toArray, List.set_cons_zero, List.set_cons_succ]
      refine wpAnyH_done (by kernel_rfl) ?_ _
      exact rest x0z x1z ua uc ab _ ⟨hqS, hge, by simpa using hlt, hcl, hrS⟩
  case' rest =>
    intro xz3_0 xz3_1 w0a0 w0c0 ab3 w3 ⟨hb3, hge3, hlt3, l3_3, w0_0_3⟩
  have q3 := q2.trans (hb3.mono q2.size)
  have z3 := hb3.size
  have b0_3 : w3.cell? ⟨w.heap.size, 0, none⟩ = some (.slice a0 g0.length c0) := (hb3.cell (p := ⟨w.heap.size, 0, none⟩) (cell_lt b0_2)).trans b0_2
  have b1_3 : w3.cell? ⟨w.heap.size + 1, 0, none⟩ = some (.slice a1 rr1.length c1) := (hb3.cell (p := ⟨w.heap.size + 1, 0, none⟩) (cell_lt b1_2)).trans b1_2
  go_wp2_with fail
  refine (toGraphR_any (hv0.below q3 (Nat.le_refl _)) hsm0).mono ?_
  rintro e w4 ⟨x4, rfl, y4_4, hb4⟩
  have q4 := q3.trans (hb4.mono q3.size)
  have z4 := hb4.size
  have b0_4 : w4.cell? ⟨w.heap.size, 0, none⟩ = some (.slice a0 g0.length c0) := (hb4.cell (p := ⟨w.heap.size, 0, none⟩) (cell_lt b0_3)).trans b0_3
  have b1_4 : w4.cell? ⟨w.heap.size + 1, 0, none⟩ = some (.slice a1 rr1.length c1) := (hb4.cell (p := ⟨w.heap.size + 1, 0, none⟩) (cell_lt b1_3)).trans b1_3
  have l3_4 : w4.cell? ⟨ab3, 0, none⟩ = some (.slice w0a0 r0.length w0c0) := (hb4.cell (p := ⟨ab3, 0, none⟩) (cell_lt l3_3)).trans l3_3
  have w0_0_4 := w0_0_3.below hb4 (Nat.le_refl _)
  obtain ⟨xa4, xc4, rfl⟩ := y4_4.isSlice
  have hb5 : Below w4.heap.size w4 (w4.alloc (.cells #[.slice xa4 g0.length xc4] 30)) := (Below.refl _ _).alloc (Nat.le_refl _) _
  obtain ⟨w5, ew5⟩ : ∃ x, x = (w4.alloc (.cells #[.slice xa4 g0.length xc4] 30)) := ⟨_, rfl⟩
  rw [← ew5] at hb5
  have l5_5 : w5.cell? ⟨w4.heap.size, 0, none⟩ = some (.slice xa4 g0.length xc4) := by rw [ew5]; simp [go_sem]
  have zz5 : w5.heap.size = w4.heap.size + 1 := by rw [ew5]; simp
  have q5 := q4.trans (hb5.mono q4.size)
  have z5 := hb5.size
  have b0_5 : w5.cell? ⟨w.heap.size, 0, none⟩ = some (.slice a0 g0.length c0) := (hb5.cell (p := ⟨w.heap.size, 0, none⟩) (cell_lt b0_4)).trans b0_4
  have b1_5 : w5.cell? ⟨w.heap.size + 1, 0, none⟩ = some (.slice a1 rr1.length c1) := (hb5.cell (p := ⟨w.heap.size + 1, 0, none⟩) (cell_lt b1_4)).trans b1_4
  have l3_5 : w5.cell? ⟨ab3, 0, none⟩ = some (.slice w0a0 r0.length w0c0) := (hb5.cell (p := ⟨ab3, 0, none⟩) (cell_lt l3_4)).trans l3_4
  have w0_0_5 := w0_0_4.below hb5 (Nat.le_refl _)
  have y4_5 := y4_4.below hb5 (Nat.le_refl _)
  have b0_5e : (w4.alloc (.cells #[.slice xa4 g0.length xc4] 30)).cell? ⟨w.heap.size, 0, none⟩ = some (.slice a0 g0.length c0) := by rw [← ew5]; exact b0_5
  have b1_5e : (w4.alloc (.cells #[.slice xa4 g0.length xc4] 30)).cell? ⟨w.heap.size + 1, 0, none⟩ = some (.slice a1 rr1.length c1) := by rw [← ew5]; exact b1_5
  have l3_5e : (w4.alloc (.cells #[.slice xa4 g0.length xc4] 30)).cell? ⟨ab3, 0, none⟩ = some (.slice w0a0 r0.length w0c0) := by rw [← ew5]; exact l3_5
  have l5_5e : (w4.alloc (.cells #[.slice xa4 g0.length xc4] 30)).cell? ⟨w4.heap.size, 0, none⟩ = some (.slice xa4 g0.length xc4) := by rw [← ew5]; exact l5_5
  go_wp2_with fail
  rw [← ew5]
  refine (toAroundR_any (hv1.below q5 (Nat.le_refl _)) hsm1).mono ?_
  rintro e w6 ⟨x6, rfl, y6_6, hb6⟩
  have q6 := q5.trans (hb6.mono q5.size)
  have z6 := hb6.size
  have b0_6 : w6.cell? ⟨w.heap.size, 0, none⟩ = some (.slice a0 g0.length c0) := (hb6.cell (p := ⟨w.heap.size, 0, none⟩) (cell_lt b0_5)).trans b0_5
  have b1_6 : w6.cell? ⟨w.heap.size + 1, 0, none⟩ = some (.slice a1 rr1.length c1) := (hb6.cell (p := ⟨w.heap.size + 1, 0, none⟩) (cell_lt b1_5)).trans b1_5
  have l3_6 : w6.cell? ⟨ab3, 0, none⟩ = some (.slice w0a0 r0.length w0c0) := (hb6.cell (p := ⟨ab3, 0, none⟩) (cell_lt l3_5)).trans l3_5
  have l5_6 : w6.cell? ⟨w4.heap.size, 0, none⟩ = some (.slice xa4 g0.length xc4) := (hb6.cell (p := ⟨w4.heap.size, 0, none⟩) (cell_lt l5_5)).trans l5_5
  have w0_0_6 := w0_0_5.below hb6 (Nat.le_refl _)
  have y4_6 := y4_5.below hb6 (Nat.le_refl _)
  obtain ⟨xa6, xc6, rfl⟩ := y6_6.isSlice
  have hb7 : Below w6.heap.size w6 (w6.alloc (.cells #[.slice xa6 rr1.length xc6] 32)) := (Below.refl _ _).alloc (Nat.le_refl _) _
  obtain ⟨w7, ew7⟩ : ∃ x, x = (w6.alloc (.cells #[.slice xa6 rr1.length xc6] 32)) := ⟨_, rfl⟩
  rw [← ew7] at hb7
  have l7_7 : w7.cell? ⟨w6.heap.size, 0, none⟩ = some (.slice xa6 rr1.length xc6) := by rw [ew7]; simp [go_sem]
  have zz7 : w7.heap.size = w6.heap.size + 1 := by rw [ew7]; simp
  have q7 := q6.trans (hb7.mono q6.size)
  have z7 := hb7.size
  have b0_7 : w7.cell? ⟨w.heap.size, 0, none⟩ = some (.slice a0 g0.length c0) := (hb7.cell (p := ⟨w.heap.size, 0, none⟩) (cell_lt b0_6)).trans b0_6
  have b1_7 : w7.cell? ⟨w.heap.size + 1, 0, none⟩ = some (.slice a1 rr1.length c1) := (hb7.cell (p := ⟨w.heap.size + 1, 0, none⟩) (cell_lt b1_6)).trans b1_6
  have l3_7 : w7.cell? ⟨ab3, 0, none⟩ = some (.slice w0a0 r0.length w0c0) := (hb7.cell (p := ⟨ab3, 0, none⟩) (cell_lt l3_6)).trans l3_6
  have l5_7 : w7.cell? ⟨w4.heap.size, 0, none⟩ = some (.slice xa4 g0.length xc4) := (hb7.cell (p := ⟨w4.heap.size, 0, none⟩) (cell_lt l5_6)).trans l5_6
  have w0_0_7 := w0_0_6.below hb7 (Nat.le_refl _)
  have y4_7 := y4_6.below hb7 (Nat.le_refl _)
  have y6_7 := y6_6.below hb7 (Nat.le_refl _)
  have b0_7e : (w6.alloc (.cells #[.slice xa6 rr1.length xc6] 32)).cell? ⟨w.heap.size, 0, none⟩ = some (.slice a0 g0.length c0) := by rw [← ew7]; exact b0_7
  have b1_7e : (w6.alloc (.cells #[.slice xa6 rr1.length xc6] 32)).cell? ⟨w.heap.size + 1, 0, none⟩ = some (.slice a1 rr1.length c1) := by rw [← ew7]; exact b1_7
  have l3_7e : (w6.alloc (.cells #[.slice xa6 rr1.length xc6] 32)).cell? ⟨ab3, 0, none⟩ = some (.slice w0a0 r0.length w0c0) := by rw [← ew7]; exact l3_7
  have l5_7e : (w6.alloc (.cells #[.slice xa6 rr1.length xc6] 32)).cell? ⟨w4.heap.size, 0, none⟩ = some (.slice xa4 g0.length xc4) := by rw [← ew7]; exact l5_7
  have l7_7e : (w6.alloc (.cells #[.slice xa6 rr1.length xc6] 32)).cell? ⟨w6.heap.size, 0, none⟩ = some (.slice xa6 rr1.length xc6) := by rw [← ew7]; exact l7_7
  go_wp2_with fail
  rw [← ew7]
  refine (hI (y4_7.rows hsm0) (y6_7.rows hsm1)).mono ?_
  rintro e w8 ⟨g0u0, rfl, g0_0_8, hb8⟩
  have q8 := q7.trans (hb8.mono q7.size)
  have z8 := hb8.size
  have b0_8 : w8.cell? ⟨w.heap.size, 0, none⟩ = some (.slice a0 g0.length c0) := (hb8.cell (p := ⟨w.heap.size, 0, none⟩) (cell_lt b0_7)).trans b0_7
  have b1_8 : w8.cell? ⟨w.heap.size + 1, 0, none⟩ = some (.slice a1 rr1.length c1) := (hb8.cell (p := ⟨w.heap.size + 1, 0, none⟩) (cell_lt b1_7)).trans b1_7
  have l3_8 : w8.cell? ⟨ab3, 0, none⟩ = some (.slice w0a0 r0.length w0c0) := (hb8.cell (p := ⟨ab3, 0, none⟩) (cell_lt l3_7)).trans l3_7
  have l5_8 : w8.cell? ⟨w4.heap.size, 0, none⟩ = some (.slice xa4 g0.length xc4) := (hb8.cell (p := ⟨w4.heap.size, 0, none⟩) (cell_lt l5_7)).trans l5_7
  have l7_8 : w8.cell? ⟨w6.heap.size, 0, none⟩ = some (.slice xa6 rr1.length xc6) := (hb8.cell (p := ⟨w6.heap.size, 0, none⟩) (cell_lt l7_7)).trans l7_7
  have w0_0_8 := w0_0_7.below hb8 (Nat.le_refl _)
  have y4_8 := y4_7.below hb8 (Nat.le_refl _)
  have y6_8 := y6_7.below hb8 (Nat.le_refl _)
  obtain ⟨g0a0, g0c0, rfl⟩ := g0_0_8.isSlice
  have hb9 : Below w8.heap.size w8 (w8.alloc (.cells #[.slice g0a0 r0.length g0c0] 32)) := (Below.refl _ _).alloc (Nat.le_refl _) _
  obtain ⟨w9, ew9⟩ : ∃ x, x = (w8.alloc (.cells #[.slice g0a0 r0.length g0c0] 32)) := ⟨_, rfl⟩
  rw [← ew9] at hb9
  have l9_9 : w9.cell? ⟨w8.heap.size, 0, none⟩ = some (.slice g0a0 r0.length g0c0) := by rw [ew9]; simp [go_sem]
  have zz9 : w9.heap.size = w8.heap.size + 1 := by rw [ew9]; simp
  have q9 := q8.trans (hb9.mono q8.size)
  have z9 := hb9.size
  have b0_9 : w9.cell? ⟨w.heap.size, 0, none⟩ = some (.slice a0 g0.length c0) := (hb9.cell (p := ⟨w.heap.size, 0, none⟩) (cell_lt b0_8)).trans b0_8
  have b1_9 : w9.cell? ⟨w.heap.size + 1, 0, none⟩ = some (.slice a1 rr1.length c1) := (hb9.cell (p := ⟨w.heap.size + 1, 0, none⟩) (cell_lt b1_8)).trans b1_8
  have l3_9 : w9.cell? ⟨ab3, 0, none⟩ = some (.slice w0a0 r0.length w0c0) := (hb9.cell (p := ⟨ab3, 0, none⟩) (cell_lt l3_8)).trans l3_8
  have l5_9 : w9.cell? ⟨w4.heap.size, 0, none⟩ = some (.slice xa4 g0.length xc4) := (hb9.cell (p := ⟨w4.heap.size, 0, none⟩) (cell_lt l5_8)).trans l5_8
  have l7_9 : w9.cell? ⟨w6.heap.size, 0, none⟩ = some (.slice xa6 rr1.length xc6) := (hb9.cell (p := ⟨w6.heap.size, 0, none⟩) (cell_lt l7_8)).trans l7_8
  have w0_0_9 := w0_0_8.below hb9 (Nat.le_refl _)
  have y4_9 := y4_8.below hb9 (Nat.le_refl _)
  have y6_9 := y6_8.below hb9 (Nat.le_refl _)
  have g0_0_9 := g0_0_8.below hb9 (Nat.le_refl _)
  have b0_9e : (w8.alloc (.cells #[.slice g0a0 r0.length g0c0] 32)).cell? ⟨w.heap.size, 0, none⟩ = some (.slice a0 g0.length c0) := by rw [← ew9]; exact b0_9
  have b1_9e : (w8.alloc (.cells #[.slice g0a0 r0.length g0c0] 32)).cell? ⟨w.heap.size + 1, 0, none⟩ = some (.slice a1 rr1.length c1) := by rw [← ew9]; exact b1_9
  have l3_9e : (w8.alloc (.cells #[.slice g0a0 r0.length g0c0] 32)).cell? ⟨ab3, 0, none⟩ = some (.slice w0a0 r0.length w0c0) := by rw [← ew9]; exact l3_9
  have l5_9e : (w8.alloc (.cells #[.slice g0a0 r0.length g0c0] 32)).cell? ⟨w4.heap.size, 0, none⟩ = some (.slice xa4 g0.length xc4) := by rw [← ew9]; exact l5_9
  have l7_9e : (w8.alloc (.cells #[.slice g0a0 r0.length g0c0] 32)).cell? ⟨w6.heap.size, 0, none⟩ = some (.slice xa6 rr1.length xc6) := by rw [← ew9]; exact l7_9
  have l9_9e : (w8.alloc (.cells #[.slice g0a0 r0.length g0c0] 32)).cell? ⟨w8.heap.size, 0, none⟩ = some (.slice g0a0 r0.length g0c0) := by rw [← ew9]; exact l9_9
  go_wp2_with fail
  rw [← ew9]
  refine (eqAround_same (g0_0_9.rows hN0) w0_0_9).mono ?_
  rintro e w10 ⟨rfl, hb10⟩
  have q10 := q9.trans (hb10.mono q9.size)
  have z10 := hb10.size
  have b0_10 : w10.cell? ⟨w.heap.size, 0, none⟩ = some (.slice a0 g0.length c0) := (hb10.cell (p := ⟨w.heap.size, 0, none⟩) (cell_lt b0_9)).trans b0_9
  have b1_10 : w10.cell? ⟨w.heap.size + 1, 0, none⟩ = some (.slice a1 rr1.length c1) := (hb10.cell (p := ⟨w.heap.size + 1, 0, none⟩) (cell_lt b1_9)).trans b1_9
  have l3_10 : w10.cell? ⟨ab3, 0, none⟩ = some (.slice w0a0 r0.length w0c0) := (hb10.cell (p := ⟨ab3, 0, none⟩) (cell_lt l3_9)).trans l3_9
  have l5_10 : w10.cell? ⟨w4.heap.size, 0, none⟩ = some (.slice xa4 g0.length xc4) := (hb10.cell (p := ⟨w4.heap.size, 0, none⟩) (cell_lt l5_9)).trans l5_9
  have l7_10 : w10.cell? ⟨w6.heap.size, 0, none⟩ = some (.slice xa6 rr1.length xc6) := (hb10.cell (p := ⟨w6.heap.size, 0, none⟩) (cell_lt l7_9)).trans l7_9
  have l9_10 : w10.cell? ⟨w8.heap.size, 0, none⟩ = some (.slice g0a0 r0.length g0c0) := (hb10.cell (p := ⟨w8.heap.size, 0, none⟩) (cell_lt l9_9)).trans l9_9
  have w0_0_10 := w0_0_9.below hb10 (Nat.le_refl _)
  have y4_10 := y4_9.below hb10 (Nat.le_refl _)
  have y6_10 := y6_9.below hb10 (Nat.le_refl _)
  have g0_0_10 := g0_0_9.below hb10 (Nat.le_refl _)
  go_wp2
  refine wp_region_held_drew (S := (fun w' => w'.cell? ⟨w.heap.size, 0, none⟩ = some (.slice a0 g0.length c0) ∧ w'.cell? ⟨w.heap.size + 1, 0, none⟩ = some (.slice a1 rr1.length c1) ∧ w'.cell? ⟨ab3, 0, none⟩ = some (.slice w0a0 r0.length w0c0) ∧ w'.cell? ⟨w4.heap.size, 0, none⟩ = some (.slice xa4 g0.length xc4) ∧ w'.cell? ⟨w6.heap.size, 0, none⟩ = some (.slice xa6 rr1.length xc6) ∧ w'.cell? ⟨w8.heap.size, 0, none⟩ = some (.slice g0a0 r0.length g0c0))) (by kernel_rfl) ?_ (fun hHeld => ?_)
  · first | exact ⟨‹_›, ‹_›, ‹_›, ‹_›, ‹_›, ‹_›⟩ | assumption | (simp [*, go_sem])
  refine wpAnyH_take (i := 0) (v := ?v42) (by simp only [List.getElem?_toArray, List.getElem?_cons_zero]; exact rfl) (by kernel_rfl) (by kernel_rfl) (by kernel_rfl) (by intro _ _ _ h; exact h) (Or.inl ⟨by rfl, ?y42⟩) hHeld ?_
  case y42 => (intro w hSw; (try dsimp only at hSw); go_simp; try (with_reducible rfl))
  try simp only [Act.put, List.setIfInBounds_toArray, List.set_cons_zero, List.set_cons_succ]
  refine wpAnyH_take (i := 1) (v := ?v43) (by simp only [List.getElem?_toArray, List.getElem?_cons_succ, List.getElem?_cons_zero]; exact rfl) (by kernel_rfl) (by kernel_rfl) (by kernel_rfl) (by intro _ _ _ h; exact h) (Or.inl ⟨by rfl, ?y43⟩) hHeld ?_
  case y43 => (intro w hSw; (try dsimp only at hSw); go_simp; try (with_reducible rfl))
  try simp only [Act.put, List.setIfInBounds_toArray, List.set_cons_zero, List.set_cons_succ]
  refine wpAnyH_ready (rs := [2]) (by kernel_rfl) (by simp) ?_
  refine AllReadyH.cons (by simp only [List.getElem?_toArray, List.getElem?_cons_succ, List.getElem?_cons_zero]; exact rfl) (fun K hK => ?_) AllReadyH.nil
  go_simp
  have q10d := q10.drew
  have w0_0_10k := w0_0_10
  have w0_0_10 := w0_0_10.below ((Below.refl w10.heap.size w10).drew) (Nat.le_refl _)
  have y4_10k := y4_10
  have y4_10 := y4_10.below ((Below.refl w10.heap.size w10).drew) (Nat.le_refl _)
  have y6_10k := y6_10
  have y6_10 := y6_10.below ((Below.refl w10.heap.size w10).drew) (Nat.le_refl _)
  have g0_0_10k := g0_0_10
  have g0_0_10 := g0_0_10.below ((Below.refl w10.heap.size w10).drew) (Nat.le_refl _)
  refine (toGraph_any _ _ _ (hv0.below q10d (Nat.le_refl _)) hsm0).mono ?_
  rintro e w11 ⟨x11, rfl, y11_11, hb11⟩
  replace hb11 : Below w10.heap.size w10 w11 := ⟨hb11.os, hb11.tape, hb11.output, hb11.size, hb11.block⟩
  replace w0_0_10 := w0_0_10k
  replace y4_10 := y4_10k
  replace y6_10 := y6_10k
  replace g0_0_10 := g0_0_10k
  have q11 := q10.trans (hb11.mono q10.size)
  have z11 := hb11.size
  have b0_11 : w11.cell? ⟨w.heap.size, 0, none⟩ = some (.slice a0 g0.length c0) := (hb11.cell (p := ⟨w.heap.size, 0, none⟩) (cell_lt b0_10)).trans b0_10
  have b1_11 : w11.cell? ⟨w.heap.size + 1, 0, none⟩ = some (.slice a1 rr1.length c1) := (hb11.cell (p := ⟨w.heap.size + 1, 0, none⟩) (cell_lt b1_10)).trans b1_10
  have l3_11 : w11.cell? ⟨ab3, 0, none⟩ = some (.slice w0a0 r0.length w0c0) := (hb11.cell (p := ⟨ab3, 0, none⟩) (cell_lt l3_10)).trans l3_10
  have l5_11 : w11.cell? ⟨w4.heap.size, 0, none⟩ = some (.slice xa4 g0.length xc4) := (hb11.cell (p := ⟨w4.heap.size, 0, none⟩) (cell_lt l5_10)).trans l5_10
  have l7_11 : w11.cell? ⟨w6.heap.size, 0, none⟩ = some (.slice xa6 rr1.length xc6) := (hb11.cell (p := ⟨w6.heap.size, 0, none⟩) (cell_lt l7_10)).trans l7_10
  have l9_11 : w11.cell? ⟨w8.heap.size, 0, none⟩ = some (.slice g0a0 r0.length g0c0) := (hb11.cell (p := ⟨w8.heap.size, 0, none⟩) (cell_lt l9_10)).trans l9_10
  have w0_0_11 := w0_0_10.below hb11 (Nat.le_refl _)
  have y4_11 := y4_10.below hb11 (Nat.le_refl _)
  have y6_11 := y6_10.below hb11 (Nat.le_refl _)
  have g0_0_11 := g0_0_10.below hb11 (Nat.le_refl _)
  try dsimp only
  refine hK.out _ _ ?h45 (fun hHeld => ?_)
  case h45 => first | exact ⟨‹_›, ‹_›, ‹_›, ‹_›, ‹_›, ‹_›⟩ | assumption | (simp [*, go_sem])
  clear hK K
  try simp only [Act.put, List.setIfInBounds_toArray, List.set_cons_zero, List.set_cons_succ]
  refine wpAnyH_ready (rs := [3]) (by kernel_rfl) (by simp) ?_
  refine AllReadyH.cons (by simp only [List.getElem?_toArray, List.getElem?_cons_succ, List.getElem?_cons_zero]; exact rfl) (fun K hK => ?_) AllReadyH.nil
  go_simp
  refine (eqG_same (y4_11.rows hsm0) y11_11).mono ?_
  rintro e w12 ⟨rfl, hb12⟩
  have q12 := q11.trans (hb12.mono q11.size)
  have z12 := hb12.size
  have b0_12 : w12.cell? ⟨w.heap.size, 0, none⟩ = some (.slice a0 g0.length c0) := (hb12.cell (p := ⟨w.heap.size, 0, none⟩) (cell_lt b0_11)).trans b0_11
  have b1_12 : w12.cell? ⟨w.heap.size + 1, 0, none⟩ = some (.slice a1 rr1.length c1) := (hb12.cell (p := ⟨w.heap.size + 1, 0, none⟩) (cell_lt b1_11)).trans b1_11
  have l3_12 : w12.cell? ⟨ab3, 0, none⟩ = some (.slice w0a0 r0.length w0c0) := (hb12.cell (p := ⟨ab3, 0, none⟩) (cell_lt l3_11)).trans l3_11
  have l5_12 : w12.cell? ⟨w4.heap.size, 0, none⟩ = some (.slice xa4 g0.length xc4) := (hb12.cell (p := ⟨w4.heap.size, 0, none⟩) (cell_lt l5_11)).trans l5_11
  have l7_12 : w12.cell? ⟨w6.heap.size, 0, none⟩ = some (.slice xa6 rr1.length xc6) := (hb12.cell (p := ⟨w6.heap.size, 0, none⟩) (cell_lt l7_11)).trans l7_11
  have l9_12 : w12.cell? ⟨w8.heap.size, 0, none⟩ = some (.slice g0a0 r0.length g0c0) := (hb12.cell (p := ⟨w8.heap.size, 0, none⟩) (cell_lt l9_11)).trans l9_11
  have w0_0_12 := w0_0_11.below hb12 (Nat.le_refl _)
  have y4_12 := y4_11.below hb12 (Nat.le_refl _)
  have y6_12 := y6_11.below hb12 (Nat.le_refl _)
  have g0_0_12 := g0_0_11.below hb12 (Nat.le_refl _)
  have y11_12 := y11_11.below hb12 (Nat.le_refl _)
  try dsimp only
  refine hK.out _ _ ?h47 (fun hHeld => ?_)
  case h47 => first | exact ⟨‹_›, ‹_›, ‹_›, ‹_›, ‹_›, ‹_›⟩ | assumption | (simp [*, go_sem])
  clear hK K
  try simp only [Act.put, List.setIfInBounds_toArray, List.set_cons_zero, List.set_cons_succ]
  refine wpAnyH_take (i := 4) (v := ?v48) (by simp only [List.getElem?_toArray, List.getElem?_cons_succ, List.getElem?_cons_zero]; exact rfl) (by kernel_rfl) (by kernel_rfl) (by kernel_rfl) (by intro _ _ _ h; exact h) (Or.inl ⟨by rfl, ?y48⟩) hHeld ?_
  case y48 => (intro w hSw; (try dsimp only at hSw); go_simp; try (with_reducible rfl))
  try simp only [Act.put, List.setIfInBounds_toArray, List.set_cons_zero, List.set_cons_succ]
  refine wpAnyH_done (by kernel_rfl) ?_ _
  go_wp2
  refine wp_region_held_drew (S := (fun w' => w'.cell? ⟨w.heap.size, 0, none⟩ = some (.slice a0 g0.length c0) ∧ w'.cell? ⟨w.heap.size + 1, 0, none⟩ = some (.slice a1 rr1.length c1) ∧ w'.cell? ⟨ab3, 0, none⟩ = some (.slice w0a0 r0.length w0c0) ∧ w'.cell? ⟨w4.heap.size, 0, none⟩ = some (.slice xa4 g0.length xc4) ∧ w'.cell? ⟨w6.heap.size, 0, none⟩ = some (.slice xa6 rr1.length xc6) ∧ w'.cell? ⟨w8.heap.size, 0, none⟩ = some (.slice g0a0 r0.length g0c0))) (by kernel_rfl) ?_ (fun hHeld => ?_)
  · first | exact ⟨‹_›, ‹_›, ‹_›, ‹_›, ‹_›, ‹_›⟩ | assumption | (simp [*, go_sem])
  refine wpAnyH_take (i := 0) (v := ?v49) (by simp only [List.getElem?_toArray, List.getElem?_cons_zero]; exact rfl) (by kernel_rfl) (by kernel_rfl) (by kernel_rfl) (by intro _ _ _ h; exact h) (Or.inl ⟨by rfl, ?y49⟩) hHeld ?_
  case y49 => (intro w hSw; (try dsimp only at hSw); go_simp; try (with_reducible rfl))
  try simp only [Act.put, List.setIfInBounds_toArray, List.set_cons_zero, List.set_cons_succ]
  refine wpAnyH_take (i := 1) (v := ?v50) (by simp only [List.getElem?_toArray, List.getElem?_cons_succ, List.getElem?_cons_zero]; exact rfl) (by kernel_rfl) (by kernel_rfl) (by kernel_rfl) (by intro _ _ _ h; exact h) (Or.inl ⟨by rfl, ?y50⟩) hHeld ?_
  case y50 => (intro w hSw; (try dsimp only at hSw); go_simp; try (with_reducible rfl))
  try simp only [Act.put, List.setIfInBounds_toArray, List.set_cons_zero, List.set_cons_succ]
  refine wpAnyH_ready (rs := [2]) (by kernel_rfl) (by simp) ?_
  refine AllReadyH.cons (by simp only [List.getElem?_toArray, List.getElem?_cons_succ, List.getElem?_cons_zero]; exact rfl) (fun K hK => ?_) AllReadyH.nil
  go_simp
  have q12d := q12.drew
  have w0_0_12k := w0_0_12
  have w0_0_12 := w0_0_12.below ((Below.refl w12.heap.size w12).drew) (Nat.le_refl _)
  have y4_12k := y4_12
  have y4_12 := y4_12.below ((Below.refl w12.heap.size w12).drew) (Nat.le_refl _)
  have y6_12k := y6_12
  have y6_12 := y6_12.below ((Below.refl w12.heap.size w12).drew) (Nat.le_refl _)
  have g0_0_12k := g0_0_12
  have g0_0_12 := g0_0_12.below ((Below.refl w12.heap.size w12).drew) (Nat.le_refl _)
  refine (toAround_any _ _ _ (hv1.below q12d (Nat.le_refl _)) hsm1).mono ?_
  rintro e w13 ⟨x13, rfl, y13_13, hb13⟩
  replace hb13 : Below w12.heap.size w12 w13 := ⟨hb13.os, hb13.tape, hb13.output, hb13.size, hb13.block⟩
  replace w0_0_12 := w0_0_12k
  replace y4_12 := y4_12k
  replace y6_12 := y6_12k
  replace g0_0_12 := g0_0_12k
  have q13 := q12.trans (hb13.mono q12.size)
  have z13 := hb13.size
  have b0_13 : w13.cell? ⟨w.heap.size, 0, none⟩ = some (.slice a0 g0.length c0) := (hb13.cell (p := ⟨w.heap.size, 0, none⟩) (cell_lt b0_12)).trans b0_12
  have b1_13 : w13.cell? ⟨w.heap.size + 1, 0, none⟩ = some (.slice a1 rr1.length c1) := (hb13.cell (p := ⟨w.heap.size + 1, 0, none⟩) (cell_lt b1_12)).trans b1_12
  have l3_13 : w13.cell? ⟨ab3, 0, none⟩ = some (.slice w0a0 r0.length w0c0) := (hb13.cell (p := ⟨ab3, 0, none⟩) (cell_lt l3_12)).trans l3_12
  have l5_13 : w13.cell? ⟨w4.heap.size, 0, none⟩ = some (.slice xa4 g0.length xc4) := (hb13.cell (p := ⟨w4.heap.size, 0, none⟩) (cell_lt l5_12)).trans l5_12
  have l7_13 : w13.cell? ⟨w6.heap.size, 0, none⟩ = some (.slice xa6 rr1.length xc6) := (hb13.cell (p := ⟨w6.heap.size, 0, none⟩) (cell_lt l7_12)).trans l7_12
  have l9_13 : w13.cell? ⟨w8.heap.size, 0, none⟩ = some (.slice g0a0 r0.length g0c0) := (hb13.cell (p := ⟨w8.heap.size, 0, none⟩) (cell_lt l9_12)).trans l9_12
  have w0_0_13 := w0_0_12.below hb13 (Nat.le_refl _)
  have y4_13 := y4_12.below hb13 (Nat.le_refl _)
  have y6_13 := y6_12.below hb13 (Nat.le_refl _)
  have g0_0_13 := g0_0_12.below hb13 (Nat.le_refl _)
  try dsimp only
  refine hK.out _ _ ?h52 (fun hHeld => ?_)
  case h52 => first | exact ⟨‹_›, ‹_›, ‹_›, ‹_›, ‹_›, ‹_›⟩ | assumption | (simp [*, go_sem])
  clear hK K
  try simp only [Act.put, List.setIfInBounds_toArray, List.set_cons_zero, List.set_cons_succ]
  refine wpAnyH_ready (rs := [3]) (by kernel_rfl) (by simp) ?_
  refine AllReadyH.cons (by simp only [List.getElem?_toArray, List.getElem?_cons_succ, List.getElem?_cons_zero]; exact rfl) (fun K hK => ?_) AllReadyH.nil
  go_simp
  refine (eqAround_same (y6_13.rows hsm1) y13_13).mono ?_
  rintro e w14 ⟨rfl, hb14⟩
  have q14 := q13.trans (hb14.mono q13.size)
  have z14 := hb14.size
  have b0_14 : w14.cell? ⟨w.heap.size, 0, none⟩ = some (.slice a0 g0.length c0) := (hb14.cell (p := ⟨w.heap.size, 0, none⟩) (cell_lt b0_13)).trans b0_13
  have b1_14 : w14.cell? ⟨w.heap.size + 1, 0, none⟩ = some (.slice a1 rr1.length c1) := (hb14.cell (p := ⟨w.heap.size + 1, 0, none⟩) (cell_lt b1_13)).trans b1_13
  have l3_14 : w14.cell? ⟨ab3, 0, none⟩ = some (.slice w0a0 r0.length w0c0) := (hb14.cell (p := ⟨ab3, 0, none⟩) (cell_lt l3_13)).trans l3_13
  have l5_14 : w14.cell? ⟨w4.heap.size, 0, none⟩ = some (.slice xa4 g0.length xc4) := (hb14.cell (p := ⟨w4.heap.size, 0, none⟩) (cell_lt l5_13)).trans l5_13
  have l7_14 : w14.cell? ⟨w6.heap.size, 0, none⟩ = some (.slice xa6 rr1.length xc6) := (hb14.cell (p := ⟨w6.heap.size, 0, none⟩) (cell_lt l7_13)).trans l7_13
  have l9_14 : w14.cell? ⟨w8.heap.size, 0, none⟩ = some (.slice g0a0 r0.length g0c0) := (hb14.cell (p := ⟨w8.heap.size, 0, none⟩) (cell_lt l9_13)).trans l9_13
  have w0_0_14 := w0_0_13.below hb14 (Nat.le_refl _)
  have y4_14 := y4_13.below hb14 (Nat.le_refl _)
  have y6_14 := y6_13.below hb14 (Nat.le_refl _)
  have g0_0_14 := g0_0_13.below hb14 (Nat.le_refl _)
  have y13_14 := y13_13.below hb14 (Nat.le_refl _)
  try dsimp only
  refine hK.out _ _ ?h54 (fun hHeld => ?_)
  case h54 => first | exact ⟨‹_›, ‹_›, ‹_›, ‹_›, ‹_›, ‹_›⟩ | assumption | (simp [*, go_sem])
  clear hK K
  try simp only [Act.put, List.setIfInBounds_toArray, List.set_cons_zero, List.set_cons_succ]
  refine wpAnyH_take (i := 4) (v := ?v55) (by simp only [List.getElem?_toArray, List.getElem?_cons_succ, List.getElem?_cons_zero]; exact rfl) (by kernel_rfl) (by kernel_rfl) (by kernel_rfl) (by intro _ _ _ h; exact h) (Or.inl ⟨by rfl, ?y55⟩) hHeld ?_
  case y55 => (intro w hSw; (try dsimp only at hSw); go_simp; try (with_reducible rfl))
  try simp only [Act.put, List.setIfInBounds_toArray, List.set_cons_zero, List.set_cons_succ]
  refine wpAnyH_done (by kernel_rfl) ?_ _
  go_wp2_with fail
  refine (markG_any y4_14 hsm0 (by omega) (by omega) (by omega)).mono ?_
  rintro e w15 ⟨k15, rfl, hk15, hl15, ht15⟩
  have q15 := ht15.below q14 (by have := q14.size; omega) q14.size
  have z15 := ht15.size
  have b0_15 : w15.cell? ⟨w.heap.size, 0, none⟩ = some (.slice a0 g0.length c0) := (ht15.cell (p := ⟨w.heap.size, 0, none⟩) (cell_lt b0_14) (by have : w.heap.size < w14.heap.size := cell_lt b0_14; show w.heap.size < _ ∨ _ ≤ w.heap.size; omega)).trans b0_14
  have b1_15 : w15.cell? ⟨w.heap.size + 1, 0, none⟩ = some (.slice a1 rr1.length c1) := (ht15.cell (p := ⟨w.heap.size + 1, 0, none⟩) (cell_lt b1_14) (by have : w.heap.size + 1 < w14.heap.size := cell_lt b1_14; show w.heap.size + 1 < _ ∨ _ ≤ w.heap.size + 1; omega)).trans b1_14
  have l3_15 : w15.cell? ⟨ab3, 0, none⟩ = some (.slice w0a0 r0.length w0c0) := (ht15.cell (p := ⟨ab3, 0, none⟩) (cell_lt l3_14) (by have : ab3 < w14.heap.size := cell_lt l3_14; show ab3 < _ ∨ _ ≤ ab3; omega)).trans l3_14
  have l5_15 : w15.cell? ⟨w4.heap.size, 0, none⟩ = some (.slice xa4 g0.length xc4) := (ht15.cell (p := ⟨w4.heap.size, 0, none⟩) (cell_lt l5_14) (by have : w4.heap.size < w14.heap.size := cell_lt l5_14; show w4.heap.size < _ ∨ _ ≤ w4.heap.size; omega)).trans l5_14
  have l7_15 : w15.cell? ⟨w6.heap.size, 0, none⟩ = some (.slice xa6 rr1.length xc6) := (ht15.cell (p := ⟨w6.heap.size, 0, none⟩) (cell_lt l7_14) (by have : w6.heap.size < w14.heap.size := cell_lt l7_14; show w6.heap.size < _ ∨ _ ≤ w6.heap.size; omega)).trans l7_14
  have l9_15 : w15.cell? ⟨w8.heap.size, 0, none⟩ = some (.slice g0a0 r0.length g0c0) := (ht15.cell (p := ⟨w8.heap.size, 0, none⟩) (cell_lt l9_14) (by have : w8.heap.size < w14.heap.size := cell_lt l9_14; show w8.heap.size < _ ∨ _ ≤ w8.heap.size; omega)).trans l9_14
  have w0_0_15 := w0_0_14.betweenR ht15 (fun b (hb : b < w3.heap.size) => ⟨by omega, by omega⟩)
  have y6_15 := y6_14.between ht15 (by omega)
  have g0_0_15 := g0_0_14.between ht15 (by omega)
  have hkn15 : ¬ k15 < 0 := by omega
  go_wp2_with fail
  refine (markAround_any y6_15 hsm1 (by omega) (by omega) (by omega)).mono ?_
  rintro e w16 ⟨k16, rfl, hk16, hl16, ht16⟩
  have q16 := ht16.below q15 (by have := q15.size; omega) q15.size
  have z16 := ht16.size
  have b0_16 : w16.cell? ⟨w.heap.size, 0, none⟩ = some (.slice a0 g0.length c0) := (ht16.cell (p := ⟨w.heap.size, 0, none⟩) (cell_lt b0_15) (by have : w.heap.size < w15.heap.size := cell_lt b0_15; show w.heap.size < _ ∨ _ ≤ w.heap.size; omega)).trans b0_15
  have b1_16 : w16.cell? ⟨w.heap.size + 1, 0, none⟩ = some (.slice a1 rr1.length c1) := (ht16.cell (p := ⟨w.heap.size + 1, 0, none⟩) (cell_lt b1_15) (by have : w.heap.size + 1 < w15.heap.size := cell_lt b1_15; show w.heap.size + 1 < _ ∨ _ ≤ w.heap.size + 1; omega)).trans b1_15
  have l3_16 : w16.cell? ⟨ab3, 0, none⟩ = some (.slice w0a0 r0.length w0c0) := (ht16.cell (p := ⟨ab3, 0, none⟩) (cell_lt l3_15) (by have : ab3 < w15.heap.size := cell_lt l3_15; show ab3 < _ ∨ _ ≤ ab3; omega)).trans l3_15
  have l5_16 : w16.cell? ⟨w4.heap.size, 0, none⟩ = some (.slice xa4 g0.length xc4) := (ht16.cell (p := ⟨w4.heap.size, 0, none⟩) (cell_lt l5_15) (by have : w4.heap.size < w15.heap.size := cell_lt l5_15; show w4.heap.size < _ ∨ _ ≤ w4.heap.size; omega)).trans l5_15
  have l7_16 : w16.cell? ⟨w6.heap.size, 0, none⟩ = some (.slice xa6 rr1.length xc6) := (ht16.cell (p := ⟨w6.heap.size, 0, none⟩) (cell_lt l7_15) (by have : w6.heap.size < w15.heap.size := cell_lt l7_15; show w6.heap.size < _ ∨ _ ≤ w6.heap.size; omega)).trans l7_15
  have l9_16 : w16.cell? ⟨w8.heap.size, 0, none⟩ = some (.slice g0a0 r0.length g0c0) := (ht16.cell (p := ⟨w8.heap.size, 0, none⟩) (cell_lt l9_15) (by have : w8.heap.size < w15.heap.size := cell_lt l9_15; show w8.heap.size < _ ∨ _ ≤ w8.heap.size; omega)).trans l9_15
  have w0_0_16 := w0_0_15.betweenR ht16 (fun b (hb : b < w3.heap.size) => ⟨by omega, by omega⟩)
  have g0_0_16 := g0_0_15.between ht16 (by omega)
  have hkn16 : ¬ k16 < 0 := by omega
  go_wp2_with fail
  refine (eqAround_same (g0_0_16.rows hN0) w0_0_16).mono ?_
  rintro e w17 ⟨rfl, hb17⟩
  have q17 := q16.trans (hb17.mono q16.size)
  have z17 := hb17.size
  have b0_17 : w17.cell? ⟨w.heap.size, 0, none⟩ = some (.slice a0 g0.length c0) := (hb17.cell (p := ⟨w.heap.size, 0, none⟩) (cell_lt b0_16)).trans b0_16
  have b1_17 : w17.cell? ⟨w.heap.size + 1, 0, none⟩ = some (.slice a1 rr1.length c1) := (hb17.cell (p := ⟨w.heap.size + 1, 0, none⟩) (cell_lt b1_16)).trans b1_16
  have l3_17 : w17.cell? ⟨ab3, 0, none⟩ = some (.slice w0a0 r0.length w0c0) := (hb17.cell (p := ⟨ab3, 0, none⟩) (cell_lt l3_16)).trans l3_16
  have l5_17 : w17.cell? ⟨w4.heap.size, 0, none⟩ = some (.slice xa4 g0.length xc4) := (hb17.cell (p := ⟨w4.heap.size, 0, none⟩) (cell_lt l5_16)).trans l5_16
  have l7_17 : w17.cell? ⟨w6.heap.size, 0, none⟩ = some (.slice xa6 rr1.length xc6) := (hb17.cell (p := ⟨w6.heap.size, 0, none⟩) (cell_lt l7_16)).trans l7_16
  have l9_17 : w17.cell? ⟨w8.heap.size, 0, none⟩ = some (.slice g0a0 r0.length g0c0) := (hb17.cell (p := ⟨w8.heap.size, 0, none⟩) (cell_lt l9_16)).trans l9_16
  have w0_0_17 := w0_0_16.below hb17 (Nat.le_refl _)
  have g0_0_17 := g0_0_16.below hb17 (Nat.le_refl _)
  go_wp2_with fail
  refine (markAroundE_any g0_0_17 hN0 (k := 1) (by omega) (by omega) (by omega)).mono ?_
  rintro e w18 ⟨rfl, g0_0_18, ht18⟩
  have q18 := ht18.below q17 (by have := q17.size; omega) q17.size
  have z18 := ht18.size
  have b0_18 : w18.cell? ⟨w.heap.size, 0, none⟩ = some (.slice a0 g0.length c0) := (ht18.cell (p := ⟨w.heap.size, 0, none⟩) (cell_lt b0_17) (by have : w.heap.size < w17.heap.size := cell_lt b0_17; show w.heap.size < _ ∨ _ ≤ w.heap.size; omega)).trans b0_17
  have b1_18 : w18.cell? ⟨w.heap.size + 1, 0, none⟩ = some (.slice a1 rr1.length c1) := (ht18.cell (p := ⟨w.heap.size + 1, 0, none⟩) (cell_lt b1_17) (by have : w.heap.size + 1 < w17.heap.size := cell_lt b1_17; show w.heap.size + 1 < _ ∨ _ ≤ w.heap.size + 1; omega)).trans b1_17
  have l3_18 : w18.cell? ⟨ab3, 0, none⟩ = some (.slice w0a0 r0.length w0c0) := (ht18.cell (p := ⟨ab3, 0, none⟩) (cell_lt l3_17) (by have : ab3 < w17.heap.size := cell_lt l3_17; show ab3 < _ ∨ _ ≤ ab3; omega)).trans l3_17
  have l5_18 : w18.cell? ⟨w4.heap.size, 0, none⟩ = some (.slice xa4 g0.length xc4) := (ht18.cell (p := ⟨w4.heap.size, 0, none⟩) (cell_lt l5_17) (by have : w4.heap.size < w17.heap.size := cell_lt l5_17; show w4.heap.size < _ ∨ _ ≤ w4.heap.size; omega)).trans l5_17
  have l7_18 : w18.cell? ⟨w6.heap.size, 0, none⟩ = some (.slice xa6 rr1.length xc6) := (ht18.cell (p := ⟨w6.heap.size, 0, none⟩) (cell_lt l7_17) (by have : w6.heap.size < w17.heap.size := cell_lt l7_17; show w6.heap.size < _ ∨ _ ≤ w6.heap.size; omega)).trans l7_17
  have l9_18 : w18.cell? ⟨w8.heap.size, 0, none⟩ = some (.slice g0a0 r0.length g0c0) := (ht18.cell (p := ⟨w8.heap.size, 0, none⟩) (cell_lt l9_17) (by have : w8.heap.size < w17.heap.size := cell_lt l9_17; show w8.heap.size < _ ∨ _ ≤ w8.heap.size; omega)).trans l9_17
  have w0_0_18 := w0_0_17.betweenR ht18 (fun b (hb : b < w3.heap.size) => ⟨by omega, by omega⟩)
  have hmn18 : ¬ (1 + (sumL r0 : Int)) < 0 := by omega
  go_wp2_with fail
  refine (heldAround_any (g0_0_18.rows (marksR_small hN0)) hN0 (k := 1) (by omega) (by omega)).mono ?_
  rintro e w19 ⟨rfl, hb19⟩
  have q19 := q18.trans (hb19.mono q18.size)
  have z19 := hb19.size
  have b0_19 : w19.cell? ⟨w.heap.size, 0, none⟩ = some (.slice a0 g0.length c0) := (hb19.cell (p := ⟨w.heap.size, 0, none⟩) (cell_lt b0_18)).trans b0_18
  have b1_19 : w19.cell? ⟨w.heap.size + 1, 0, none⟩ = some (.slice a1 rr1.length c1) := (hb19.cell (p := ⟨w.heap.size + 1, 0, none⟩) (cell_lt b1_18)).trans b1_18
  have l3_19 : w19.cell? ⟨ab3, 0, none⟩ = some (.slice w0a0 r0.length w0c0) := (hb19.cell (p := ⟨ab3, 0, none⟩) (cell_lt l3_18)).trans l3_18
  have l5_19 : w19.cell? ⟨w4.heap.size, 0, none⟩ = some (.slice xa4 g0.length xc4) := (hb19.cell (p := ⟨w4.heap.size, 0, none⟩) (cell_lt l5_18)).trans l5_18
  have l7_19 : w19.cell? ⟨w6.heap.size, 0, none⟩ = some (.slice xa6 rr1.length xc6) := (hb19.cell (p := ⟨w6.heap.size, 0, none⟩) (cell_lt l7_18)).trans l7_18
  have l9_19 : w19.cell? ⟨w8.heap.size, 0, none⟩ = some (.slice g0a0 r0.length g0c0) := (hb19.cell (p := ⟨w8.heap.size, 0, none⟩) (cell_lt l9_18)).trans l9_18
  have w0_0_19 := w0_0_18.below hb19 (Nat.le_refl _)
  have g0_0_19 := g0_0_18.below hb19 (Nat.le_refl _)
  have hmn19 : ¬ (1 + (sumL r0 : Int)) < 0 := by omega
  go_wp2
  apply meetA2 (H := fun (_ : Value) (_ : Value) (ua : Option Addr) (uc ab : Nat) (W : World) => Below w19.heap.size w19 W ∧ w19.heap.size ≤ ab ∧ ab < W.heap.size ∧ W.cell? ⟨ab, 0, none⟩ = some (.slice ua r0.length uc) ∧ OwnR W w19.heap.size W.heap.size 37 2 (.slice ua r0.length uc) r0)
  case orders =>
    intro rest
    refine wp_region_held_drew (S := (fun w' => w'.cell? ⟨w.heap.size, 0, none⟩ = some (.slice a0 g0.length c0) ∧ w'.cell? ⟨w.heap.size + 1, 0, none⟩ = some (.slice a1 rr1.length c1) ∧ w'.cell? ⟨ab3, 0, none⟩ = some (.slice w0a0 r0.length w0c0) ∧ w'.cell? ⟨w4.heap.size, 0, none⟩ = some (.slice xa4 g0.length xc4) ∧ w'.cell? ⟨w6.heap.size, 0, none⟩ = some (.slice xa6 rr1.length xc6) ∧ w'.cell? ⟨w8.heap.size, 0, none⟩ = some (.slice g0a0 r0.length g0c0))) (by kernel_rfl) ?_ (fun hHeld => ?_)
    · first | exact ⟨‹_›, ‹_›, ‹_›, ‹_›, ‹_›, ‹_›⟩ | assumption | (simp [*, go_sem])
    have hqz : Below w19.heap.size w19 w19.drew := (Below.refl _ _).drew
    have b0_z := (hqz.cell (p := ⟨w.heap.size, 0, none⟩) (cell_lt b0_19)).trans b0_19
    have b1_z := (hqz.cell (p := ⟨w.heap.size + 1, 0, none⟩) (cell_lt b1_19)).trans b1_19
    have l3_z := (hqz.cell (p := ⟨ab3, 0, none⟩) (cell_lt l3_19)).trans l3_19
    have l5_z := (hqz.cell (p := ⟨w4.heap.size, 0, none⟩) (cell_lt l5_19)).trans l5_19
    have l7_z := (hqz.cell (p := ⟨w6.heap.size, 0, none⟩) (cell_lt l7_19)).trans l7_19
    have l9_z := (hqz.cell (p := ⟨w8.heap.size, 0, none⟩) (cell_lt l9_19)).trans l9_19
    generalize w19.drew = wz at hqz b0_z b1_z l3_z l5_z l7_z l9_z hHeld ⊢
    refine wpAnyH_take (i := 0) (v := ?v56) (by simp only [List.getElem?_toArray, List.getElem?_cons_zero]; exact rfl) (by kernel_rfl) (by kernel_rfl) (by kernel_rfl) (by intro _ _ _ h; exact h) (Or.inl ⟨by rfl, ?y56⟩) hHeld ?_
    case y56 => (intro w hSw; (try dsimp only at hSw); go_simp; try (with_reducible rfl))
    try simp only [Act.put, List.setIfInBounds_toArray, List.set_cons_zero, List.set_cons_succ]
    refine wpAnyH_take (i := 2) (v := ?v57) (by simp only [List.getElem?_toArray, List.getElem?_cons_succ, List.getElem?_cons_zero]; exact rfl) (by kernel_rfl) (by kernel_rfl) (by kernel_rfl) (by intro _ _ _ h; exact h) (Or.inl ⟨by rfl, ?y57⟩) hHeld ?_
    case y57 => (intro w hSw; (try dsimp only at hSw); go_simp; try (with_reducible rfl))
    try simp only [Act.put, List.setIfInBounds_toArray, List.set_cons_zero, List.set_cons_succ]
    refine wpAnyH_ready (rs := [1, 5]) (by kernel_rfl) (by simp) ?_
    refine (AllReadyH.cons (by simp only [List.getElem?_toArray, List.getElem?_cons_succ, List.getElem?_cons_zero]; exact rfl) (fun K hK => ?b58_1) (AllReadyH.cons (by simp only [List.getElem?_toArray, List.getElem?_cons_succ, List.getElem?_cons_zero]; exact rfl) (fun K hK => ?b58_5) AllReadyH.nil))
    case b58_1 =>
      go_simp
      refine (toGraph_any _ _ _ (hv0.below (q19.trans (hqz.mono q19.size)) (Nat.le_refl _)) hsm0).mono ?_
      rintro e wy ⟨x0z, rfl, y0z, hby⟩
      replace hqz := hqz.trans (hby.mono hqz.size)
      replace b0_z := (hby.cell (p := ⟨w.heap.size, 0, none⟩) (cell_lt b0_z)).trans b0_z
      replace b1_z := (hby.cell (p := ⟨w.heap.size + 1, 0, none⟩) (cell_lt b1_z)).trans b1_z
      replace l3_z := (hby.cell (p := ⟨ab3, 0, none⟩) (cell_lt l3_z)).trans l3_z
      replace l5_z := (hby.cell (p := ⟨w4.heap.size, 0, none⟩) (cell_lt l5_z)).trans l5_z
      replace l7_z := (hby.cell (p := ⟨w6.heap.size, 0, none⟩) (cell_lt l7_z)).trans l7_z
      replace l9_z := (hby.cell (p := ⟨w8.heap.size, 0, none⟩) (cell_lt l9_z)).trans l9_z
      try (replace y1z := y1z.below hby (Nat.le_refl _))
      try (replace hown := hown.below hby (Nat.le_refl _))
      clear hby
      obtain ⟨wz, rfl⟩ : ∃ wx : World, wx = wy := ⟨_, rfl⟩
      try dsimp only
      refine hK.out _ _ ?h59 (fun hHeld => ?_)
      case h59 => first | exact ⟨‹_›, ‹_›, ‹_›, ‹_›, ‹_›, ‹_›⟩ | assumption | (simp [*, go_sem])
      clear hK K
      try simp only [Act.put, List.setIfInBounds_toArray, List.set_cons_zero, List.set_cons_succ]
      refine wpAnyH_ready (rs := [3, 5]) (by kernel_rfl) (by simp) ?_
      refine (AllReadyH.cons (by simp only [List.getElem?_toArray, List.getElem?_cons_succ, List.getElem?_cons_zero]; exact rfl) (fun K hK => ?b60_3) (AllReadyH.cons (by simp only [List.getElem?_toArray, List.getElem?_cons_succ, List.getElem?_cons_zero]; exact rfl) (fun K hK => ?b60_5) AllReadyH.nil))
      case b60_3 =>
        go_simp
        refine (toAround_any _ _ _ (hv1.below (q19.trans (hqz.mono q19.size)) (Nat.le_refl _)) hsm1).mono ?_
        rintro e wy ⟨x1z, rfl, y1z, hby⟩
        replace hqz := hqz.trans (hby.mono hqz.size)
        replace b0_z := (hby.cell (p := ⟨w.heap.size, 0, none⟩) (cell_lt b0_z)).trans b0_z
        replace b1_z := (hby.cell (p := ⟨w.heap.size + 1, 0, none⟩) (cell_lt b1_z)).trans b1_z
        replace l3_z := (hby.cell (p := ⟨ab3, 0, none⟩) (cell_lt l3_z)).trans l3_z
        replace l5_z := (hby.cell (p := ⟨w4.heap.size, 0, none⟩) (cell_lt l5_z)).trans l5_z
        replace l7_z := (hby.cell (p := ⟨w6.heap.size, 0, none⟩) (cell_lt l7_z)).trans l7_z
        replace l9_z := (hby.cell (p := ⟨w8.heap.size, 0, none⟩) (cell_lt l9_z)).trans l9_z
        try (replace y0z := y0z.below hby (Nat.le_refl _))
        try (replace hown := hown.below hby (Nat.le_refl _))
        clear hby
        obtain ⟨wz, rfl⟩ : ∃ wx : World, wx = wy := ⟨_, rfl⟩
        try dsimp only
        refine hK.out _ _ ?h61 (fun hHeld => ?_)
        case h61 => first | exact ⟨‹_›, ‹_›, ‹_›, ‹_›, ‹_›, ‹_›⟩ | assumption | (simp [*, go_sem])
        clear hK K
        try simp only [Act.put, List.setIfInBounds_toArray, List.set_cons_zero, List.set_cons_succ]
        refine wpAnyH_ready (rs := [4, 5]) (by kernel_rfl) (by simp) ?_
        refine (AllReadyH.cons (by simp only [List.getElem?_toArray, List.getElem?_cons_succ, List.getElem?_cons_zero]; exact rfl) (fun K hK => ?b62_4) (AllReadyH.cons (by simp only [List.getElem?_toArray, List.getElem?_cons_succ, List.getElem?_cons_zero]; exact rfl) (fun K hK => ?b62_5) AllReadyH.nil))
        case b62_4 =>
          go_simp
          refine (hI y0z y1z).mono ?_
          rintro e wy ⟨u0, rfl, hres, hby⟩
          obtain ⟨B0, hB0⟩ : ∃ B0, B0 = wz.heap.size := ⟨_, rfl⟩
          rw [← hB0] at hres
          have hBn : w19.heap.size ≤ B0 := by rw [hB0]; exact hqz.size
          obtain ⟨C0, hC0⟩ : ∃ C0, C0 = wy.heap.size := ⟨_, rfl⟩
          rw [← hC0] at hres
          have hCy : C0 ≤ wy.heap.size := Nat.le_of_eq hC0
          try (have hdis : ab + 1 ≤ B0 ∨ C0 ≤ ab := Or.inl (by have := (hown.lt ab rfl).2; omega))
          clear hB0 hC0
          obtain ⟨ua, uc, rfl⟩ := hres.isSlice
          replace hqz := hqz.trans (hby.mono hqz.size)
          replace b0_z := (hby.cell (p := ⟨w.heap.size, 0, none⟩) (cell_lt b0_z)).trans b0_z
          replace b1_z := (hby.cell (p := ⟨w.heap.size + 1, 0, none⟩) (cell_lt b1_z)).trans b1_z
          replace l3_z := (hby.cell (p := ⟨ab3, 0, none⟩) (cell_lt l3_z)).trans l3_z
          replace l5_z := (hby.cell (p := ⟨w4.heap.size, 0, none⟩) (cell_lt l5_z)).trans l5_z
          replace l7_z := (hby.cell (p := ⟨w6.heap.size, 0, none⟩) (cell_lt l7_z)).trans l7_z
          replace l9_z := (hby.cell (p := ⟨w8.heap.size, 0, none⟩) (cell_lt l9_z)).trans l9_z
          try (replace hown := hown.below hby (Nat.le_refl _))
          try (replace hsz := Nat.le_trans hsz hby.size)
          clear hby
          obtain ⟨wz, rfl⟩ : ∃ wx : World, wx = wy := ⟨_, rfl⟩
          try dsimp only
          refine hK.out _ _ ?h63 (fun hHeld => ?_)
          case h63 => first | exact ⟨‹_›, ‹_›, ‹_›, ‹_›, ‹_›, ‹_›⟩ | assumption | (simp [*, go_sem])
          clear hK K
          try simp only [Act.put, List.setIfInBounds_toArray, List.set_cons_zero, List.set_cons_succ]
          refine wpAnyH_ready (rs := [5]) (by kernel_rfl) (by simp) ?_
          refine AllReadyH.cons (by simp only [List.getElem?_toArray, List.getElem?_cons_succ, List.getElem?_cons_zero]; exact rfl) (fun K hK => ?_) AllReadyH.nil
          go_simp
          have hby : Below wz.heap.size wz (wz.alloc (.cells #[.slice none 0 0] 32)) := (Below.refl _ _).alloc (Nat.le_refl _) _
          have hown := own_new wz w19.heap.size 32 (.slice none 0 0) hqz.size
          try (have hdis : wz.heap.size + 1 ≤ B0 ∨ C0 ≤ wz.heap.size := Or.inr hCy)
          try (replace hres := hres.below hby (Nat.le_refl _))
          try (replace hCy := Nat.le_trans hCy hby.size)
          replace hqz := hqz.trans (hby.mono hqz.size)
          replace b0_z := (hby.cell (p := ⟨w.heap.size, 0, none⟩) (cell_lt b0_z)).trans b0_z
          replace b1_z := (hby.cell (p := ⟨w.heap.size + 1, 0, none⟩) (cell_lt b1_z)).trans b1_z
          replace l3_z := (hby.cell (p := ⟨ab3, 0, none⟩) (cell_lt l3_z)).trans l3_z
          replace l5_z := (hby.cell (p := ⟨w4.heap.size, 0, none⟩) (cell_lt l5_z)).trans l5_z
          replace l7_z := (hby.cell (p := ⟨w6.heap.size, 0, none⟩) (cell_lt l7_z)).trans l7_z
          replace l9_z := (hby.cell (p := ⟨w8.heap.size, 0, none⟩) (cell_lt l9_z)).trans l9_z
          try (replace y0z := y0z.below hby (Nat.le_refl _))
          try (replace y1z := y1z.below hby (Nat.le_refl _))
          clear hby
          generalize (wz.alloc (.cells #[.slice none 0 0] 32)) = wy at *
          generalize wz.heap.size = ab at *
          obtain ⟨wz, rfl⟩ : ∃ wx : World, wx = wy := ⟨_, rfl⟩
          try dsimp only
          refine hK.out _ _ ?h65 (fun hHeld => ?_)
          case h65 => first | exact ⟨‹_›, ‹_›, ‹_›, ‹_›, ‹_›, ‹_›⟩ | assumption | (simp [*, go_sem])
          clear hK K
          try simp only [Act.put, List.setIfInBounds_toArray, List.set_cons_zero, List.set_cons_succ]
          refine wpAnyH_ready (rs := [6]) (by kernel_rfl) (by simp) ?_
          refine AllReadyH.cons (by simp only [List.getElem?_toArray, List.getElem?_cons_succ, List.getElem?_cons_zero]; exact rfl) (fun K hK => ?_) AllReadyH.nil
          obtain ⟨p1, p2, p3, p4⟩ := own_cell hown
          go_simp
          have hge := hown.ge ab rfl
          have b0_s := (World.cell?_of_block (a := ⟨w.heap.size, 0, none⟩) (Below.heap_setCell wz ⟨ab, 0, none⟩ (.slice ua r0.length uc) _ (by have h9 : w.heap.size < w19.heap.size := cell_lt b0_19; first | omega | (simp; omega)))).trans b0_z
          have b1_s := (World.cell?_of_block (a := ⟨w.heap.size + 1, 0, none⟩) (Below.heap_setCell wz ⟨ab, 0, none⟩ (.slice ua r0.length uc) _ (by have h9 : w.heap.size + 1 < w19.heap.size := cell_lt b1_19; first | omega | (simp; omega)))).trans b1_z
          have l3_s := (World.cell?_of_block (a := ⟨ab3, 0, none⟩) (Below.heap_setCell wz ⟨ab, 0, none⟩ (.slice ua r0.length uc) _ (by have h9 : ab3 < w19.heap.size := cell_lt l3_19; first | omega | (simp; omega)))).trans l3_z
          have l5_s := (World.cell?_of_block (a := ⟨w4.heap.size, 0, none⟩) (Below.heap_setCell wz ⟨ab, 0, none⟩ (.slice ua r0.length uc) _ (by have h9 : w4.heap.size < w19.heap.size := cell_lt l5_19; first | omega | (simp; omega)))).trans l5_z
          have l7_s := (World.cell?_of_block (a := ⟨w6.heap.size, 0, none⟩) (Below.heap_setCell wz ⟨ab, 0, none⟩ (.slice ua r0.length uc) _ (by have h9 : w6.heap.size < w19.heap.size := cell_lt l7_19; first | omega | (simp; omega)))).trans l7_z
          have l9_s := (World.cell?_of_block (a := ⟨w8.heap.size, 0, none⟩) (Below.heap_setCell wz ⟨ab, 0, none⟩ (.slice ua r0.length uc) _ (by have h9 : w8.heap.size < w19.heap.size := cell_lt l9_19; first | omega | (simp; omega)))).trans l9_z
          have hlt := (hown.lt ab rfl).2
          have hqS : Below w19.heap.size w19 (wz.setCell ⟨ab, 0, none⟩ (.slice ua r0.length uc)) := hqz.setCell (by simpa using hge) _
          have hcl := (own_cell (own_set hown (.slice ua r0.length uc))).1
          have hbt : Between ab (ab + 1) wz (wz.setCell ⟨ab, 0, none⟩ (.slice ua r0.length uc)) := Between.setCell1 wz ab _
          have hrS : OwnR (wz.setCell ⟨ab, 0, none⟩ (.slice ua r0.length uc)) w19.heap.size (wz.setCell ⟨ab, 0, none⟩ (.slice ua r0.length uc)).heap.size 37 2 (.slice ua r0.length uc) r0 := (hres.between hbt (by omega)).weaken hBn (Nat.le_trans hCy hbt.size)
          try dsimp only
          refine hK.out _ _ ?h67 (fun hHeld => ?_)
          case h67 => first | exact ⟨‹_›, ‹_›, ‹_›, ‹_›, ‹_›, ‹_›⟩ | assumption | (simp [*, go_sem])
          clear hK K
          try simp only [Act.put, List.setIfInBounds_toArray, List.set_cons_zero, List.set_cons_succ]
          refine wpAnyH_done (by kernel_rfl) ?_ _
          exact rest x0z x1z ua uc ab _ ⟨hqS, hge, by simpa using hlt, hcl, hrS⟩
        case b62_5 =>
          go_simp
          have hby : Below wz.heap.size wz (wz.alloc (.cells #[.slice none 0 0] 32)) := (Below.refl _ _).alloc (Nat.le_refl _) _
          have hown := own_new wz w19.heap.size 32 (.slice none 0 0) hqz.size
          try (have hdis : wz.heap.size + 1 ≤ B0 ∨ C0 ≤ wz.heap.size := Or.inr hCy)
          try (replace hres := hres.below hby (Nat.le_refl _))
          try (replace hCy := Nat.le_trans hCy hby.size)
          replace hqz := hqz.trans (hby.mono hqz.size)
          replace b0_z := (hby.cell (p := ⟨w.heap.size, 0, none⟩) (cell_lt b0_z)).trans b0_z
          replace b1_z := (hby.cell (p := ⟨w.heap.size + 1, 0, none⟩) (cell_lt b1_z)).trans b1_z
          replace l3_z := (hby.cell (p := ⟨ab3, 0, none⟩) (cell_lt l3_z)).trans l3_z
          replace l5_z := (hby.cell (p := ⟨w4.heap.size, 0, none⟩) (cell_lt l5_z)).trans l5_z
          replace l7_z := (hby.cell (p := ⟨w6.heap.size, 0, none⟩) (cell_lt l7_z)).trans l7_z
          replace l9_z := (hby.cell (p := ⟨w8.heap.size, 0, none⟩) (cell_lt l9_z)).trans l9_z
          try (replace y0z := y0z.below hby (Nat.le_refl _))
          try (replace y1z := y1z.below hby (Nat.le_refl _))
          clear hby
          generalize (wz.alloc (.cells #[.slice none 0 0] 32)) = wy at *
          generalize wz.heap.size = ab at *
          obtain ⟨wz, rfl⟩ : ∃ wx : World, wx = wy := ⟨_, rfl⟩
          try dsimp only
          refine hK.out _ _ ?h68 (fun hHeld => ?_)
          case h68 => first | exact ⟨‹_›, ‹_›, ‹_›, ‹_›, ‹_›, ‹_›⟩ | assumption | (simp [*, go_sem])
          clear hK K
          try simp only [Act.put, List.setIfInBounds_toArray, List.set_cons_zero, List.set_cons_succ]
          refine wpAnyH_ready (rs := [4]) (by kernel_rfl) (by simp) ?_
          refine AllReadyH.cons (by simp only [List.getElem?_toArray, List.getElem?_cons_succ, List.getElem?_cons_zero]; exact rfl) (fun K hK => ?_) AllReadyH.nil
          go_simp
          refine (hI y0z y1z).mono ?_
          rintro e wy ⟨u0, rfl, hres, hby⟩
          obtain ⟨B0, hB0⟩ : ∃ B0, B0 = wz.heap.size := ⟨_, rfl⟩
          rw [← hB0] at hres
          have hBn : w19.heap.size ≤ B0 := by rw [hB0]; exact hqz.size
          obtain ⟨C0, hC0⟩ : ∃ C0, C0 = wy.heap.size := ⟨_, rfl⟩
          rw [← hC0] at hres
          have hCy : C0 ≤ wy.heap.size := Nat.le_of_eq hC0
          try (have hdis : ab + 1 ≤ B0 ∨ C0 ≤ ab := Or.inl (by have := (hown.lt ab rfl).2; omega))
          clear hB0 hC0
          obtain ⟨ua, uc, rfl⟩ := hres.isSlice
          replace hqz := hqz.trans (hby.mono hqz.size)
          replace b0_z := (hby.cell (p := ⟨w.heap.size, 0, none⟩) (cell_lt b0_z)).trans b0_z
          replace b1_z := (hby.cell (p := ⟨w.heap.size + 1, 0, none⟩) (cell_lt b1_z)).trans b1_z
          replace l3_z := (hby.cell (p := ⟨ab3, 0, none⟩) (cell_lt l3_z)).trans l3_z
          replace l5_z := (hby.cell (p := ⟨w4.heap.size, 0, none⟩) (cell_lt l5_z)).trans l5_z
          replace l7_z := (hby.cell (p := ⟨w6.heap.size, 0, none⟩) (cell_lt l7_z)).trans l7_z
          replace l9_z := (hby.cell (p := ⟨w8.heap.size, 0, none⟩) (cell_lt l9_z)).trans l9_z
          try (replace hown := hown.below hby (Nat.le_refl _))
          try (replace hsz := Nat.le_trans hsz hby.size)
          clear hby
          obtain ⟨wz, rfl⟩ : ∃ wx : World, wx = wy := ⟨_, rfl⟩
          try dsimp only
          refine hK.out _ _ ?h70 (fun hHeld => ?_)
          case h70 => first | exact ⟨‹_›, ‹_›, ‹_›, ‹_›, ‹_›, ‹_›⟩ | assumption | (simp [*, go_sem])
          clear hK K
          try simp only [Act.put, List.setIfInBounds_toArray, List.set_cons_zero, List.set_cons_succ]
          refine wpAnyH_ready (rs := [6]) (by kernel_rfl) (by simp) ?_
          refine AllReadyH.cons (by simp only [List.getElem?_toArray, List.getElem?_cons_succ, List.getElem?_cons_zero]; exact rfl) (fun K hK => ?_) AllReadyH.nil
          obtain ⟨p1, p2, p3, p4⟩ := own_cell hown
          go_simp
          have hge := hown.ge ab rfl
          have b0_s := (World.cell?_of_block (a := ⟨w.heap.size, 0, none⟩) (Below.heap_setCell wz ⟨ab, 0, none⟩ (.slice ua r0.length uc) _ (by have h9 : w.heap.size < w19.heap.size := cell_lt b0_19; first | omega | (simp; omega)))).trans b0_z
          have b1_s := (World.cell?_of_block (a := ⟨w.heap.size + 1, 0, none⟩) (Below.heap_setCell wz ⟨ab, 0, none⟩ (.slice ua r0.length uc) _ (by have h9 : w.heap.size + 1 < w19.heap.size := cell_lt b1_19; first | omega | (simp; omega)))).trans b1_z
          have l3_s := (World.cell?_of_block (a := ⟨ab3, 0, none⟩) (Below.heap_setCell wz ⟨ab, 0, none⟩ (.slice ua r0.length uc) _ (by have h9 : ab3 < w19.heap.size := cell_lt l3_19; first | omega | (simp; omega)))).trans l3_z
          have l5_s := (World.cell?_of_block (a := ⟨w4.heap.size, 0, none⟩) (Below.heap_setCell wz ⟨ab, 0, none⟩ (.slice ua r0.length uc) _ (by have h9 : w4.heap.size < w19.heap.size := cell_lt l5_19; first | omega | (simp; omega)))).trans l5_z
          have l7_s := (World.cell?_of_block (a := ⟨w6.heap.size, 0, none⟩) (Below.heap_setCell wz ⟨ab, 0, none⟩ (.slice ua r0.length uc) _ (by have h9 : w6.heap.size < w19.heap.size := cell_lt l7_19; first | omega | (simp; omega)))).trans l7_z
          have l9_s := (World.cell?_of_block (a := ⟨w8.heap.size, 0, none⟩) (Below.heap_setCell wz ⟨ab, 0, none⟩ (.slice ua r0.length uc) _ (by have h9 : w8.heap.size < w19.heap.size := cell_lt l9_19; first | omega | (simp; omega)))).trans l9_z
          have hlt := (hown.lt ab rfl).2
          have hqS : Below w19.heap.size w19 (wz.setCell ⟨ab, 0, none⟩ (.slice ua r0.length uc)) := hqz.setCell (by simpa using hge) _
          have hcl := (own_cell (own_set hown (.slice ua r0.length uc))).1
          have hbt : Between ab (ab + 1) wz (wz.setCell ⟨ab, 0, none⟩ (.slice ua r0.length uc)) := Between.setCell1 wz ab _
          have hrS : OwnR (wz.setCell ⟨ab, 0, none⟩ (.slice ua r0.length uc)) w19.heap.size (wz.setCell ⟨ab, 0, none⟩ (.slice ua r0.length uc)).heap.size 37 2 (.slice ua r0.length uc) r0 := (hres.between hbt (by omega)).weaken hBn (Nat.le_trans hCy hbt.size)
          try dsimp only
          refine hK.out _ _ ?h72 (fun hHeld => ?_)
          case h72 => first | exact ⟨‹_›, ‹_›, ‹_›, ‹_›, ‹_›, ‹_›⟩ | assumption | (simp [*, go_sem])
          clear hK K
          try simp only [Act.put, List.setIfInBounds_toArray, List.set_cons_zero, List.set_cons_succ]
          refine wpAnyH_done (by kernel_rfl) ?_ _
          exact rest x0z x1z ua uc ab _ ⟨hqS, hge, by simpa using hlt, hcl, hrS⟩
      case b60_5 =>
        go_simp
        have hby : Below wz.heap.size wz (wz.alloc (.cells #[.slice none 0 0] 32)) := (Below.refl _ _).alloc (Nat.le_refl _) _
        have hown := own_new wz w19.heap.size 32 (.slice none 0 0) hqz.size
        try (have hdis : wz.heap.size + 1 ≤ B0 ∨ C0 ≤ wz.heap.size := Or.inr hCy)
        try (replace hres := hres.below hby (Nat.le_refl _))
        try (replace hCy := Nat.le_trans hCy hby.size)
        replace hqz := hqz.trans (hby.mono hqz.size)
        replace b0_z := (hby.cell (p := ⟨w.heap.size, 0, none⟩) (cell_lt b0_z)).trans b0_z
        replace b1_z := (hby.cell (p := ⟨w.heap.size + 1, 0, none⟩) (cell_lt b1_z)).trans b1_z
        replace l3_z := (hby.cell (p := ⟨ab3, 0, none⟩) (cell_lt l3_z)).trans l3_z
        replace l5_z := (hby.cell (p := ⟨w4.heap.size, 0, none⟩) (cell_lt l5_z)).trans l5_z
        replace l7_z := (hby.cell (p := ⟨w6.heap.size, 0, none⟩) (cell_lt l7_z)).trans l7_z
        replace l9_z := (hby.cell (p := ⟨w8.heap.size, 0, none⟩) (cell_lt l9_z)).trans l9_z
        try (replace y0z := y0z.below hby (Nat.le_refl _))
        try (replace y1z := y1z.below hby (Nat.le_refl _))
        clear hby
        generalize (wz.alloc (.cells #[.slice none 0 0] 32)) = wy at *
        generalize wz.heap.size = ab at *
        obtain ⟨wz, rfl⟩ : ∃ wx : World, wx = wy := ⟨_, rfl⟩
        try dsimp only
        refine hK.out _ _ ?h73 (fun hHeld => ?_)
        case h73 => first | exact ⟨‹_›, ‹_›, ‹_›, ‹_›, ‹_›, ‹_›⟩ | assumption | (simp [*, go_sem])
        clear hK K
        try simp only [Act.put, List.setIfInBounds_toArray, List.set_cons_zero, List.set_cons_succ]
        refine wpAnyH_ready (rs := [3]) (by kernel_rfl) (by simp) ?_
        refine AllReadyH.cons (by simp only [List.getElem?_toArray, List.getElem?_cons_succ, List.getElem?_cons_zero]; exact rfl) (fun K hK => ?_) AllReadyH.nil
        go_simp
        refine (toAround_any _ _ _ (hv1.below (q19.trans (hqz.mono q19.size)) (Nat.le_refl _)) hsm1).mono ?_
        rintro e wy ⟨x1z, rfl, y1z, hby⟩
        replace hqz := hqz.trans (hby.mono hqz.size)
        replace b0_z := (hby.cell (p := ⟨w.heap.size, 0, none⟩) (cell_lt b0_z)).trans b0_z
        replace b1_z := (hby.cell (p := ⟨w.heap.size + 1, 0, none⟩) (cell_lt b1_z)).trans b1_z
        replace l3_z := (hby.cell (p := ⟨ab3, 0, none⟩) (cell_lt l3_z)).trans l3_z
        replace l5_z := (hby.cell (p := ⟨w4.heap.size, 0, none⟩) (cell_lt l5_z)).trans l5_z
        replace l7_z := (hby.cell (p := ⟨w6.heap.size, 0, none⟩) (cell_lt l7_z)).trans l7_z
        replace l9_z := (hby.cell (p := ⟨w8.heap.size, 0, none⟩) (cell_lt l9_z)).trans l9_z
        try (replace y0z := y0z.below hby (Nat.le_refl _))
        try (replace hown := hown.below hby (Nat.le_refl _))
        clear hby
        obtain ⟨wz, rfl⟩ : ∃ wx : World, wx = wy := ⟨_, rfl⟩
        try dsimp only
        refine hK.out _ _ ?h75 (fun hHeld => ?_)
        case h75 => first | exact ⟨‹_›, ‹_›, ‹_›, ‹_›, ‹_›, ‹_›⟩ | assumption | (simp [*, go_sem])
        clear hK K
        try simp only [Act.put, List.setIfInBounds_toArray, List.set_cons_zero, List.set_cons_succ]
        refine wpAnyH_ready (rs := [4]) (by kernel_rfl) (by simp) ?_
        refine AllReadyH.cons (by simp only [List.getElem?_toArray, List.getElem?_cons_succ, List.getElem?_cons_zero]; exact rfl) (fun K hK => ?_) AllReadyH.nil
        go_simp
        refine (hI y0z y1z).mono ?_
        rintro e wy ⟨u0, rfl, hres, hby⟩
        obtain ⟨B0, hB0⟩ : ∃ B0, B0 = wz.heap.size := ⟨_, rfl⟩
        rw [← hB0] at hres
        have hBn : w19.heap.size ≤ B0 := by rw [hB0]; exact hqz.size
        obtain ⟨C0, hC0⟩ : ∃ C0, C0 = wy.heap.size := ⟨_, rfl⟩
        rw [← hC0] at hres
        have hCy : C0 ≤ wy.heap.size := Nat.le_of_eq hC0
        try (have hdis : ab + 1 ≤ B0 ∨ C0 ≤ ab := Or.inl (by have := (hown.lt ab rfl).2; omega))
        clear hB0 hC0
        obtain ⟨ua, uc, rfl⟩ := hres.isSlice
        replace hqz := hqz.trans (hby.mono hqz.size)
        replace b0_z := (hby.cell (p := ⟨w.heap.size, 0, none⟩) (cell_lt b0_z)).trans b0_z
        replace b1_z := (hby.cell (p := ⟨w.heap.size + 1, 0, none⟩) (cell_lt b1_z)).trans b1_z
        replace l3_z := (hby.cell (p := ⟨ab3, 0, none⟩) (cell_lt l3_z)).trans l3_z
        replace l5_z := (hby.cell (p := ⟨w4.heap.size, 0, none⟩) (cell_lt l5_z)).trans l5_z
        replace l7_z := (hby.cell (p := ⟨w6.heap.size, 0, none⟩) (cell_lt l7_z)).trans l7_z
        replace l9_z := (hby.cell (p := ⟨w8.heap.size, 0, none⟩) (cell_lt l9_z)).trans l9_z
        try (replace hown := hown.below hby (Nat.le_refl _))
        try (replace hsz := Nat.le_trans hsz hby.size)
        clear hby
        obtain ⟨wz, rfl⟩ : ∃ wx : World, wx = wy := ⟨_, rfl⟩
        try dsimp only
        refine hK.out _ _ ?h77 (fun hHeld => ?_)
        case h77 => first | exact ⟨‹_›, ‹_›, ‹_›, ‹_›, ‹_›, ‹_›⟩ | assumption | (simp [*, go_sem])
        clear hK K
        try simp only [Act.put, List.setIfInBounds_toArray, List.set_cons_zero, List.set_cons_succ]
        refine wpAnyH_ready (rs := [6]) (by kernel_rfl) (by simp) ?_
        refine AllReadyH.cons (by simp only [List.getElem?_toArray, List.getElem?_cons_succ, List.getElem?_cons_zero]; exact rfl) (fun K hK => ?_) AllReadyH.nil
        obtain ⟨p1, p2, p3, p4⟩ := own_cell hown
        go_simp
        have hge := hown.ge ab rfl
        have b0_s := (World.cell?_of_block (a := ⟨w.heap.size, 0, none⟩) (Below.heap_setCell wz ⟨ab, 0, none⟩ (.slice ua r0.length uc) _ (by have h9 : w.heap.size < w19.heap.size := cell_lt b0_19; first | omega | (simp; omega)))).trans b0_z
        have b1_s := (World.cell?_of_block (a := ⟨w.heap.size + 1, 0, none⟩) (Below.heap_setCell wz ⟨ab, 0, none⟩ (.slice ua r0.length uc) _ (by have h9 : w.heap.size + 1 < w19.heap.size := cell_lt b1_19; first | omega | (simp; omega)))).trans b1_z
        have l3_s := (World.cell?_of_block (a := ⟨ab3, 0, none⟩) (Below.heap_setCell wz ⟨ab, 0, none⟩ (.slice ua r0.length uc) _ (by have h9 : ab3 < w19.heap.size := cell_lt l3_19; first | omega | (simp; omega)))).trans l3_z
        have l5_s := (World.cell?_of_block (a := ⟨w4.heap.size, 0, none⟩) (Below.heap_setCell wz ⟨ab, 0, none⟩ (.slice ua r0.length uc) _ (by have h9 : w4.heap.size < w19.heap.size := cell_lt l5_19; first | omega | (simp; omega)))).trans l5_z
        have l7_s := (World.cell?_of_block (a := ⟨w6.heap.size, 0, none⟩) (Below.heap_setCell wz ⟨ab, 0, none⟩ (.slice ua r0.length uc) _ (by have h9 : w6.heap.size < w19.heap.size := cell_lt l7_19; first | omega | (simp; omega)))).trans l7_z
        have l9_s := (World.cell?_of_block (a := ⟨w8.heap.size, 0, none⟩) (Below.heap_setCell wz ⟨ab, 0, none⟩ (.slice ua r0.length uc) _ (by have h9 : w8.heap.size < w19.heap.size := cell_lt l9_19; first | omega | (simp; omega)))).trans l9_z
        have hlt := (hown.lt ab rfl).2
        have hqS : Below w19.heap.size w19 (wz.setCell ⟨ab, 0, none⟩ (.slice ua r0.length uc)) := hqz.setCell (by simpa using hge) _
        have hcl := (own_cell (own_set hown (.slice ua r0.length uc))).1
        have hbt : Between ab (ab + 1) wz (wz.setCell ⟨ab, 0, none⟩ (.slice ua r0.length uc)) := Between.setCell1 wz ab _
        have hrS : OwnR (wz.setCell ⟨ab, 0, none⟩ (.slice ua r0.length uc)) w19.heap.size (wz.setCell ⟨ab, 0, none⟩ (.slice ua r0.length uc)).heap.size 37 2 (.slice ua r0.length uc) r0 := (hres.between hbt (by omega)).weaken hBn (Nat.le_trans hCy hbt.size)
        try dsimp only
        refine hK.out _ _ ?h79 (fun hHeld => ?_)
        case h79 => first | exact ⟨‹_›, ‹_›, ‹_›, ‹_›, ‹_›, ‹_›⟩ | assumption | (simp [*, go_sem])
        clear hK K
        try simp only [Act.put, List.setIfInBounds_toArray, List.set_cons_zero, List.set_cons_succ]
        refine wpAnyH_done (by kernel_rfl) ?_ _
        exact rest x0z x1z ua uc ab _ ⟨hqS, hge, by simpa using hlt, hcl, hrS⟩
    case b58_5 =>
      go_simp
      have hby : Below wz.heap.size wz (wz.alloc (.cells #[.slice none 0 0] 32)) := (Below.refl _ _).alloc (Nat.le_refl _) _
      have hown := own_new wz w19.heap.size 32 (.slice none 0 0) hqz.size
      try (have hdis : wz.heap.size + 1 ≤ B0 ∨ C0 ≤ wz.heap.size := Or.inr hCy)
      try (replace hres := hres.below hby (Nat.le_refl _))
      try (replace hCy := Nat.le_trans hCy hby.size)
      replace hqz := hqz.trans (hby.mono hqz.size)
      replace b0_z := (hby.cell (p := ⟨w.heap.size, 0, none⟩) (cell_lt b0_z)).trans b0_z
      replace b1_z := (hby.cell (p := ⟨w.heap.size + 1, 0, none⟩) (cell_lt b1_z)).trans b1_z
      replace l3_z := (hby.cell (p := ⟨ab3, 0, none⟩) (cell_lt l3_z)).trans l3_z
      replace l5_z := (hby.cell (p := ⟨w4.heap.size, 0, none⟩) (cell_lt l5_z)).trans l5_z
      replace l7_z := (hby.cell (p := ⟨w6.heap.size, 0, none⟩) (cell_lt l7_z)).trans l7_z
      replace l9_z := (hby.cell (p := ⟨w8.heap.size, 0, none⟩) (cell_lt l9_z)).trans l9_z
      try (replace y0z := y0z.below hby (Nat.le_refl _))
      try (replace y1z := y1z.below hby (Nat.le_refl _))
      clear hby
      generalize (wz.alloc (.cells #[.slice none 0 0] 32)) = wy at *
      generalize wz.heap.size = ab at *
      obtain ⟨wz, rfl⟩ : ∃ wx : World, wx = wy := ⟨_, rfl⟩
      try dsimp only
      refine hK.out _ _ ?h80 (fun hHeld => ?_)
      case h80 => first | exact ⟨‹_›, ‹_›, ‹_›, ‹_›, ‹_›, ‹_›⟩ | assumption | (simp [*, go_sem])
      clear hK K
      try simp only [Act.put, List.setIfInBounds_toArray, List.set_cons_zero, List.set_cons_succ]
      refine wpAnyH_ready (rs := [1]) (by kernel_rfl) (by simp) ?_
      refine AllReadyH.cons (by simp only [List.getElem?_toArray, List.getElem?_cons_succ, List.getElem?_cons_zero]; exact rfl) (fun K hK => ?_) AllReadyH.nil
      go_simp
      refine (toGraph_any _ _ _ (hv0.below (q19.trans (hqz.mono q19.size)) (Nat.le_refl _)) hsm0).mono ?_
      rintro e wy ⟨x0z, rfl, y0z, hby⟩
      replace hqz := hqz.trans (hby.mono hqz.size)
      replace b0_z := (hby.cell (p := ⟨w.heap.size, 0, none⟩) (cell_lt b0_z)).trans b0_z
      replace b1_z := (hby.cell (p := ⟨w.heap.size + 1, 0, none⟩) (cell_lt b1_z)).trans b1_z
      replace l3_z := (hby.cell (p := ⟨ab3, 0, none⟩) (cell_lt l3_z)).trans l3_z
      replace l5_z := (hby.cell (p := ⟨w4.heap.size, 0, none⟩) (cell_lt l5_z)).trans l5_z
      replace l7_z := (hby.cell (p := ⟨w6.heap.size, 0, none⟩) (cell_lt l7_z)).trans l7_z
      replace l9_z := (hby.cell (p := ⟨w8.heap.size, 0, none⟩) (cell_lt l9_z)).trans l9_z
      try (replace y1z := y1z.below hby (Nat.le_refl _))
      try (replace hown := hown.below hby (Nat.le_refl _))
      clear hby
      obtain ⟨wz, rfl⟩ : ∃ wx : World, wx = wy := ⟨_, rfl⟩
      try dsimp only
      refine hK.out _ _ ?h82 (fun hHeld => ?_)
      case h82 => first | exact ⟨‹_›, ‹_›, ‹_›, ‹_›, ‹_›, ‹_›⟩ | assumption | (simp [*, go_sem])
      clear hK K
      try simp only [Act.put, List.setIfInBounds_toArray, List.set_cons_zero, List.set_cons_succ]
      refine wpAnyH_ready (rs := [3]) (by kernel_rfl) (by simp) ?_
      refine AllReadyH.cons (by simp only [List.getElem?_toArray, List.getElem?_cons_succ, List.getElem?_cons_zero]; exact rfl) (fun K hK => ?_) AllReadyH.nil
      go_simp
      refine (toAround_any _ _ _ (hv1.below (q19.trans (hqz.mono q19.size)) (Nat.le_refl _)) hsm1).mono ?_
      rintro e wy ⟨x1z, rfl, y1z, hby⟩
      replace hqz := hqz.trans (hby.mono hqz.size)
      replace b0_z := (hby.cell (p := ⟨w.heap.size, 0, none⟩) (cell_lt b0_z)).trans b0_z
      replace b1_z := (hby.cell (p := ⟨w.heap.size + 1, 0, none⟩) (cell_lt b1_z)).trans b1_z
      replace l3_z := (hby.cell (p := ⟨ab3, 0, none⟩) (cell_lt l3_z)).trans l3_z
      replace l5_z := (hby.cell (p := ⟨w4.heap.size, 0, none⟩) (cell_lt l5_z)).trans l5_z
      replace l7_z := (hby.cell (p := ⟨w6.heap.size, 0, none⟩) (cell_lt l7_z)).trans l7_z
      replace l9_z := (hby.cell (p := ⟨w8.heap.size, 0, none⟩) (cell_lt l9_z)).trans l9_z
      try (replace y0z := y0z.below hby (Nat.le_refl _))
      try (replace hown := hown.below hby (Nat.le_refl _))
      clear hby
      obtain ⟨wz, rfl⟩ : ∃ wx : World, wx = wy := ⟨_, rfl⟩
      try dsimp only
      refine hK.out _ _ ?h84 (fun hHeld => ?_)
      case h84 => first | exact ⟨‹_›, ‹_›, ‹_›, ‹_›, ‹_›, ‹_›⟩ | assumption | (simp [*, go_sem])
      clear hK K
      try simp only [Act.put, List.setIfInBounds_toArray, List.set_cons_zero, List.set_cons_succ]
      refine wpAnyH_ready (rs := [4]) (by kernel_rfl) (by simp) ?_
      refine AllReadyH.cons (by simp only [List.getElem?_toArray, List.getElem?_cons_succ, List.getElem?_cons_zero]; exact rfl) (fun K hK => ?_) AllReadyH.nil
      go_simp
      refine (hI y0z y1z).mono ?_
      rintro e wy ⟨u0, rfl, hres, hby⟩
      obtain ⟨B0, hB0⟩ : ∃ B0, B0 = wz.heap.size := ⟨_, rfl⟩
      rw [← hB0] at hres
      have hBn : w19.heap.size ≤ B0 := by rw [hB0]; exact hqz.size
      obtain ⟨C0, hC0⟩ : ∃ C0, C0 = wy.heap.size := ⟨_, rfl⟩
      rw [← hC0] at hres
      have hCy : C0 ≤ wy.heap.size := Nat.le_of_eq hC0
      try (have hdis : ab + 1 ≤ B0 ∨ C0 ≤ ab := Or.inl (by have := (hown.lt ab rfl).2; omega))
      clear hB0 hC0
      obtain ⟨ua, uc, rfl⟩ := hres.isSlice
      replace hqz := hqz.trans (hby.mono hqz.size)
      replace b0_z := (hby.cell (p := ⟨w.heap.size, 0, none⟩) (cell_lt b0_z)).trans b0_z
      replace b1_z := (hby.cell (p := ⟨w.heap.size + 1, 0, none⟩) (cell_lt b1_z)).trans b1_z
      replace l3_z := (hby.cell (p := ⟨ab3, 0, none⟩) (cell_lt l3_z)).trans l3_z
      replace l5_z := (hby.cell (p := ⟨w4.heap.size, 0, none⟩) (cell_lt l5_z)).trans l5_z
      replace l7_z := (hby.cell (p := ⟨w6.heap.size, 0, none⟩) (cell_lt l7_z)).trans l7_z
      replace l9_z := (hby.cell (p := ⟨w8.heap.size, 0, none⟩) (cell_lt l9_z)).trans l9_z
      try (replace hown := hown.below hby (Nat.le_refl _))
      try (replace hsz := Nat.le_trans hsz hby.size)
      clear hby
      obtain ⟨wz, rfl⟩ : ∃ wx : World, wx = wy := ⟨_, rfl⟩
      try dsimp only
      refine hK.out _ _ ?h86 (fun hHeld => ?_)
      case h86 => first | exact ⟨‹_›, ‹_›, ‹_›, ‹_›, ‹_›, ‹_›⟩ | assumption | (simp [*, go_sem])
      clear hK K
      try simp only [Act.put, List.setIfInBounds_toArray, List.set_cons_zero, List.set_cons_succ]
      refine wpAnyH_ready (rs := [6]) (by kernel_rfl) (by simp) ?_
      refine AllReadyH.cons (by simp only [List.getElem?_toArray, List.getElem?_cons_succ, List.getElem?_cons_zero]; exact rfl) (fun K hK => ?_) AllReadyH.nil
      obtain ⟨p1, p2, p3, p4⟩ := own_cell hown
      go_simp
      have hge := hown.ge ab rfl
      have b0_s := (World.cell?_of_block (a := ⟨w.heap.size, 0, none⟩) (Below.heap_setCell wz ⟨ab, 0, none⟩ (.slice ua r0.length uc) _ (by have h9 : w.heap.size < w19.heap.size := cell_lt b0_19; first | omega | (simp; omega)))).trans b0_z
      have b1_s := (World.cell?_of_block (a := ⟨w.heap.size + 1, 0, none⟩) (Below.heap_setCell wz ⟨ab, 0, none⟩ (.slice ua r0.length uc) _ (by have h9 : w.heap.size + 1 < w19.heap.size := cell_lt b1_19; first | omega | (simp; omega)))).trans b1_z
      have l3_s := (World.cell?_of_block (a := ⟨ab3, 0, none⟩) (Below.heap_setCell wz ⟨ab, 0, none⟩ (.slice ua r0.length uc) _ (by have h9 : ab3 < w19.heap.size := cell_lt l3_19; first | omega | (simp; omega)))).trans l3_z
      have l5_s := (World.cell?_of_block (a := ⟨w4.heap.size, 0, none⟩) (Below.heap_setCell wz ⟨ab, 0, none⟩ (.slice ua r0.length uc) _ (by have h9 : w4.heap.size < w19.heap.size := cell_lt l5_19; first | omega | (simp; omega)))).trans l5_z
      have l7_s := (World.cell?_of_block (a := ⟨w6.heap.size, 0, none⟩) (Below.heap_setCell wz ⟨ab, 0, none⟩ (.slice ua r0.length uc) _ (by have h9 : w6.heap.size < w19.heap.size := cell_lt l7_19; first | omega | (simp; omega)))).trans l7_z
      have l9_s := (World.cell?_of_block (a := ⟨w8.heap.size, 0, none⟩) (Below.heap_setCell wz ⟨ab, 0, none⟩ (.slice ua r0.length uc) _ (by have h9 : w8.heap.size < w19.heap.size := cell_lt l9_19; first | omega | (simp; omega)))).trans l9_z
      have hlt := (hown.lt ab rfl).2
      have hqS : Below w19.heap.size w19 (wz.setCell ⟨ab, 0, none⟩ (.slice ua r0.length uc)) := hqz.setCell (by simpa using hge) _
      have hcl := (own_cell (own_set hown (.slice ua r0.length uc))).1
      have hbt : Between ab (ab + 1) wz (wz.setCell ⟨ab, 0, none⟩ (.slice ua r0.length uc)) := Between.setCell1 wz ab _
      have hrS : OwnR (wz.setCell ⟨ab, 0, none⟩ (.slice ua r0.length uc)) w19.heap.size (wz.setCell ⟨ab, 0, none⟩ (.slice ua r0.length uc)).heap.size 37 2 (.slice ua r0.length uc) r0 := (hres.between hbt (by omega)).weaken hBn (Nat.le_trans hCy hbt.size)
      try dsimp only
      refine hK.out _ _ ?h88 (fun hHeld => ?_)
      case h88 => first | exact ⟨‹_›, ‹_›, ‹_›, ‹_›, ‹_›, ‹_›⟩ | assumption | (simp [*, go_sem])
      clear hK K
      try simp only [Act.put, List.setIfInBounds_toArray, List.set_cons_zero, List.set_cons_succ]
      refine wpAnyH_done (by kernel_rfl) ?_ _
      exact rest x0z x1z ua uc ab _ ⟨hqS, hge, by simpa using hlt, hcl, hrS⟩
  case' rest =>
    intro xz20_0 xz20_1 h0a0 h0c0 ab20 w20 ⟨hb20, hge20, hlt20, l20_20, h0_0_20⟩
  have q20 := q19.trans (hb20.mono q19.size)
  have z20 := hb20.size
  have b0_20 : w20.cell? ⟨w.heap.size, 0, none⟩ = some (.slice a0 g0.length c0) := (hb20.cell (p := ⟨w.heap.size, 0, none⟩) (cell_lt b0_19)).trans b0_19
  have b1_20 : w20.cell? ⟨w.heap.size + 1, 0, none⟩ = some (.slice a1 rr1.length c1) := (hb20.cell (p := ⟨w.heap.size + 1, 0, none⟩) (cell_lt b1_19)).trans b1_19
  have l3_20 : w20.cell? ⟨ab3, 0, none⟩ = some (.slice w0a0 r0.length w0c0) := (hb20.cell (p := ⟨ab3, 0, none⟩) (cell_lt l3_19)).trans l3_19
  have l5_20 : w20.cell? ⟨w4.heap.size, 0, none⟩ = some (.slice xa4 g0.length xc4) := (hb20.cell (p := ⟨w4.heap.size, 0, none⟩) (cell_lt l5_19)).trans l5_19
  have l7_20 : w20.cell? ⟨w6.heap.size, 0, none⟩ = some (.slice xa6 rr1.length xc6) := (hb20.cell (p := ⟨w6.heap.size, 0, none⟩) (cell_lt l7_19)).trans l7_19
  have l9_20 : w20.cell? ⟨w8.heap.size, 0, none⟩ = some (.slice g0a0 r0.length g0c0) := (hb20.cell (p := ⟨w8.heap.size, 0, none⟩) (cell_lt l9_19)).trans l9_19
  have w0_0_20 := w0_0_19.below hb20 (Nat.le_refl _)
  have g0_0_20 := g0_0_19.below hb20 (Nat.le_refl _)
  go_wp2_with fail
  refine (eqAround_same (h0_0_20.rows hN0) w0_0_20).mono ?_
  rintro e w21 ⟨rfl, hb21⟩
  have q21 := q20.trans (hb21.mono q20.size)
  have z21 := hb21.size
  have b0_21 : w21.cell? ⟨w.heap.size, 0, none⟩ = some (.slice a0 g0.length c0) := (hb21.cell (p := ⟨w.heap.size, 0, none⟩) (cell_lt b0_20)).trans b0_20
  have b1_21 : w21.cell? ⟨w.heap.size + 1, 0, none⟩ = some (.slice a1 rr1.length c1) := (hb21.cell (p := ⟨w.heap.size + 1, 0, none⟩) (cell_lt b1_20)).trans b1_20
  have l3_21 : w21.cell? ⟨ab3, 0, none⟩ = some (.slice w0a0 r0.length w0c0) := (hb21.cell (p := ⟨ab3, 0, none⟩) (cell_lt l3_20)).trans l3_20
  have l5_21 : w21.cell? ⟨w4.heap.size, 0, none⟩ = some (.slice xa4 g0.length xc4) := (hb21.cell (p := ⟨w4.heap.size, 0, none⟩) (cell_lt l5_20)).trans l5_20
  have l7_21 : w21.cell? ⟨w6.heap.size, 0, none⟩ = some (.slice xa6 rr1.length xc6) := (hb21.cell (p := ⟨w6.heap.size, 0, none⟩) (cell_lt l7_20)).trans l7_20
  have l9_21 : w21.cell? ⟨w8.heap.size, 0, none⟩ = some (.slice g0a0 r0.length g0c0) := (hb21.cell (p := ⟨w8.heap.size, 0, none⟩) (cell_lt l9_20)).trans l9_20
  have l20_21 : w21.cell? ⟨ab20, 0, none⟩ = some (.slice h0a0 r0.length h0c0) := (hb21.cell (p := ⟨ab20, 0, none⟩) (cell_lt l20_20)).trans l20_20
  have w0_0_21 := w0_0_20.below hb21 (Nat.le_refl _)
  have g0_0_21 := g0_0_20.below hb21 (Nat.le_refl _)
  have h0_0_21 := h0_0_20.below hb21 (Nat.le_refl _)
  go_wp2_with fail
  refine (heldAround_any (g0_0_21.rows (marksR_small hN0)) hN0 (k := 1) (by omega) (by omega)).mono ?_
  rintro e w22 ⟨rfl, hb22⟩
  have q22 := q21.trans (hb22.mono q21.size)
  have z22 := hb22.size
  have b0_22 : w22.cell? ⟨w.heap.size, 0, none⟩ = some (.slice a0 g0.length c0) := (hb22.cell (p := ⟨w.heap.size, 0, none⟩) (cell_lt b0_21)).trans b0_21
  have b1_22 : w22.cell? ⟨w.heap.size + 1, 0, none⟩ = some (.slice a1 rr1.length c1) := (hb22.cell (p := ⟨w.heap.size + 1, 0, none⟩) (cell_lt b1_21)).trans b1_21
  have l3_22 : w22.cell? ⟨ab3, 0, none⟩ = some (.slice w0a0 r0.length w0c0) := (hb22.cell (p := ⟨ab3, 0, none⟩) (cell_lt l3_21)).trans l3_21
  have l5_22 : w22.cell? ⟨w4.heap.size, 0, none⟩ = some (.slice xa4 g0.length xc4) := (hb22.cell (p := ⟨w4.heap.size, 0, none⟩) (cell_lt l5_21)).trans l5_21
  have l7_22 : w22.cell? ⟨w6.heap.size, 0, none⟩ = some (.slice xa6 rr1.length xc6) := (hb22.cell (p := ⟨w6.heap.size, 0, none⟩) (cell_lt l7_21)).trans l7_21
  have l9_22 : w22.cell? ⟨w8.heap.size, 0, none⟩ = some (.slice g0a0 r0.length g0c0) := (hb22.cell (p := ⟨w8.heap.size, 0, none⟩) (cell_lt l9_21)).trans l9_21
  have l20_22 : w22.cell? ⟨ab20, 0, none⟩ = some (.slice h0a0 r0.length h0c0) := (hb22.cell (p := ⟨ab20, 0, none⟩) (cell_lt l20_21)).trans l20_21
  have w0_0_22 := w0_0_21.below hb22 (Nat.le_refl _)
  have g0_0_22 := g0_0_21.below hb22 (Nat.le_refl _)
  have h0_0_22 := h0_0_21.below hb22 (Nat.le_refl _)
  have hmn22 : ¬ (1 + (sumL r0 : Int)) < 0 := by omega
  go_wp2
  go_ret
  exact ⟨rfl, q22⟩
end Go.Proofs.Ytbpjbjeglcphcaa
