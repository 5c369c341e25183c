/- ModelOk of the reference. -/
import Derived.Test.YtklnjpdpinccoaaDoorModel
import Derived.Test.YtklnjpdpinccoaaDoorConn
import Derived.Test.YtklnjpdpinccoaaDoorBetw
namespace Go.Proofs.YtklnjpdpinccoaaDoor
open Go.RowKit
def mset (ms : List (List Int)) (x : Int) : List Int := ms.getD x.toNat []
noncomputable def modelOkB (g p ms : List (List Int)) : Bool := (modelF g ms).isSome && gokB p && decide (ms.length = p.length) && (ms.all fun s => connB g (maskL s)) && (edgesL p).all fun e => betwB g (mset ms (e.getD 0 0)) (mset ms (e.getD 1 0))
theorem modelF_parts {g ms : List (List Int)} (h : modelF g ms ≠ none) : GOk g ∧ ms.length ≤ 16 ∧ ∀ k (hk : k < ms.length), Rise ms[k] g.length := by
  by_cases hc : gokB g = true ∧ ms.length ≤ 16 ∧ SetsTo g.length ms ms.length
  · refine ⟨gokB_iff.1 hc.1, hc.2.1, fun k hk => ?_⟩
    have := (hc.2.2 k hk).1
    rwa [getD_lt hk] at this
  · exact absurd (modelF_no hc) h
theorem edge_parts {p : List (List Int)} (hp : GOk p) {k : Nat} (hk : k < (edgesL p).length) : ∃ u z : Nat, (edgesL p)[k] = [(u : Int), (z : Int)] ∧ u < p.length ∧ z < p.length := by
  obtain ⟨u, hu, v, hv, hlt, he⟩ := mem_edgesTo.1 (show (edgesL p)[k] ∈ edgesTo p p.length from List.getElem_mem hk)
  rw [getD_lt hu] at hv
  have hb := hp.ge hu v hv
  exact ⟨u, v.toNat, by rw [he]; congr 2; omega, hu, by omega⟩
set_option maxRecDepth 100000 in
set_option maxHeartbeats 8000000 in
theorem specModelOk_any {S0 S1 S2 : Nat → Prop} {gv pv mv : Value} {g p ms : List (List Int)} {w : World} (hvg : SlR S0 w gv g) (hvp : SlR S1 w pv p) (hvm : SlR S2 w mv ms) :
    Calls Tryd.prog 60 #[.agg #[gv], .agg #[pv], .agg #[mv]] w fun e w' => e = .returned (.bool (modelOkB g p ms)) ∧ Below w.heap.size w w' := by
  have hq0 : Below w.heap.size w (((w.alloc (.cells #[gv] 27)).alloc (.cells #[pv] 27)).alloc (.cells #[mv] 43)) := (((Below.refl _ _).alloc (Nat.le_refl _) _).alloc (by simp) _).alloc (by simp; omega) _
  obtain ⟨ga, gc, rfl⟩ := hvg.slice
  obtain ⟨pa, pc, rfl⟩ := hvp.slice
  have hvm0 := hvm
  obtain ⟨ma, mb, mo, mcap, mf, rfl, hml, hma, hmc⟩ := hvm
  have hmw := specModelWord_any (hvg.below hq0 (Nat.le_refl _)) (hvm0.below hq0 (Nat.le_refl _))
  have hpo := fun (W : World) (hb : Below w.heap.size w W) => specGraphOk_any _ _ _ (hvp.below hb (Nat.le_refl _))
  by_cases h1 : modelF g ms = none
  case pos =>
    rw [h1] at hmw
    have HE := Lib.hid (show modelOkB g p ms = false by simp [modelOkB, h1])
    go_enter Tryd.func60, Tryd.ntmps60
    go_wp2_with fail
    refine hmw.mono ?_
    rintro e w1 ⟨u1, rfl, hu1, hb1⟩
    simp only [Option.isSome_none]
    go_wp2
    go_ret
    exact ⟨by rw [HE.out]; rfl, hq0.trans (hb1.mono hq0.size)⟩
  have h1s : (modelF g ms).isSome = true := by
    cases e : modelF g ms
    · exact absurd e h1
    · rfl
  obtain ⟨hg, hm16, hri⟩ := modelF_parts h1
  have HMO := Lib.hid (show modelOkB g p ms = (gokB p && decide (ms.length = p.length) && (ms.all fun s => connB g (maskL s)) && (edgesL p).all fun e => betwB g (mset ms (e.getD 0 0)) (mset ms (e.getD 1 0))) by rw [modelOkB, h1s, Bool.true_and])
  have h1S := Lib.hid h1s
  clear h1 h1s
  go_enter Tryd.func60, Tryd.ntmps60
  go_wp2_with fail
  refine hmw.mono ?_
  rintro e w1 ⟨u1, rfl, hu1, hb1⟩
  rw [h1S.out]
  have hq1 := hq0.trans (hb1.mono hq0.size)
  have b0 : w1.cell? ⟨w.heap.size, 0, none⟩ = some (.slice ga g.length gc) := (hb1.cell (p := ⟨w.heap.size, 0, none⟩) (by simp <;> omega)).trans (by simp [go_sem])
  have b1 : w1.cell? ⟨w.heap.size + 1, 0, none⟩ = some (.slice pa p.length pc) := (hb1.cell (p := ⟨w.heap.size + 1, 0, none⟩) (by simp <;> omega)).trans (by simp [go_sem])
  have b2 : w1.cell? ⟨w.heap.size + 2, 0, none⟩ = some (.slice ma ms.length mcap) := (hb1.cell (p := ⟨w.heap.size + 2, 0, none⟩) (by simp <;> omega)).trans (by simp [go_sem])
  have hpo1 := hpo _ hq1
  obtain ⟨ua, uc, rfl⟩ := hu1.slice
  clear hmw hpo hu1 hb1
  by_cases hgp : gokB p = true
  case neg =>
    have hgp' : gokB p = false := by simpa using hgp
    rw [hgp'] at hpo1
    have HE := Lib.hid (show modelOkB g p ms = false by rw [HMO.out, hgp']; rfl)
    clear hgp hgp'
    go_wp2_with fail
    refine hpo1.mono ?_
    rintro e w2 ⟨rfl, hb2⟩
    go_wp2
    go_ret
    exact ⟨by rw [HE.out]; rfl, hq1.trans (hb2.mono hq1.size)⟩
  rw [hgp] at hpo1
  have hgP := gokB_iff.1 hgp
  by_cases hlen : ms.length = p.length
  case neg =>
    have HE := Lib.hid (show modelOkB g p ms = false by rw [HMO.out, hgp, decide_eq_false hlen]; rfl)
    have hn1 : ((ms.length : Int) != (p.length : Int)) = true := by rw [bne_iff_ne]; omega
    have hn2 : (ms.length != p.length) = true := by rw [bne_iff_ne]; omega
    clear hgp
    go_wp2_with fail
    refine hpo1.mono ?_
    rintro e w2 ⟨rfl, hb2⟩
    have b1 := (hb2.cell (cell_lt b1)).trans b1
    have b2 := (hb2.cell (cell_lt b2)).trans b2
    go_wp2
    go_ret
    exact ⟨by rw [HE.out]; rfl, hq1.trans (hb2.mono hq1.size)⟩
  have HM2 := Lib.hid (show modelOkB g p ms = ((ms.all fun s => connB g (maskL s)) && (edgesL p).all fun e => betwB g (mset ms (e.getD 0 0)) (mset ms (e.getD 1 0))) by rw [HMO.out, hgp, decide_eq_true hlen]; rfl)
  have hn1 : ((ms.length : Int) != (p.length : Int)) = false := by simp [hlen]
  have hn2 : (ms.length != p.length) = false := by simp [hlen]
  have HLEN := Lib.hid hlen
  have hsm := edges_small hgP
  have HGP := Lib.hid hgP
  have hedge := fun (W : World) (hb : Below w.heap.size w W) => EdgesOf_any hgP (hvp.below hb (Nat.le_refl _))
  clear hgp HMO hlen hgP
  go_wp2_with fail
  refine hpo1.mono ?_
  rintro e w2 ⟨rfl, hb2⟩
  have b0 := (hb2.cell (cell_lt b0)).trans b0
  have b1 := (hb2.cell (cell_lt b1)).trans b1
  have b2 := (hb2.cell (cell_lt b2)).trans b2
  have hq2 := hq1.trans (hb2.mono hq1.size)
  clear hq1 hb2 hpo1
  go_wp2
  clear hn1 hn2
  go_loopw [9] (fun i wr => ∃ k : Nat, k ≤ ms.length ∧ i = .int .i64 k ∧ RowKit.Hid (∀ s ∈ ms.take k, connB g (maskL s) = true) ∧ Below w.heap.size w wr ∧ wr.cell? ⟨w.heap.size, 0, none⟩ = some (.slice ga g.length gc) ∧ wr.cell? ⟨w.heap.size + 1, 0, none⟩ = some (.slice pa p.length pc) ∧ wr.cell? ⟨w.heap.size + 2, 0, none⟩ = some (.slice ma ms.length mcap)) (fun i _ => ms.length - (intOf i).toNat)
  case atStart => exact ⟨0, Nat.zero_le _, rfl, Lib.hid (by simp), hq2, b0, b1, b2⟩
  case round =>
    clear hq2 b0 b1 b2
    obtain ⟨w3, rfl⟩ : ∃ wx : World, wx = wr := ⟨_, rfl⟩
    obtain ⟨k, hk, rfl, HN, hq, b0, b1, b2⟩ := hrel
    by_cases hlt : k < ms.length
    case pos =>
      obtain ⟨hcell, hrow⟩ := hmc k hlt
      obtain ⟨rfl, -⟩ := hma (by omega)
      have hcn := fun (W : World) (hb : Below w.heap.size w W) => ConnectedIn_any hg (hvg.below hb (Nat.le_refl _)) (hrow.below hb (Nat.le_refl _)) (hri k hlt)
      have htk : ms.take (k + 1) = ms.take k ++ [ms[k]] := List.take_succ_eq_append_getElem hlt
      have hmem : ms[k] ∈ ms := List.getElem_mem hlt
      obtain ⟨ra, rc, hre⟩ := hrow.slice
      rw [hre] at hcell hcn
      have hcell3 := (hq.cell (cell_lt hcell)).trans hcell
      cases hc : connB g (maskL ms[k]) with
      | true =>
        have HNX := Lib.hid (show ∀ s ∈ ms.take (k + 1), connB g (maskL s) = true from fun s hs => by
          rw [htk, List.mem_append, List.mem_singleton] at hs
          rcases hs with hs | rfl
          · exact HN.out s hs
          · exact hc)
        rw [hc] at hcn
        clear hc htk hmem hrow hre
        generalize ms[k].length = L at *
        go_wp2
        refine wp_region_held_drew (S := (fun w' => w'.cell? ⟨w.heap.size, 0, none⟩ = some (.slice ga g.length gc) ∧ w'.cell? ⟨w.heap.size + 2, 0, none⟩ = some (.slice (some ⟨mb, mo, none⟩) ms.length mcap) ∧ w'.cell? ⟨mb, mo + k, none⟩ = some (.slice ra L rc))) (by kernel_rfl) ?_ (fun hHeld => ?_)
        · first | exact ⟨‹_›, ‹_›, ‹_›⟩ | assumption | (simp [*, go_sem])
        have hqd := hq.drew
        have b1d : w3.drew.cell? ⟨w.heap.size + 1, 0, none⟩ = some (.slice pa p.length pc) := b1
        generalize w3.drew = wd at hqd b1d hHeld ⊢
        have hHeld2 := hHeld
        obtain ⟨d0, d2, dc⟩ := hHeld2
        refine wpAnyH_take (i := 0) (v := ?v1) (by simp only [List.getElem?_toArray, List.getElem?_cons_zero]; exact rfl) (by kernel_rfl) (by kernel_rfl) (by kernel_rfl) (by intro _ _ _ h; exact h) (Or.inl ⟨by rfl, ?y1⟩) hHeld ?_
        case y1 => (intro w hSw; (try dsimp only at hSw); go_simp; try (with_reducible rfl))
        try simp only [Act.put, List.setIfInBounds_toArray, List.set_cons_zero, List.set_cons_succ]
        refine wpAnyH_take (i := 1) (v := ?v2) (by simp only [List.getElem?_toArray, List.getElem?_cons_succ, List.getElem?_cons_zero]; exact rfl) (by kernel_rfl) (by kernel_rfl) (by kernel_rfl) (by intro _ _ _ h; exact h) (Or.inl ⟨by rfl, ?y2⟩) hHeld ?_
        case y2 => (intro w hSw; (try dsimp only at hSw); go_simp; try (with_reducible rfl))
        try simp only [Act.put, List.setIfInBounds_toArray, List.set_cons_zero, List.set_cons_succ]
        refine wpAnyH_take (i := 2) (v := ?v3) (by simp only [List.getElem?_toArray, List.getElem?_cons_succ, List.getElem?_cons_zero]; exact rfl) (by kernel_rfl) (by kernel_rfl) (by kernel_rfl) (by intro _ _ _ h; exact h) (Or.inl ⟨by rfl, ?y3⟩) hHeld ?_
        case y3 => (intro w hSw; (try dsimp only at hSw); go_simp; try (with_reducible rfl))
        try simp only [Act.put, List.setIfInBounds_toArray, List.set_cons_zero, List.set_cons_succ]
        refine wpAnyH_take (i := 3) (v := ?v4) (by simp only [List.getElem?_toArray, List.getElem?_cons_succ, List.getElem?_cons_zero]; exact rfl) (by kernel_rfl) (by kernel_rfl) (by kernel_rfl) (by intro _ _ _ h; exact h) (Or.inl ⟨by rfl, ?y4⟩) hHeld ?_
        case y4 => (intro w hSw; (try dsimp only at hSw); go_simp; try (with_reducible rfl))
        try simp only [Act.put, List.setIfInBounds_toArray, List.set_cons_zero, List.set_cons_succ]
        refine wpAnyH_take (i := 4) (v := ?v5) (by simp only [List.getElem?_toArray, List.getElem?_cons_succ, List.getElem?_cons_zero]; exact rfl) (by kernel_rfl) (by kernel_rfl) (by kernel_rfl) (by intro _ _ _ h; exact h) (Or.inl ⟨by rfl, ?y5⟩) hHeld ?_
        case y5 => (intro w hSw; (try dsimp only at hSw); go_simp; try (with_reducible rfl))
        try simp only [Act.put, List.setIfInBounds_toArray, List.set_cons_zero, List.set_cons_succ]
        refine wpAnyH_take (i := 5) (v := ?v6) (by simp only [List.getElem?_toArray, List.getElem?_cons_succ, List.getElem?_cons_zero]; exact rfl) (by kernel_rfl) (by kernel_rfl) (by kernel_rfl) (by intro _ _ _ h; exact h) (Or.inl ⟨by rfl, ?y6⟩) hHeld ?_
        case y6 => (intro w hSw; (try dsimp only at hSw); go_simp; try (with_reducible rfl))
        try simp only [Act.put, List.setIfInBounds_toArray, List.set_cons_zero, List.set_cons_succ]
        refine wpAnyH_ready (rs := [6]) (by kernel_rfl) (by simp) ?_
        refine AllReadyH.cons (by simp only [List.getElem?_toArray, List.getElem?_cons_succ, List.getElem?_cons_zero]; exact rfl) (fun K hK => ?_) AllReadyH.nil
        go_simp
        refine (hcn _ hqd).mono ?_
        rintro e wn ⟨rfl, hbn⟩
        have hqd := hqd.trans (hbn.mono hqd.size)
        have d0 := (hbn.cell (cell_lt d0)).trans d0
        have b1d := (hbn.cell (cell_lt b1d)).trans b1d
        have d2 := (hbn.cell (cell_lt d2)).trans d2
        have dc := (hbn.cell (cell_lt dc)).trans dc
        try dsimp only
        refine hK.out _ _ ?h8 (fun hHeld => ?_)
        case h8 => first | exact ⟨‹_›, ‹_›, ‹_›⟩ | assumption | (simp [*, go_sem])
        clear hK K
        try simp only [Act.put, List.setIfInBounds_toArray, List.set_cons_zero, List.set_cons_succ]
        refine wpAnyH_take (i := 7) (v := ?v9) (by simp only [List.getElem?_toArray, List.getElem?_cons_succ, List.getElem?_cons_zero]; exact rfl) (by kernel_rfl) (by kernel_rfl) (by kernel_rfl) (by intro _ _ _ h; exact h) (Or.inl ⟨by rfl, ?y9⟩) hHeld ?_
        case y9 => (intro w hSw; (try dsimp only at hSw); go_simp; try (with_reducible rfl))
        try simp only [Act.put, List.setIfInBounds_toArray, List.set_cons_zero, List.set_cons_succ]
        refine wpAnyH_done (by kernel_rfl) ?_ _
        clear hcell3 hq b0 b1 b2 hHeld
        go_wp2
        go_roundw
        case rel => exact ⟨k + 1, by omega, by go_num, HNX, hqd, d0, b1d, d2⟩
        case measure => simp [intOf]; omega
      | false =>
        have HF := Lib.hid (show modelOkB g p ms = false by
          rw [HM2.out]
          have : (ms.all fun s => connB g (maskL s)) = false := List.all_eq_false.2 ⟨_, hmem, by rw [hc]; simp⟩
          rw [this]; rfl)
        rw [hc] at hcn
        clear hc htk hmem hrow hre
        generalize ms[k].length = L at *
        go_wp2
        refine wp_region_held_drew (S := (fun w' => w'.cell? ⟨w.heap.size, 0, none⟩ = some (.slice ga g.length gc) ∧ w'.cell? ⟨w.heap.size + 2, 0, none⟩ = some (.slice (some ⟨mb, mo, none⟩) ms.length mcap) ∧ w'.cell? ⟨mb, mo + k, none⟩ = some (.slice ra L rc))) (by kernel_rfl) ?_ (fun hHeld => ?_)
        · first | exact ⟨‹_›, ‹_›, ‹_›⟩ | assumption | (simp [*, go_sem])
        have hqd := hq.drew
        generalize w3.drew = wd at hqd hHeld ⊢
        have hHeld2 := hHeld
        obtain ⟨d0, d2, dc⟩ := hHeld2
        refine wpAnyH_take (i := 0) (v := ?v10) (by simp only [List.getElem?_toArray, List.getElem?_cons_zero]; exact rfl) (by kernel_rfl) (by kernel_rfl) (by kernel_rfl) (by intro _ _ _ h; exact h) (Or.inl ⟨by rfl, ?y10⟩) hHeld ?_
        case y10 => (intro w hSw; (try dsimp only at hSw); go_simp; try (with_reducible rfl))
        try simp only [Act.put, List.setIfInBounds_toArray, List.set_cons_zero, List.set_cons_succ]
        refine wpAnyH_take (i := 1) (v := ?v11) (by simp only [List.getElem?_toArray, List.getElem?_cons_succ, List.getElem?_cons_zero]; exact rfl) (by kernel_rfl) (by kernel_rfl) (by kernel_rfl) (by intro _ _ _ h; exact h) (Or.inl ⟨by rfl, ?y11⟩) hHeld ?_
        case y11 => (intro w hSw; (try dsimp only at hSw); go_simp; try (with_reducible rfl))
        try simp only [Act.put, List.setIfInBounds_toArray, List.set_cons_zero, List.set_cons_succ]
        refine wpAnyH_take (i := 2) (v := ?v12) (by simp only [List.getElem?_toArray, List.getElem?_cons_succ, List.getElem?_cons_zero]; exact rfl) (by kernel_rfl) (by kernel_rfl) (by kernel_rfl) (by intro _ _ _ h; exact h) (Or.inl ⟨by rfl, ?y12⟩) hHeld ?_
        case y12 => (intro w hSw; (try dsimp only at hSw); go_simp; try (with_reducible rfl))
        try simp only [Act.put, List.setIfInBounds_toArray, List.set_cons_zero, List.set_cons_succ]
        refine wpAnyH_take (i := 3) (v := ?v13) (by simp only [List.getElem?_toArray, List.getElem?_cons_succ, List.getElem?_cons_zero]; exact rfl) (by kernel_rfl) (by kernel_rfl) (by kernel_rfl) (by intro _ _ _ h; exact h) (Or.inl ⟨by rfl, ?y13⟩) hHeld ?_
        case y13 => (intro w hSw; (try dsimp only at hSw); go_simp; try (with_reducible rfl))
        try simp only [Act.put, List.setIfInBounds_toArray, List.set_cons_zero, List.set_cons_succ]
        refine wpAnyH_take (i := 4) (v := ?v14) (by simp only [List.getElem?_toArray, List.getElem?_cons_succ, List.getElem?_cons_zero]; exact rfl) (by kernel_rfl) (by kernel_rfl) (by kernel_rfl) (by intro _ _ _ h; exact h) (Or.inl ⟨by rfl, ?y14⟩) hHeld ?_
        case y14 => (intro w hSw; (try dsimp only at hSw); go_simp; try (with_reducible rfl))
        try simp only [Act.put, List.setIfInBounds_toArray, List.set_cons_zero, List.set_cons_succ]
        refine wpAnyH_take (i := 5) (v := ?v15) (by simp only [List.getElem?_toArray, List.getElem?_cons_succ, List.getElem?_cons_zero]; exact rfl) (by kernel_rfl) (by kernel_rfl) (by kernel_rfl) (by intro _ _ _ h; exact h) (Or.inl ⟨by rfl, ?y15⟩) hHeld ?_
        case y15 => (intro w hSw; (try dsimp only at hSw); go_simp; try (with_reducible rfl))
        try simp only [Act.put, List.setIfInBounds_toArray, List.set_cons_zero, List.set_cons_succ]
        refine wpAnyH_ready (rs := [6]) (by kernel_rfl) (by simp) ?_
        refine AllReadyH.cons (by simp only [List.getElem?_toArray, List.getElem?_cons_succ, List.getElem?_cons_zero]; exact rfl) (fun K hK => ?_) AllReadyH.nil
        go_simp
        refine (hcn _ hqd).mono ?_
        rintro e wn ⟨rfl, hbn⟩
        have hqd := hqd.trans (hbn.mono hqd.size)
        have d0 := (hbn.cell (cell_lt d0)).trans d0
        have d2 := (hbn.cell (cell_lt d2)).trans d2
        have dc := (hbn.cell (cell_lt dc)).trans dc
        try dsimp only
        refine hK.out _ _ ?h17 (fun hHeld => ?_)
        case h17 => first | exact ⟨‹_›, ‹_›, ‹_›⟩ | assumption | (simp [*, go_sem])
        clear hK K
        try simp only [Act.put, List.setIfInBounds_toArray, List.set_cons_zero, List.set_cons_succ]
        refine wpAnyH_take (i := 7) (v := ?v18) (by simp only [List.getElem?_toArray, List.getElem?_cons_succ, List.getElem?_cons_zero]; exact rfl) (by kernel_rfl) (by kernel_rfl) (by kernel_rfl) (by intro _ _ _ h; exact h) (Or.inl ⟨by rfl, ?y18⟩) hHeld ?_
        case y18 => (intro w hSw; (try dsimp only at hSw); go_simp; try (with_reducible rfl))
        try simp only [Act.put, List.setIfInBounds_toArray, List.set_cons_zero, List.set_cons_succ]
        refine wpAnyH_done (by kernel_rfl) ?_ _
        go_wp2
        go_ret
        exact ⟨by rw [HF.out]; rfl, hqd⟩
    obtain rfl : k = ms.length := by omega
    have HM3 := Lib.hid (show modelOkB g p ms = (edgesL p).all fun e => betwB g (mset ms (e.getD 0 0)) (mset ms (e.getD 1 0)) by
      rw [HM2.out]
      have h := HN.out
      rw [List.take_length] at h
      rw [List.all_eq_true.2 h, Bool.true_and])
    have HED := Lib.hid (fun k (hk : k < (edgesL p).length) => edge_parts HGP.out hk)
    clear HM2 HN
    go_wp2_with fail
    refine (hedge _ hq).mono ?_
    rintro e w4 ⟨eu, rfl, heu, hb4⟩
    have hq4 := hq.trans (hb4.mono hq.size)
    have b0 := (hb4.cell (cell_lt b0)).trans b0
    have b2 := (hb4.cell (cell_lt b2)).trans b2
    have hE := heu.rows hsm
    generalize edgesL p = E at *
    have hel : E.length ≤ 1048576 := by have := hsm.1; omega
    obtain ⟨ea, eb, eo, ecap, ef, rfl, hl, hea, hec⟩ := hE
    clear hedge heu hq hb4 b1
    go_wp2
    go_loopw [11] (fun i wr => ∃ k : Nat, k ≤ E.length ∧ i = .int .i64 k ∧ RowKit.Hid (∀ e ∈ E.take k, betwB g (mset ms (e.getD 0 0)) (mset ms (e.getD 1 0)) = true) ∧ Below w.heap.size w wr ∧ Below w4.heap.size w4 wr ∧ wr.cell? ⟨w.heap.size, 0, none⟩ = some (.slice ga g.length gc) ∧ wr.cell? ⟨w.heap.size + 2, 0, none⟩ = some (.slice ma ms.length mcap)) (fun i _ => E.length - (intOf i).toNat)
    case atStart => exact ⟨0, Nat.zero_le _, rfl, Lib.hid (by simp), hq4, Below.refl _ _, b0, b2⟩
    case round =>
      clear hq4 b0 b2
      obtain ⟨w5, rfl⟩ : ∃ wx : World, wx = wr := ⟨_, rfl⟩
      obtain ⟨k, hk, rfl, HN, hq, h45, b0, b2⟩ := hrel
      by_cases hlt : k < E.length
      case neg =>
        obtain rfl : k = E.length := by omega
        have HF := Lib.hid (show modelOkB g p ms = true by
          rw [HM3.out]
          have h := HN.out
          rw [List.take_length] at h
          exact List.all_eq_true.2 h)
        go_wp2
        go_ret
        exact ⟨by rw [HF.out]; rfl, hq⟩
      obtain ⟨hcell, hrow⟩ := hec k hlt
      obtain ⟨rfl, -⟩ := hea (by omega)
      obtain ⟨u, z, hek, hup, hzp⟩ := HED.out k hlt
      have htk : E.take (k + 1) = E.take k ++ [E[k]] := List.take_succ_eq_append_getElem hlt
      have hmem : E[k] ∈ E := List.getElem_mem hlt
      rw [hek] at hrow
      obtain ⟨ra, rb, ro, rc, hre, hrl, hra, hrc⟩ := hrow
      obtain ⟨rfl, -⟩ := hra (by simp)
      rw [hre] at hcell
      have c0 := hrc 0 (by simp)
      have c1 := hrc 1 (by simp)
      simp only [List.length_cons, List.length_nil, Nat.zero_add, List.getElem_cons_zero, List.getElem_cons_succ, Nat.add_zero] at hcell c0 c1
      have hcell5 := (h45.cell (cell_lt hcell)).trans hcell
      have c05 := (h45.cell (cell_lt c0)).trans c0
      have c15 := (h45.cell (cell_lt c1)).trans c1
      have hu2 : u < ms.length := by rw [HLEN.out]; exact hup
      have hz2 : z < ms.length := by rw [HLEN.out]; exact hzp
      obtain ⟨mcu, mru⟩ := hmc u hu2
      obtain ⟨mcz, mrz⟩ := hmc z hz2
      obtain ⟨rfl, -⟩ := hma (by omega)
      have hbt := fun (W : World) (hb : Below w.heap.size w W) => l21Between_any hg (hvg.below hb (Nat.le_refl _)) (mru.below hb (Nat.le_refl _)) (mrz.below hb (Nat.le_refl _))
      obtain ⟨xa, xc, hxe⟩ := mru.slice
      obtain ⟨ya, yc, hye⟩ := mrz.slice
      rw [hxe] at mcu hbt
      rw [hye] at mcz hbt
      have mcu5 := (hq.cell (cell_lt mcu)).trans mcu
      have mcz5 := (hq.cell (cell_lt mcz)).trans mcz
      have hte : betwB g (mset ms (E[k].getD 0 0)) (mset ms (E[k].getD 1 0)) = betwB g ms[u] ms[z] := by
        rw [hek]
        simp only [List.getD_cons_zero, List.getD_cons_succ, mset, Int.toNat_natCast, getD_lt hu2, getD_lt hz2]
      cases hc : betwB g ms[u] ms[z] with
      | true =>
        have HNX := Lib.hid (show ∀ e ∈ E.take (k + 1), betwB g (mset ms (e.getD 0 0)) (mset ms (e.getD 1 0)) = true from fun e he => by
          rw [htk, List.mem_append, List.mem_singleton] at he
          rcases he with he | rfl
          · exact HN.out e he
          · rw [hte]; exact hc)
        rw [hc] at hbt
        clear hc htk hmem hte hek hre mru mrz hxe hye hcell c0 c1 mcu mcz
        generalize ms[u].length = L1 at *
        generalize ms[z].length = L2 at *
        go_wp2
        refine wp_region_held_drew (S := (fun w' => w'.cell? ⟨w.heap.size, 0, none⟩ = some (.slice ga g.length gc) ∧ w'.cell? ⟨w.heap.size + 2, 0, none⟩ = some (.slice (some ⟨mb, mo, none⟩) ms.length mcap) ∧ w'.cell? ⟨eb, eo + k, none⟩ = some (.slice (some ⟨rb, ro, none⟩) 2 rc) ∧ w'.cell? ⟨rb, ro, none⟩ = some (.int .i64 (u : Int)) ∧ w'.cell? ⟨rb, ro + 1, none⟩ = some (.int .i64 (z : Int)) ∧ w'.cell? ⟨mb, mo + u, none⟩ = some (.slice xa L1 xc) ∧ w'.cell? ⟨mb, mo + z, none⟩ = some (.slice ya L2 yc))) (by kernel_rfl) ?_ (fun hHeld => ?_)
        · first | exact ⟨‹_›, ‹_›, ‹_›, ‹_›, ‹_›, ‹_›, ‹_›⟩ | assumption | (simp [*, go_sem])
        have hqd := hq.drew
        have h4d := h45.drew
        generalize w5.drew = wd at hqd h4d hHeld ⊢
        have hHeld2 := hHeld
        obtain ⟨d0, d2, d3, d4, d5, d6, d7⟩ := hHeld2
        refine wpAnyH_take (i := 0) (v := ?v19) (by simp only [List.getElem?_toArray, List.getElem?_cons_zero]; exact rfl) (by kernel_rfl) (by kernel_rfl) (by kernel_rfl) (by intro _ _ _ h; exact h) (Or.inl ⟨by rfl, ?y19⟩) hHeld ?_
        case y19 => (intro w hSw; (try dsimp only at hSw); go_simp; try (with_reducible rfl))
        try simp only [Act.put, List.setIfInBounds_toArray, List.set_cons_zero, List.set_cons_succ]
        refine wpAnyH_take (i := 1) (v := ?v20) (by simp only [List.getElem?_toArray, List.getElem?_cons_succ, List.getElem?_cons_zero]; exact rfl) (by kernel_rfl) (by kernel_rfl) (by kernel_rfl) (by intro _ _ _ h; exact h) (Or.inl ⟨by rfl, ?y20⟩) hHeld ?_
        case y20 => (intro w hSw; (try dsimp only at hSw); go_simp; try (with_reducible rfl))
        try simp only [Act.put, List.setIfInBounds_toArray, List.set_cons_zero, List.set_cons_succ]
        refine wpAnyH_take (i := 2) (v := ?v21) (by simp only [List.getElem?_toArray, List.getElem?_cons_succ, List.getElem?_cons_zero]; exact rfl) (by kernel_rfl) (by kernel_rfl) (by kernel_rfl) (by intro _ _ _ h; exact h) (Or.inl ⟨by rfl, ?y21⟩) hHeld ?_
        case y21 => (intro w hSw; (try dsimp only at hSw); go_simp; try (with_reducible rfl))
        try simp only [Act.put, List.setIfInBounds_toArray, List.set_cons_zero, List.set_cons_succ]
        refine wpAnyH_take (i := 3) (v := ?v22) (by simp only [List.getElem?_toArray, List.getElem?_cons_succ, List.getElem?_cons_zero]; exact rfl) (by kernel_rfl) (by kernel_rfl) (by kernel_rfl) (by intro _ _ _ h; exact h) (Or.inl ⟨by rfl, ?y22⟩) hHeld ?_
        case y22 => (intro w hSw; (try dsimp only at hSw); go_simp; try (with_reducible rfl))
        try simp only [Act.put, List.setIfInBounds_toArray, List.set_cons_zero, List.set_cons_succ]
        refine wpAnyH_take (i := 4) (v := ?v23) (by simp only [List.getElem?_toArray, List.getElem?_cons_succ, List.getElem?_cons_zero]; exact rfl) (by kernel_rfl) (by kernel_rfl) (by kernel_rfl) (by intro _ _ _ h; exact h) (Or.inl ⟨by rfl, ?y23⟩) hHeld ?_
        case y23 => (intro w hSw; (try dsimp only at hSw); go_simp; try (with_reducible rfl))
        try simp only [Act.put, List.setIfInBounds_toArray, List.set_cons_zero, List.set_cons_succ]
        refine wpAnyH_take (i := 5) (v := ?v24) (by simp only [List.getElem?_toArray, List.getElem?_cons_succ, List.getElem?_cons_zero]; exact rfl) (by kernel_rfl) (by kernel_rfl) (by kernel_rfl) (by intro _ _ _ h; exact h) (Or.inl ⟨by rfl, ?y24⟩) hHeld ?_
        case y24 => (intro w hSw; (try dsimp only at hSw); go_simp; try (with_reducible rfl))
        try simp only [Act.put, List.setIfInBounds_toArray, List.set_cons_zero, List.set_cons_succ]
        refine wpAnyH_take (i := 6) (v := ?v25) (by simp only [List.getElem?_toArray, List.getElem?_cons_succ, List.getElem?_cons_zero]; exact rfl) (by kernel_rfl) (by kernel_rfl) (by kernel_rfl) (by intro _ _ _ h; exact h) (Or.inl ⟨by rfl, ?y25⟩) hHeld ?_
        case y25 => (intro w hSw; (try dsimp only at hSw); go_simp; try (with_reducible rfl))
        try simp only [Act.put, List.setIfInBounds_toArray, List.set_cons_zero, List.set_cons_succ]
        refine wpAnyH_take (i := 7) (v := ?v26) (by simp only [List.getElem?_toArray, List.getElem?_cons_succ, List.getElem?_cons_zero]; exact rfl) (by kernel_rfl) (by kernel_rfl) (by kernel_rfl) (by intro _ _ _ h; exact h) (Or.inl ⟨by rfl, ?y26⟩) hHeld ?_
        case y26 => (intro w hSw; (try dsimp only at hSw); go_simp; try (with_reducible rfl))
        try simp only [Act.put, List.setIfInBounds_toArray, List.set_cons_zero, List.set_cons_succ]
        refine wpAnyH_take (i := 8) (v := ?v27) (by simp only [List.getElem?_toArray, List.getElem?_cons_succ, List.getElem?_cons_zero]; exact rfl) (by kernel_rfl) (by kernel_rfl) (by kernel_rfl) (by intro _ _ _ h; exact h) (Or.inl ⟨by rfl, ?y27⟩) hHeld ?_
        case y27 => (intro w hSw; (try dsimp only at hSw); go_simp; try (with_reducible rfl))
        try simp only [Act.put, List.setIfInBounds_toArray, List.set_cons_zero, List.set_cons_succ]
        refine wpAnyH_take (i := 9) (v := ?v28) (by simp only [List.getElem?_toArray, List.getElem?_cons_succ, List.getElem?_cons_zero]; exact rfl) (by kernel_rfl) (by kernel_rfl) (by kernel_rfl) (by intro _ _ _ h; exact h) (Or.inl ⟨by rfl, ?y28⟩) hHeld ?_
        case y28 => (intro w hSw; (try dsimp only at hSw); go_simp; try (with_reducible rfl))
        try simp only [Act.put, List.setIfInBounds_toArray, List.set_cons_zero, List.set_cons_succ]
        refine wpAnyH_take (i := 10) (v := ?v29) (by simp only [List.getElem?_toArray, List.getElem?_cons_succ, List.getElem?_cons_zero]; exact rfl) (by kernel_rfl) (by kernel_rfl) (by kernel_rfl) (by intro _ _ _ h; exact h) (Or.inl ⟨by rfl, ?y29⟩) hHeld ?_
        case y29 => (intro w hSw; (try dsimp only at hSw); go_simp; try (with_reducible rfl))
        try simp only [Act.put, List.setIfInBounds_toArray, List.set_cons_zero, List.set_cons_succ]
        refine wpAnyH_take (i := 11) (v := ?v30) (by simp only [List.getElem?_toArray, List.getElem?_cons_succ, List.getElem?_cons_zero]; exact rfl) (by kernel_rfl) (by kernel_rfl) (by kernel_rfl) (by intro _ _ _ h; exact h) (Or.inl ⟨by rfl, ?y30⟩) hHeld ?_
        case y30 => (intro w hSw; (try dsimp only at hSw); go_simp; try (with_reducible rfl))
        try simp only [Act.put, List.setIfInBounds_toArray, List.set_cons_zero, List.set_cons_succ]
        refine wpAnyH_take (i := 12) (v := ?v31) (by simp only [List.getElem?_toArray, List.getElem?_cons_succ, List.getElem?_cons_zero]; exact rfl) (by kernel_rfl) (by kernel_rfl) (by kernel_rfl) (by intro _ _ _ h; exact h) (Or.inl ⟨by rfl, ?y31⟩) hHeld ?_
        case y31 => (intro w hSw; (try dsimp only at hSw); go_simp; try (with_reducible rfl))
        try simp only [Act.put, List.setIfInBounds_toArray, List.set_cons_zero, List.set_cons_succ]
        refine wpAnyH_take (i := 13) (v := ?v32) (by simp only [List.getElem?_toArray, List.getElem?_cons_succ, List.getElem?_cons_zero]; exact rfl) (by kernel_rfl) (by kernel_rfl) (by kernel_rfl) (by intro _ _ _ h; exact h) (Or.inl ⟨by rfl, ?y32⟩) hHeld ?_
        case y32 => (intro w hSw; (try dsimp only at hSw); go_simp; try (with_reducible rfl))
        try simp only [Act.put, List.setIfInBounds_toArray, List.set_cons_zero, List.set_cons_succ]
        refine wpAnyH_take (i := 14) (v := ?v33) (by simp only [List.getElem?_toArray, List.getElem?_cons_succ, List.getElem?_cons_zero]; exact rfl) (by kernel_rfl) (by kernel_rfl) (by kernel_rfl) (by intro _ _ _ h; exact h) (Or.inl ⟨by rfl, ?y33⟩) hHeld ?_
        case y33 => (intro w hSw; (try dsimp only at hSw); go_simp; try (with_reducible rfl))
        try simp only [Act.put, List.setIfInBounds_toArray, List.set_cons_zero, List.set_cons_succ]
        refine wpAnyH_take (i := 15) (v := ?v34) (by simp only [List.getElem?_toArray, List.getElem?_cons_succ, List.getElem?_cons_zero]; exact rfl) (by kernel_rfl) (by kernel_rfl) (by kernel_rfl) (by intro _ _ _ h; exact h) (Or.inl ⟨by rfl, ?y34⟩) hHeld ?_
        case y34 => (intro w hSw; (try dsimp only at hSw); go_simp; try (with_reducible rfl))
        try simp only [Act.put, List.setIfInBounds_toArray, List.set_cons_zero, List.set_cons_succ]
        refine wpAnyH_take (i := 16) (v := ?v35) (by simp only [List.getElem?_toArray, List.getElem?_cons_succ, List.getElem?_cons_zero]; exact rfl) (by kernel_rfl) (by kernel_rfl) (by kernel_rfl) (by intro _ _ _ h; exact h) (Or.inl ⟨by rfl, ?y35⟩) hHeld ?_
        case y35 => (intro w hSw; (try dsimp only at hSw); go_simp; try (with_reducible rfl))
        try simp only [Act.put, List.setIfInBounds_toArray, List.set_cons_zero, List.set_cons_succ]
        refine wpAnyH_take (i := 17) (v := ?v36) (by simp only [List.getElem?_toArray, List.getElem?_cons_succ, List.getElem?_cons_zero]; exact rfl) (by kernel_rfl) (by kernel_rfl) (by kernel_rfl) (by intro _ _ _ h; exact h) (Or.inl ⟨by rfl, ?y36⟩) hHeld ?_
        case y36 => (intro w hSw; (try dsimp only at hSw); go_simp; try (with_reducible rfl))
        try simp only [Act.put, List.setIfInBounds_toArray, List.set_cons_zero, List.set_cons_succ]
        refine wpAnyH_take (i := 18) (v := ?v37) (by simp only [List.getElem?_toArray, List.getElem?_cons_succ, List.getElem?_cons_zero]; exact rfl) (by kernel_rfl) (by kernel_rfl) (by kernel_rfl) (by intro _ _ _ h; exact h) (Or.inl ⟨by rfl, ?y37⟩) hHeld ?_
        case y37 => (intro w hSw; (try dsimp only at hSw); go_simp; try (with_reducible rfl))
        try simp only [Act.put, List.setIfInBounds_toArray, List.set_cons_zero, List.set_cons_succ]
        refine wpAnyH_take (i := 19) (v := ?v38) (by simp only [List.getElem?_toArray, List.getElem?_cons_succ, List.getElem?_cons_zero]; exact rfl) (by kernel_rfl) (by kernel_rfl) (by kernel_rfl) (by intro _ _ _ h; exact h) (Or.inl ⟨by rfl, ?y38⟩) hHeld ?_
        case y38 => (intro w hSw; (try dsimp only at hSw); go_simp; try (with_reducible rfl))
        try simp only [Act.put, List.setIfInBounds_toArray, List.set_cons_zero, List.set_cons_succ]
        refine wpAnyH_take (i := 20) (v := ?v39) (by simp only [List.getElem?_toArray, List.getElem?_cons_succ, List.getElem?_cons_zero]; exact rfl) (by kernel_rfl) (by kernel_rfl) (by kernel_rfl) (by intro _ _ _ h; exact h) (Or.inl ⟨by rfl, ?y39⟩) hHeld ?_
        case y39 => (intro w hSw; (try dsimp only at hSw); go_simp; try (with_reducible rfl))
        try simp only [Act.put, List.setIfInBounds_toArray, List.set_cons_zero, List.set_cons_succ]
        refine wpAnyH_ready (rs := [21]) (by kernel_rfl) (by simp) ?_
        refine AllReadyH.cons (by simp only [List.getElem?_toArray, List.getElem?_cons_succ, List.getElem?_cons_zero]; exact rfl) (fun K hK => ?_) AllReadyH.nil
        go_simp
        refine (hbt _ hqd).mono ?_
        rintro e wn ⟨rr, rfl, hbn⟩
        have hqd := hqd.trans (hbn.mono hqd.size)
        have h4d := h4d.trans (hbn.mono h4d.size)
        have d0 := (hbn.cell (cell_lt d0)).trans d0
        have d2 := (hbn.cell (cell_lt d2)).trans d2
        have d3 := (hbn.cell (cell_lt d3)).trans d3
        have d4 := (hbn.cell (cell_lt d4)).trans d4
        have d5 := (hbn.cell (cell_lt d5)).trans d5
        have d6 := (hbn.cell (cell_lt d6)).trans d6
        have d7 := (hbn.cell (cell_lt d7)).trans d7
        try dsimp only
        refine hK.out _ _ ?h41 (fun hHeld => ?_)
        case h41 => first | exact ⟨‹_›, ‹_›, ‹_›, ‹_›, ‹_›, ‹_›, ‹_›⟩ | assumption | (simp [*, go_sem])
        clear hK K
        try simp only [Act.put, List.setIfInBounds_toArray, List.set_cons_zero, List.set_cons_succ]
        refine wpAnyH_take (i := 22) (v := ?v42) (by simp only [List.getElem?_toArray, List.getElem?_cons_succ, List.getElem?_cons_zero]; exact rfl) (by kernel_rfl) (by kernel_rfl) (by kernel_rfl) (by intro _ _ _ h; exact h) (Or.inl ⟨by rfl, ?y42⟩) hHeld ?_
        case y42 => (intro w hSw; (try dsimp only at hSw); go_simp; try (with_reducible rfl))
        try simp only [Act.put, List.setIfInBounds_toArray, List.set_cons_zero, List.set_cons_succ]
        refine wpAnyH_take (i := 23) (v := ?v43) (by simp only [List.getElem?_toArray, List.getElem?_cons_succ, List.getElem?_cons_zero]; exact rfl) (by kernel_rfl) (by kernel_rfl) (by kernel_rfl) (by intro _ _ _ h; exact h) (Or.inl ⟨by rfl, ?y43⟩) hHeld ?_
        case y43 => (intro w hSw; (try dsimp only at hSw); go_simp; try (with_reducible rfl))
        try simp only [Act.put, List.setIfInBounds_toArray, List.set_cons_zero, List.set_cons_succ]
        refine wpAnyH_take (i := 24) (v := ?v44) (by simp only [List.getElem?_toArray, List.getElem?_cons_succ, List.getElem?_cons_zero]; exact rfl) (by kernel_rfl) (by kernel_rfl) (by kernel_rfl) (by intro _ _ _ h; exact h) (Or.inl ⟨by rfl, ?y44⟩) hHeld ?_
        case y44 => (intro w hSw; (try dsimp only at hSw); go_simp; try (with_reducible rfl))
        try simp only [Act.put, List.setIfInBounds_toArray, List.set_cons_zero, List.set_cons_succ]
        refine wpAnyH_take (i := 25) (v := ?v45) (by simp only [List.getElem?_toArray, List.getElem?_cons_succ, List.getElem?_cons_zero]; exact rfl) (by kernel_rfl) (by kernel_rfl) (by kernel_rfl) (by intro _ _ _ h; exact h) (Or.inl ⟨by rfl, ?y45⟩) hHeld ?_
        case y45 => (intro w hSw; (try dsimp only at hSw); go_simp; try (with_reducible rfl))
        try simp only [Act.put, List.setIfInBounds_toArray, List.set_cons_zero, List.set_cons_succ]
        refine wpAnyH_take (i := 26) (v := ?v46) (by simp only [List.getElem?_toArray, List.getElem?_cons_succ, List.getElem?_cons_zero]; exact rfl) (by kernel_rfl) (by kernel_rfl) (by kernel_rfl) (by intro _ _ _ h; exact h) (Or.inl ⟨by rfl, ?y46⟩) hHeld ?_
        case y46 => (intro w hSw; (try dsimp only at hSw); go_simp; try (with_reducible rfl))
        try simp only [Act.put, List.setIfInBounds_toArray, List.set_cons_zero, List.set_cons_succ]
        refine wpAnyH_done (by kernel_rfl) ?_ _
        clear hq h45 b0 b2 hcell5 c05 c15 mcu5 mcz5 hHeld
        go_wp2
        go_roundw
        case rel => exact ⟨k + 1, by omega, by go_num, HNX, hqd, h4d, d0, d2⟩
        case measure => simp [intOf]; omega
      | false =>
        have HF := Lib.hid (show modelOkB g p ms = false by
          rw [HM3.out]
          exact List.all_eq_false.2 ⟨_, hmem, by rw [hte, hc]; simp⟩)
        rw [hc] at hbt
        clear hc htk hmem hte hek hre mru mrz hxe hye hcell c0 c1 mcu mcz
        generalize ms[u].length = L1 at *
        generalize ms[z].length = L2 at *
        go_wp2
        refine wp_region_held_drew (S := (fun w' => w'.cell? ⟨w.heap.size, 0, none⟩ = some (.slice ga g.length gc) ∧ w'.cell? ⟨w.heap.size + 2, 0, none⟩ = some (.slice (some ⟨mb, mo, none⟩) ms.length mcap) ∧ w'.cell? ⟨eb, eo + k, none⟩ = some (.slice (some ⟨rb, ro, none⟩) 2 rc) ∧ w'.cell? ⟨rb, ro, none⟩ = some (.int .i64 (u : Int)) ∧ w'.cell? ⟨rb, ro + 1, none⟩ = some (.int .i64 (z : Int)) ∧ w'.cell? ⟨mb, mo + u, none⟩ = some (.slice xa L1 xc) ∧ w'.cell? ⟨mb, mo + z, none⟩ = some (.slice ya L2 yc))) (by kernel_rfl) ?_ (fun hHeld => ?_)
        · first | exact ⟨‹_›, ‹_›, ‹_›, ‹_›, ‹_›, ‹_›, ‹_›⟩ | assumption | (simp [*, go_sem])
        have hqd := hq.drew
        generalize w5.drew = wd at hqd hHeld ⊢
        have hHeld2 := hHeld
        obtain ⟨d0, d2, d3, d4, d5, d6, d7⟩ := hHeld2
        refine wpAnyH_take (i := 0) (v := ?v47) (by simp only [List.getElem?_toArray, List.getElem?_cons_zero]; exact rfl) (by kernel_rfl) (by kernel_rfl) (by kernel_rfl) (by intro _ _ _ h; exact h) (Or.inl ⟨by rfl, ?y47⟩) hHeld ?_
        case y47 => (intro w hSw; (try dsimp only at hSw); go_simp; try (with_reducible rfl))
        try simp only [Act.put, List.setIfInBounds_toArray, List.set_cons_zero, List.set_cons_succ]
        refine wpAnyH_take (i := 1) (v := ?v48) (by simp only [List.getElem?_toArray, List.getElem?_cons_succ, List.getElem?_cons_zero]; exact rfl) (by kernel_rfl) (by kernel_rfl) (by kernel_rfl) (by intro _ _ _ h; exact h) (Or.inl ⟨by rfl, ?y48⟩) hHeld ?_
        case y48 => (intro w hSw; (try dsimp only at hSw); go_simp; try (with_reducible rfl))
        try simp only [Act.put, List.setIfInBounds_toArray, List.set_cons_zero, List.set_cons_succ]
        refine wpAnyH_take (i := 2) (v := ?v49) (by simp only [List.getElem?_toArray, List.getElem?_cons_succ, List.getElem?_cons_zero]; exact rfl) (by kernel_rfl) (by kernel_rfl) (by kernel_rfl) (by intro _ _ _ h; exact h) (Or.inl ⟨by rfl, ?y49⟩) hHeld ?_
        case y49 => (intro w hSw; (try dsimp only at hSw); go_simp; try (with_reducible rfl))
        try simp only [Act.put, List.setIfInBounds_toArray, List.set_cons_zero, List.set_cons_succ]
        refine wpAnyH_take (i := 3) (v := ?v50) (by simp only [List.getElem?_toArray, List.getElem?_cons_succ, List.getElem?_cons_zero]; exact rfl) (by kernel_rfl) (by kernel_rfl) (by kernel_rfl) (by intro _ _ _ h; exact h) (Or.inl ⟨by rfl, ?y50⟩) hHeld ?_
        case y50 => (intro w hSw; (try dsimp only at hSw); go_simp; try (with_reducible rfl))
        try simp only [Act.put, List.setIfInBounds_toArray, List.set_cons_zero, List.set_cons_succ]
        refine wpAnyH_take (i := 4) (v := ?v51) (by simp only [List.getElem?_toArray, List.getElem?_cons_succ, List.getElem?_cons_zero]; exact rfl) (by kernel_rfl) (by kernel_rfl) (by kernel_rfl) (by intro _ _ _ h; exact h) (Or.inl ⟨by rfl, ?y51⟩) hHeld ?_
        case y51 => (intro w hSw; (try dsimp only at hSw); go_simp; try (with_reducible rfl))
        try simp only [Act.put, List.setIfInBounds_toArray, List.set_cons_zero, List.set_cons_succ]
        refine wpAnyH_take (i := 5) (v := ?v52) (by simp only [List.getElem?_toArray, List.getElem?_cons_succ, List.getElem?_cons_zero]; exact rfl) (by kernel_rfl) (by kernel_rfl) (by kernel_rfl) (by intro _ _ _ h; exact h) (Or.inl ⟨by rfl, ?y52⟩) hHeld ?_
        case y52 => (intro w hSw; (try dsimp only at hSw); go_simp; try (with_reducible rfl))
        try simp only [Act.put, List.setIfInBounds_toArray, List.set_cons_zero, List.set_cons_succ]
        refine wpAnyH_take (i := 6) (v := ?v53) (by simp only [List.getElem?_toArray, List.getElem?_cons_succ, List.getElem?_cons_zero]; exact rfl) (by kernel_rfl) (by kernel_rfl) (by kernel_rfl) (by intro _ _ _ h; exact h) (Or.inl ⟨by rfl, ?y53⟩) hHeld ?_
        case y53 => (intro w hSw; (try dsimp only at hSw); go_simp; try (with_reducible rfl))
        try simp only [Act.put, List.setIfInBounds_toArray, List.set_cons_zero, List.set_cons_succ]
        refine wpAnyH_take (i := 7) (v := ?v54) (by simp only [List.getElem?_toArray, List.getElem?_cons_succ, List.getElem?_cons_zero]; exact rfl) (by kernel_rfl) (by kernel_rfl) (by kernel_rfl) (by intro _ _ _ h; exact h) (Or.inl ⟨by rfl, ?y54⟩) hHeld ?_
        case y54 => (intro w hSw; (try dsimp only at hSw); go_simp; try (with_reducible rfl))
        try simp only [Act.put, List.setIfInBounds_toArray, List.set_cons_zero, List.set_cons_succ]
        refine wpAnyH_take (i := 8) (v := ?v55) (by simp only [List.getElem?_toArray, List.getElem?_cons_succ, List.getElem?_cons_zero]; exact rfl) (by kernel_rfl) (by kernel_rfl) (by kernel_rfl) (by intro _ _ _ h; exact h) (Or.inl ⟨by rfl, ?y55⟩) hHeld ?_
        case y55 => (intro w hSw; (try dsimp only at hSw); go_simp; try (with_reducible rfl))
        try simp only [Act.put, List.setIfInBounds_toArray, List.set_cons_zero, List.set_cons_succ]
        refine wpAnyH_take (i := 9) (v := ?v56) (by simp only [List.getElem?_toArray, List.getElem?_cons_succ, List.getElem?_cons_zero]; exact rfl) (by kernel_rfl) (by kernel_rfl) (by kernel_rfl) (by intro _ _ _ h; exact h) (Or.inl ⟨by rfl, ?y56⟩) hHeld ?_
        case y56 => (intro w hSw; (try dsimp only at hSw); go_simp; try (with_reducible rfl))
        try simp only [Act.put, List.setIfInBounds_toArray, List.set_cons_zero, List.set_cons_succ]
        refine wpAnyH_take (i := 10) (v := ?v57) (by simp only [List.getElem?_toArray, List.getElem?_cons_succ, List.getElem?_cons_zero]; exact rfl) (by kernel_rfl) (by kernel_rfl) (by kernel_rfl) (by intro _ _ _ h; exact h) (Or.inl ⟨by rfl, ?y57⟩) hHeld ?_
        case y57 => (intro w hSw; (try dsimp only at hSw); go_simp; try (with_reducible rfl))
        try simp only [Act.put, List.setIfInBounds_toArray, List.set_cons_zero, List.set_cons_succ]
        refine wpAnyH_take (i := 11) (v := ?v58) (by simp only [List.getElem?_toArray, List.getElem?_cons_succ, List.getElem?_cons_zero]; exact rfl) (by kernel_rfl) (by kernel_rfl) (by kernel_rfl) (by intro _ _ _ h; exact h) (Or.inl ⟨by rfl, ?y58⟩) hHeld ?_
        case y58 => (intro w hSw; (try dsimp only at hSw); go_simp; try (with_reducible rfl))
        try simp only [Act.put, List.setIfInBounds_toArray, List.set_cons_zero, List.set_cons_succ]
        refine wpAnyH_take (i := 12) (v := ?v59) (by simp only [List.getElem?_toArray, List.getElem?_cons_succ, List.getElem?_cons_zero]; exact rfl) (by kernel_rfl) (by kernel_rfl) (by kernel_rfl) (by intro _ _ _ h; exact h) (Or.inl ⟨by rfl, ?y59⟩) hHeld ?_
        case y59 => (intro w hSw; (try dsimp only at hSw); go_simp; try (with_reducible rfl))
        try simp only [Act.put, List.setIfInBounds_toArray, List.set_cons_zero, List.set_cons_succ]
        refine wpAnyH_take (i := 13) (v := ?v60) (by simp only [List.getElem?_toArray, List.getElem?_cons_succ, List.getElem?_cons_zero]; exact rfl) (by kernel_rfl) (by kernel_rfl) (by kernel_rfl) (by intro _ _ _ h; exact h) (Or.inl ⟨by rfl, ?y60⟩) hHeld ?_
        case y60 => (intro w hSw; (try dsimp only at hSw); go_simp; try (with_reducible rfl))
        try simp only [Act.put, List.setIfInBounds_toArray, List.set_cons_zero, List.set_cons_succ]
        refine wpAnyH_take (i := 14) (v := ?v61) (by simp only [List.getElem?_toArray, List.getElem?_cons_succ, List.getElem?_cons_zero]; exact rfl) (by kernel_rfl) (by kernel_rfl) (by kernel_rfl) (by intro _ _ _ h; exact h) (Or.inl ⟨by rfl, ?y61⟩) hHeld ?_
        case y61 => (intro w hSw; (try dsimp only at hSw); go_simp; try (with_reducible rfl))
        try simp only [Act.put, List.setIfInBounds_toArray, List.set_cons_zero, List.set_cons_succ]
        refine wpAnyH_take (i := 15) (v := ?v62) (by simp only [List.getElem?_toArray, List.getElem?_cons_succ, List.getElem?_cons_zero]; exact rfl) (by kernel_rfl) (by kernel_rfl) (by kernel_rfl) (by intro _ _ _ h; exact h) (Or.inl ⟨by rfl, ?y62⟩) hHeld ?_
        case y62 => (intro w hSw; (try dsimp only at hSw); go_simp; try (with_reducible rfl))
        try simp only [Act.put, List.setIfInBounds_toArray, List.set_cons_zero, List.set_cons_succ]
        refine wpAnyH_take (i := 16) (v := ?v63) (by simp only [List.getElem?_toArray, List.getElem?_cons_succ, List.getElem?_cons_zero]; exact rfl) (by kernel_rfl) (by kernel_rfl) (by kernel_rfl) (by intro _ _ _ h; exact h) (Or.inl ⟨by rfl, ?y63⟩) hHeld ?_
        case y63 => (intro w hSw; (try dsimp only at hSw); go_simp; try (with_reducible rfl))
        try simp only [Act.put, List.setIfInBounds_toArray, List.set_cons_zero, List.set_cons_succ]
        refine wpAnyH_take (i := 17) (v := ?v64) (by simp only [List.getElem?_toArray, List.getElem?_cons_succ, List.getElem?_cons_zero]; exact rfl) (by kernel_rfl) (by kernel_rfl) (by kernel_rfl) (by intro _ _ _ h; exact h) (Or.inl ⟨by rfl, ?y64⟩) hHeld ?_
        case y64 => (intro w hSw; (try dsimp only at hSw); go_simp; try (with_reducible rfl))
        try simp only [Act.put, List.setIfInBounds_toArray, List.set_cons_zero, List.set_cons_succ]
        refine wpAnyH_take (i := 18) (v := ?v65) (by simp only [List.getElem?_toArray, List.getElem?_cons_succ, List.getElem?_cons_zero]; exact rfl) (by kernel_rfl) (by kernel_rfl) (by kernel_rfl) (by intro _ _ _ h; exact h) (Or.inl ⟨by rfl, ?y65⟩) hHeld ?_
        case y65 => (intro w hSw; (try dsimp only at hSw); go_simp; try (with_reducible rfl))
        try simp only [Act.put, List.setIfInBounds_toArray, List.set_cons_zero, List.set_cons_succ]
        refine wpAnyH_take (i := 19) (v := ?v66) (by simp only [List.getElem?_toArray, List.getElem?_cons_succ, List.getElem?_cons_zero]; exact rfl) (by kernel_rfl) (by kernel_rfl) (by kernel_rfl) (by intro _ _ _ h; exact h) (Or.inl ⟨by rfl, ?y66⟩) hHeld ?_
        case y66 => (intro w hSw; (try dsimp only at hSw); go_simp; try (with_reducible rfl))
        try simp only [Act.put, List.setIfInBounds_toArray, List.set_cons_zero, List.set_cons_succ]
        refine wpAnyH_take (i := 20) (v := ?v67) (by simp only [List.getElem?_toArray, List.getElem?_cons_succ, List.getElem?_cons_zero]; exact rfl) (by kernel_rfl) (by kernel_rfl) (by kernel_rfl) (by intro _ _ _ h; exact h) (Or.inl ⟨by rfl, ?y67⟩) hHeld ?_
        case y67 => (intro w hSw; (try dsimp only at hSw); go_simp; try (with_reducible rfl))
        try simp only [Act.put, List.setIfInBounds_toArray, List.set_cons_zero, List.set_cons_succ]
        refine wpAnyH_ready (rs := [21]) (by kernel_rfl) (by simp) ?_
        refine AllReadyH.cons (by simp only [List.getElem?_toArray, List.getElem?_cons_succ, List.getElem?_cons_zero]; exact rfl) (fun K hK => ?_) AllReadyH.nil
        go_simp
        refine (hbt _ hqd).mono ?_
        rintro e wn ⟨rr, rfl, hbn⟩
        have hqd := hqd.trans (hbn.mono hqd.size)
        have d0 := (hbn.cell (cell_lt d0)).trans d0
        have d2 := (hbn.cell (cell_lt d2)).trans d2
        have d3 := (hbn.cell (cell_lt d3)).trans d3
        have d4 := (hbn.cell (cell_lt d4)).trans d4
        have d5 := (hbn.cell (cell_lt d5)).trans d5
        have d6 := (hbn.cell (cell_lt d6)).trans d6
        have d7 := (hbn.cell (cell_lt d7)).trans d7
        try dsimp only
        refine hK.out _ _ ?h69 (fun hHeld => ?_)
        case h69 => first | exact ⟨‹_›, ‹_›, ‹_›, ‹_›, ‹_›, ‹_›, ‹_›⟩ | assumption | (simp [*, go_sem])
        clear hK K
        try simp only [Act.put, List.setIfInBounds_toArray, List.set_cons_zero, List.set_cons_succ]
        refine wpAnyH_take (i := 22) (v := ?v70) (by simp only [List.getElem?_toArray, List.getElem?_cons_succ, List.getElem?_cons_zero]; exact rfl) (by kernel_rfl) (by kernel_rfl) (by kernel_rfl) (by intro _ _ _ h; exact h) (Or.inl ⟨by rfl, ?y70⟩) hHeld ?_
        case y70 => (intro w hSw; (try dsimp only at hSw); go_simp; try (with_reducible rfl))
        try simp only [Act.put, List.setIfInBounds_toArray, List.set_cons_zero, List.set_cons_succ]
        refine wpAnyH_take (i := 23) (v := ?v71) (by simp only [List.getElem?_toArray, List.getElem?_cons_succ, List.getElem?_cons_zero]; exact rfl) (by kernel_rfl) (by kernel_rfl) (by kernel_rfl) (by intro _ _ _ h; exact h) (Or.inl ⟨by rfl, ?y71⟩) hHeld ?_
        case y71 => (intro w hSw; (try dsimp only at hSw); go_simp; try (with_reducible rfl))
        try simp only [Act.put, List.setIfInBounds_toArray, List.set_cons_zero, List.set_cons_succ]
        refine wpAnyH_take (i := 24) (v := ?v72) (by simp only [List.getElem?_toArray, List.getElem?_cons_succ, List.getElem?_cons_zero]; exact rfl) (by kernel_rfl) (by kernel_rfl) (by kernel_rfl) (by intro _ _ _ h; exact h) (Or.inl ⟨by rfl, ?y72⟩) hHeld ?_
        case y72 => (intro w hSw; (try dsimp only at hSw); go_simp; try (with_reducible rfl))
        try simp only [Act.put, List.setIfInBounds_toArray, List.set_cons_zero, List.set_cons_succ]
        refine wpAnyH_take (i := 25) (v := ?v73) (by simp only [List.getElem?_toArray, List.getElem?_cons_succ, List.getElem?_cons_zero]; exact rfl) (by kernel_rfl) (by kernel_rfl) (by kernel_rfl) (by intro _ _ _ h; exact h) (Or.inl ⟨by rfl, ?y73⟩) hHeld ?_
        case y73 => (intro w hSw; (try dsimp only at hSw); go_simp; try (with_reducible rfl))
        try simp only [Act.put, List.setIfInBounds_toArray, List.set_cons_zero, List.set_cons_succ]
        refine wpAnyH_take (i := 26) (v := ?v74) (by simp only [List.getElem?_toArray, List.getElem?_cons_succ, List.getElem?_cons_zero]; exact rfl) (by kernel_rfl) (by kernel_rfl) (by kernel_rfl) (by intro _ _ _ h; exact h) (Or.inl ⟨by rfl, ?y74⟩) hHeld ?_
        case y74 => (intro w hSw; (try dsimp only at hSw); go_simp; try (with_reducible rfl))
        try simp only [Act.put, List.setIfInBounds_toArray, List.set_cons_zero, List.set_cons_succ]
        refine wpAnyH_done (by kernel_rfl) ?_ _
        go_wp2
        go_ret
        exact ⟨by rw [HF.out]; rfl, hqd⟩
end Go.Proofs.YtklnjpdpinccoaaDoor
