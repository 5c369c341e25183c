/- ModelOk of the program; the law. -/
import Derived.Test.YtfkdhlmigbkefaaDoorModOk2
namespace Go.Proofs.YtfkdhlmigbkefaaDoor
open Go.RowKit
theorem maskRise_lt {s : List Int} {n : Nat} (h : Rise s n) : maskL s < 2 ^ n := maskL_lt (n := n) fun x hx => rise_ge h x hx
theorem masks_get {ms : List (List Int)} {k : Nat} (hk : k < ms.length) : (masksOf ms ms.length).getD k 0 = maskL ms[k] := by simp [masksOf, hk]
theorem anyNo_law {g p ms : List (List Int)} (hg : GOk g) (hp : GOk p) (hri : ∀ k (hk : k < ms.length), Rise ms[k] g.length) (hlen : ms.length = p.length) :
    (!anyNo (netsL g) (masksOf ms ms.length) (edgesL p)) = ((edgesL p).all fun e => betwB g (mset ms (e.getD 0 0)) (mset ms (e.getD 1 0))) := by
  unfold anyNo
  rw [List.not_any_eq_all_not]
  rw [Bool.eq_iff_iff, List.all_eq_true, List.all_eq_true]
  have key : ∀ e ∈ edgesL p, (!(!joinB (netsL g) ((masksOf ms ms.length).getD (e.getD 0 0).toNat 0) ((masksOf ms ms.length).getD (e.getD 1 0).toNat 0))) = betwB g (mset ms (e.getD 0 0)) (mset ms (e.getD 1 0)) := by
    intro e he
    obtain ⟨u, v, hu, hv, -, -, rfl⟩ := (mem_edgesL hp).1 he
    have hu2 : u < ms.length := by omega
    have hv2 : v < ms.length := by omega
    rw [Bool.not_not]
    simp only [List.getD_cons_zero, List.getD_cons_succ, Int.toNat_natCast, masks_get hu2, masks_get hv2, mset, getD_lt hu2, getD_lt hv2]
    exact join_betw hg (hri u hu2) (hri v hv2)
  constructor
  · intro h e he; rw [← key e he]; exact h e he
  · intro h e he; rw [key e he]; exact h e he
set_option maxRecDepth 100000 in
set_option maxHeartbeats 8000000 in
theorem implModelOk_any {S0 S1 S2 : Nat → Prop} {gv pv mv : Value} {g p ms : List (List Int)} {w : World} (ht : Tab w) (hvg : SlR S0 w gv g) (hvp : SlR S1 w pv p) (hvm : SlR S2 w mv ms) :
    Calls Tryd.prog 27 #[.agg #[gv], .agg #[pv], .agg #[mv]] w fun e w' => e = .returned (.bool (modelOkB g p ms)) ∧ Below w.heap.size w w' := by
  have hq0 : Below w.heap.size w (((w.alloc (.cells #[gv] 27)).alloc (.cells #[pv] 27)).alloc (.cells #[mv] 45)) := (((Below.refl _ _).alloc (Nat.le_refl _) _).alloc (by simp) _).alloc (by simp; omega) _
  obtain ⟨ga, gc, rfl⟩ := hvg.slice
  obtain ⟨pa, pc, rfl⟩ := hvp.slice
  obtain ⟨ma, mc, rfl⟩ := hvm.slice
  have hmm := modelMasks_any (hvg.below hq0 (Nat.le_refl _)) (hvm.below hq0 (Nat.le_refl _))
  have hpo := fun (W : World) (hb : Below w.heap.size w W) => implGraphOk_any _ _ _ (hvp.below hb (Nat.le_refl _))
  by_cases h1 : modelF g ms = none
  case pos =>
    rw [h1] at hmm
    have HE := Lib.hid (show modelOkB g p ms = false by simp [modelOkB, h1])
    clear h1 hpo
    go_enter Tryd.func27, Tryd.ntmps27
    go_wp2_with fail
    refine hmm.mono ?_
    rintro e w1 ⟨u, rfl, hu, -, hb1⟩
    obtain rfl : u = .slice none 0 0 := by simpa using hu
    simp only [Option.isSome_none]
    clear hmm
    go_wp2
    go_ret
    exact ⟨by rw [HE.out]; rfl, (hq0.trans (hb1.mono hq0.size)).alloc (by have := hq0.size; have := hb1.size; omega) _⟩
  have h1s : (modelF g ms).isSome = true := by
    cases e : modelF g ms
    · exact absurd e h1
    · rfl
  obtain ⟨hg, hm16, hri⟩ := modelF_parts h1
  have HMO := Lib.hid (show modelOkB g p ms = (gokB p && decide (ms.length = p.length) && (ms.all fun s => connB g (maskL s)) && (edgesL p).all fun e => betwB g (mset ms (e.getD 0 0)) (mset ms (e.getD 1 0))) by rw [modelOkB, h1s, Bool.true_and])
  have h1S := Lib.hid h1s
  have h1N := Lib.hid h1
  have hml := masksOf_len (Nat.le_refl ms.length)
  clear h1 h1s
  go_enter Tryd.func27, Tryd.ntmps27
  go_wp2_with fail
  refine hmm.mono ?_
  rintro e w1 ⟨u, rfl, -, hu, hb1⟩
  have hu := hu h1N.out
  rw [h1S.out]
  have hq1 := hq0.trans (hb1.mono hq0.size)
  have b0 : w1.cell? ⟨w.heap.size, 0, none⟩ = some (.slice ga g.length gc) := (hb1.cell (p := ⟨w.heap.size, 0, none⟩) (by simp <;> omega)).trans (by simp [go_sem])
  have b1 : w1.cell? ⟨w.heap.size + 1, 0, none⟩ = some (.slice pa p.length pc) := (hb1.cell (p := ⟨w.heap.size + 1, 0, none⟩) (by simp <;> omega)).trans (by simp [go_sem])
  have hui := (Own.ints (xs := natsI (masksOf ms ms.length)) hu (by omega)).low2
  obtain ⟨ua, uc, rfl⟩ := hu.isSlice
  have hb2 : Below w1.heap.size w1 (w1.alloc (.cells #[.slice ua ms.length uc] 54)) := (Below.refl _ _).alloc (Nat.le_refl _) _
  have b3 : (w1.alloc (.cells #[.slice ua ms.length uc] 54)).cell? ⟨w1.heap.size, 0, none⟩ = some (.slice ua ms.length uc) := by simp [go_sem]
  have hq2 := hq1.trans (hb2.mono hq1.size)
  have b0 := (hb2.cell (cell_lt b0)).trans b0
  have b1 := (hb2.cell (cell_lt b1)).trans b1
  have hui := hui.below hb2 (Nat.le_refl _)
  have hpo1 := hpo _ hq2
  have hn1 : w.heap.size + 2 < w1.heap.size := by have := hb1.size; simp at this; omega
  have hql : w1.heap.size < (w1.alloc (.cells #[.slice ua ms.length uc] 54)).heap.size := by simp
  by_cases hgp : gokB p = true
  case neg =>
    have hgp' : gokB p = false := by simpa using hgp
    rw [hgp'] at hpo1
    have HE := Lib.hid (show modelOkB g p ms = false by rw [HMO.out, hgp']; rfl)
    clear hgp hgp' hui b3
    go_wp2_with fail
    refine hpo1.mono ?_
    rintro e w2 ⟨rfl, hb3⟩
    go_wp2
    go_ret
    exact ⟨by rw [HE.out]; rfl, hq2.trans (hb3.mono hq2.size)⟩
  rw [hgp] at hpo1
  have hgP := gokB_iff.1 hgp
  by_cases hlen : ms.length = p.length
  case neg =>
    have HE := Lib.hid (show modelOkB g p ms = false by rw [HMO.out, hgp, decide_eq_false hlen]; rfl)
    have hn1 : ((ms.length : Int) != (p.length : Int)) = true := by rw [bne_iff_ne]; omega
    have hn2 : (ms.length != p.length) = true := by rw [bne_iff_ne]; omega
    clear hgp
    go_wp2_with fail
    refine hpo1.mono ?_
    rintro e w2 ⟨rfl, hb3⟩
    have b1 := (hb3.cell (cell_lt b1)).trans b1
    have b3 := (hb3.cell (cell_lt b3)).trans b3
    go_wp2
    go_ret
    exact ⟨by rw [HE.out]; rfl, hq2.trans (hb3.mono hq2.size)⟩
  have HM2 := Lib.hid (show modelOkB g p ms = ((ms.all fun s => connB g (maskL s)) && !anyNo (netsL g) (masksOf ms ms.length) (edgesL p)) by rw [HMO.out, hgp, decide_eq_true hlen, anyNo_law hg hgP hri hlen]; rfl)
  have hn1 : ((ms.length : Int) != (p.length : Int)) = false := by simp [hlen]
  have hn2 : (ms.length != p.length) = false := by simp [hlen]
  have HLEN := Lib.hid hlen
  have hsm := edges_small hgP
  have HGP := Lib.hid hgP
  have hedge := fun (W : World) (hb : Below w.heap.size w W) => edgesOf_any hgP (hvp.below hb (Nat.le_refl _))
  have hnet := fun (W : World) (hb : Below w.heap.size w W) => netsOf_any _ _ _ (hvg.below hb (Nat.le_refl _)) hg
  have hM : ∀ m ∈ masksOf ms ms.length, m < 2 ^ g.length := fun m hm => by
    simp only [masksOf, List.take_length, List.mem_map] at hm
    obtain ⟨s, hs, rfl⟩ := hm
    obtain ⟨k, hk, rfl⟩ := List.getElem_of_mem hs
    exact maskRise_lt (hri k hk)
  have HMG := Lib.hid (fun k (hk : k < ms.length) => show (masksOf ms ms.length).getD k 0 = maskL ms[k] from masks_get hk)
  generalize masksOf ms ms.length = M at *
  clear hgp HMO hlen hgP hmm hb1 hpo
  go_wp2_with fail
  refine hpo1.mono ?_
  rintro e w2 ⟨rfl, hb3⟩
  have b0 := (hb3.cell (cell_lt b0)).trans b0
  have b1 := (hb3.cell (cell_lt b1)).trans b1
  have b3 := (hb3.cell (cell_lt b3)).trans b3
  have hui := hui.below hb3 (Nat.le_refl _)
  have hq3 := hq2.trans (hb3.mono hq2.size)
  have hql := Nat.lt_of_lt_of_le hql hb3.size
  have hnt := hnet _ hq3
  clear hpo1 hnet hb2 hb3 hq2 hq1
  go_wp2_with fail
  refine hnt.mono ?_
  rintro e w3 ⟨nv, rfl, hnv, hb4⟩
  have b0 := (hb4.cell (cell_lt b0)).trans b0
  have b1 := (hb4.cell (cell_lt b1)).trans b1
  have b3 := (hb4.cell (cell_lt b3)).trans b3
  have hui := hui.below hb4 (Nat.le_refl _)
  have hq4 := hq3.trans (hb4.mono hq3.size)
  have hql := Nat.lt_of_lt_of_le hql hb4.size
  have h16 := hg.hi
  have hni := (Own.ints (xs := natsI (netsL g)) hnv (by omega)).low2
  obtain ⟨na, nc, rfl⟩ := hnv.isSlice
  have hb5 : Below w3.heap.size w3 (w3.alloc (.cells #[.slice na g.length nc] 55)) := (Below.refl _ _).alloc (Nat.le_refl _) _
  have b4 : (w3.alloc (.cells #[.slice na g.length nc] 55)).cell? ⟨w3.heap.size, 0, none⟩ = some (.slice na g.length nc) := by simp [go_sem]
  have b0 := (hb5.cell (cell_lt b0)).trans b0
  have b1 := (hb5.cell (cell_lt b1)).trans b1
  have b3 := (hb5.cell (cell_lt b3)).trans b3
  have hui := hui.below hb5 (Nat.le_refl _)
  have hni := hni.below hb5 (Nat.le_refl _)
  have hq5 := hq4.trans (hb5.mono hq4.size)
  have hql := Nat.lt_of_lt_of_le hql hb5.size
  clear hnt hnv hb4 hb5 hq3 hq4 b0
  go_wp2_with fail
  go_loopw [37] (fun i wr => ∃ k : Nat, k ≤ ms.length ∧ i = .int .i64 k ∧ RowKit.Hid (∀ s ∈ ms.take k, connB g (maskL s) = true) ∧ Below w.heap.size w wr ∧ SlI (fun b => b < w1.heap.size) wr .u32 (.slice ua ms.length uc) (natsI M) ∧ SlI (fun b => b < w3.heap.size) wr .u32 (.slice na g.length nc) (natsI (netsL g)) ∧ wr.cell? ⟨w.heap.size + 1, 0, none⟩ = some (.slice pa p.length pc) ∧ wr.cell? ⟨w1.heap.size, 0, none⟩ = some (.slice ua ms.length uc) ∧ wr.cell? ⟨w3.heap.size, 0, none⟩ = some (.slice na g.length nc)) (fun i _ => ms.length - (intOf i).toNat)
  case atStart => exact ⟨0, Nat.zero_le _, rfl, Lib.hid (by simp), hq5, hui, hni, b1, b3, b4⟩
  case round =>
    clear hq5 hui hni b1 b3 b4 hql
    obtain ⟨w4, rfl⟩ : ∃ wx : World, wx = wr := ⟨_, rfl⟩
    obtain ⟨k, hk, rfl, HN, hq, hui, hni, c1, c3, c4⟩ := hrel
    by_cases hlt : k < ms.length
    case pos =>
      obtain ⟨ub, uo, ucap, hue, huc⟩ := hui.at_
      rw [natsI_len, hml] at hue
      have hue2 := hue (by omega)
      simp only [Value.slice.injEq, true_and] at hue2
      obtain ⟨rfl, rfl⟩ := hue2
      have hcell := huc k (by rw [natsI_len, hml]; exact hlt)
      have hML : k < M.length := by rw [hml]; exact hlt
      rw [natsI_getE _ hML] at hcell
      have hmk : M[k] = maskL ms[k] := by rw [← HMG.out k hlt]; simp [hML]
      rw [hmk] at hcell
      have hcn := fun (W : World) (hb : Below w4.heap.size w4 W) => connectedB_any (ht.below (hq.trans (hb.mono hq.size)) (Nat.le_refl _)) hg (hni.below hb (Nat.le_refl _)) (maskRise_lt (hri k hlt))
      have htk : ms.take (k + 1) = ms.take k ++ [ms[k]] := List.take_succ_eq_append_getElem hlt
      have hmem : ms[k] ∈ ms := List.getElem_mem hlt
      have hcn1 := hcn w4 (Below.refl _ _)
      clear hcn huc hue hmk
      cases hc : connB g (maskL ms[k]) with
      | true =>
        have HNX := Lib.hid (show ∀ s ∈ ms.take (k + 1), connB g (maskL s) = true from fun s hs => by
          rw [htk, List.mem_append, List.mem_singleton] at hs
          rcases hs with hs | rfl
          · exact HN.out s hs
          · exact hc)
        rw [hc] at hcn1
        clear hc htk hmem
        go_wp2_with fail
        refine hcn1.mono ?_
        rintro e w5 ⟨rfl, hb5⟩
        have hq5 := hq.trans (hb5.mono hq.size)
        go_wp2
        go_roundw
        case rel => exact ⟨k + 1, by omega, by go_num, HNX, hq5, hui.below hb5 (Nat.le_refl _), hni.below hb5 (Nat.le_refl _), (hb5.cell (cell_lt c1)).trans c1, (hb5.cell (cell_lt c3)).trans c3, (hb5.cell (cell_lt c4)).trans c4⟩
        case measure => simp [intOf]; omega
      | false =>
        have HF := Lib.hid (show modelOkB g p ms = false by
          rw [HM2.out]
          have : (ms.all fun s => connB g (maskL s)) = false := List.all_eq_false.2 ⟨_, hmem, by rw [hc]; simp⟩
          rw [this]; rfl)
        rw [hc] at hcn1
        clear hc htk hmem
        go_wp2_with fail
        refine hcn1.mono ?_
        rintro e w5 ⟨rfl, hb5⟩
        have hq5 := hq.trans (hb5.mono hq.size)
        go_wp2
        go_ret
        exact ⟨by rw [HF.out]; rfl, hq5⟩
    obtain rfl : k = ms.length := by omega
    have HM3 := Lib.hid (show modelOkB g p ms = !anyNo (netsL g) M (edgesL p) by
      rw [HM2.out]
      have h := HN.out
      rw [List.take_length] at h
      rw [List.all_eq_true.2 h, Bool.true_and])
    have hed := hedge _ hq
    have HED := Lib.hid (fun k (hk : k < (edgesL p).length) => show ∃ u z : Nat, (edgesL p)[k] = [(u : Int), (z : Int)] ∧ u < M.length ∧ z < M.length by
      obtain ⟨u, z, h1, h2, h3⟩ := edge_parts HGP.out hk
      exact ⟨u, z, h1, by rw [hml, HLEN.out]; exact h2, by rw [hml, HLEN.out]; exact h3⟩)
    have hnl := netsL_len g
    have hal := netsL_lt hg
    clear HM2 HN hedge
    go_wp2_with fail
    refine hed.mono ?_
    rintro e w5 ⟨eu, rfl, heu, hb5⟩
    have hq5 := hq.trans (hb5.mono hq.size)
    have c3 := (hb5.cell (cell_lt c3)).trans c3
    have c4 := (hb5.cell (cell_lt c4)).trans c4
    have hE := heu.rows hsm
    have hct := moContains_any (ht.below hq5 (Nat.le_refl _)) hE c4 c3 (hni.below hb5 (Nat.le_refl _)) (hui.below hb5 (Nat.le_refl _)) HED.out hal (by rw [hnl]; exact h16) (by rw [hnl]; exact hM) (by have := hsm.1; omega)
    obtain ⟨ea, ec, rfl⟩ := heu.isSlice
    generalize anyNo (netsL g) M (edgesL p) = bb at *
    generalize (edgesL p).length = EL at hct ⊢
    clear hed heu hq hb5 c1 HED hE
    go_wp2_with fail
    refine hct.mono ?_
    rintro e w6 ⟨rfl, hb6⟩
    go_wp2
    go_ret
    exact ⟨by rw [HM3.out]; rfl, hq5.trans (hb6.mono hq5.size)⟩
set_option maxHeartbeats 8000000 in
theorem lawModelOk_any {S0 S1 S2 : Nat → Prop} (v0 : Value) (g0 : List (List Int)) (v1 : Value) (g1 : List (List Int)) (v2 : Value) (m2 : List (List Int)) (w : World) (ht : Tab w) (hv0 : SlR S0 w v0 g0) (hv1 : SlR S1 w v1 g1) (hv2 : SlR S2 w v2 m2) :
    Calls Tryd.prog 7 #[.agg #[v0], .agg #[v1], .agg #[v2]] w fun e w' => e = .returned (.bool true) ∧ Below w.heap.size w w' := by
  obtain ⟨a0, c0, rfl⟩ := hv0.slice
  obtain ⟨a1, c1, rfl⟩ := hv1.slice
  obtain ⟨a2, c2, rfl⟩ := hv2.slice
  have q0 : Below w.heap.size w (((w.alloc (.cells #[.slice a0 g0.length c0] 24)).alloc (.cells #[.slice a1 g1.length c1] 24)).alloc (.cells #[.slice a2 m2.length c2] 42)) := (((Below.refl _ _).alloc (Nat.le_refl _) _).alloc (by simp; try omega) _).alloc (by simp; try omega) _
  go_enter Tryd.func7, Tryd.ntmps7
  go_wp2_with fail
  refine (szGraph_any _ _ _ _ (hv0.below q0 (Nat.le_refl _)) (by omega) (by omega)).mono ?_
  rintro e w1 ⟨r1, rfl, hr1, hs1, hm1, hb1⟩
  have q1 := q0.trans (hb1.mono q0.size)
  have b0_1 : w1.cell? ⟨w.heap.size, 0, none⟩ = some (.slice a0 g0.length c0) := (hb1.cell (p := ⟨w.heap.size, 0, none⟩) (by simp <;> omega)).trans (by simp [go_sem])
  have b1_1 : w1.cell? ⟨w.heap.size + 1, 0, none⟩ = some (.slice a1 g1.length c1) := (hb1.cell (p := ⟨w.heap.size + 1, 0, none⟩) (by simp <;> omega)).trans (by simp [go_sem])
  have b2_1 : w1.cell? ⟨w.heap.size + 2, 0, none⟩ = some (.slice a2 m2.length c2) := (hb1.cell (p := ⟨w.heap.size + 2, 0, none⟩) (by simp <;> omega)).trans (by simp [go_sem])
  by_cases hneg1 : r1 < 0
  case pos =>
    go_wp2
    go_ret
    exact ⟨rfl, q1⟩
  have hsm0 : SmallR g0 1048576 := hm1 (by omega)
  go_wp2_with fail
  refine (szGraph_any _ _ _ _ (hv1.below q1 (Nat.le_refl _)) (by omega) (by omega)).mono ?_
  rintro e w2 ⟨r2, rfl, hr2, hs2, hm2, hb2⟩
  have q2 := q1.trans (hb2.mono q1.size)
  have b0_2 : w2.cell? ⟨w.heap.size, 0, none⟩ = some (.slice a0 g0.length c0) := (hb2.cell (p := ⟨w.heap.size, 0, none⟩) (cell_lt b0_1)).trans b0_1
  have b1_2 : w2.cell? ⟨w.heap.size + 1, 0, none⟩ = some (.slice a1 g1.length c1) := (hb2.cell (p := ⟨w.heap.size + 1, 0, none⟩) (cell_lt b1_1)).trans b1_1
  have b2_2 : w2.cell? ⟨w.heap.size + 2, 0, none⟩ = some (.slice a2 m2.length c2) := (hb2.cell (p := ⟨w.heap.size + 2, 0, none⟩) (cell_lt b2_1)).trans b2_1
  by_cases hneg2 : r2 < 0
  case pos =>
    go_wp2
    go_ret
    exact ⟨rfl, q2⟩
  have hsm1 : SmallR g1 1048576 := smallR_mono (hm2 (by omega)) (by omega)
  go_wp2_with fail
  refine (szModel_any _ _ _ _ (hv2.below q2 (Nat.le_refl _)) (by omega) (by omega)).mono ?_
  rintro e w3 ⟨r3, rfl, hr3, hs3, hm3, hb3⟩
  have q3 := q2.trans (hb3.mono q2.size)
  have b0_3 : w3.cell? ⟨w.heap.size, 0, none⟩ = some (.slice a0 g0.length c0) := (hb3.cell (p := ⟨w.heap.size, 0, none⟩) (cell_lt b0_2)).trans b0_2
  have b1_3 : w3.cell? ⟨w.heap.size + 1, 0, none⟩ = some (.slice a1 g1.length c1) := (hb3.cell (p := ⟨w.heap.size + 1, 0, none⟩) (cell_lt b1_2)).trans b1_2
  have b2_3 : w3.cell? ⟨w.heap.size + 2, 0, none⟩ = some (.slice a2 m2.length c2) := (hb3.cell (p := ⟨w.heap.size + 2, 0, none⟩) (cell_lt b2_2)).trans b2_2
  by_cases hneg3 : r3 < 0
  case pos =>
    go_wp2
    go_ret
    exact ⟨rfl, q3⟩
  have hsm2 : SmallR m2 1048576 := smallR_mono (hm3 (by omega)) (by omega)
  go_wp2
  have _tt : True := trivial
  refine wp_region_held_drew (S := (fun w' => w'.cell? ⟨w.heap.size, 0, none⟩ = some (.slice a0 g0.length c0) ∧ w'.cell? ⟨w.heap.size + 1, 0, none⟩ = some (.slice a1 g1.length c1) ∧ w'.cell? ⟨w.heap.size + 2, 0, none⟩ = some (.slice a2 m2.length c2))) (by kernel_rfl) ?_ (fun hHeld => ?_)
  · first | exact ⟨‹_›, ‹_›, ‹_›⟩ | assumption | (simp [*, go_sem])
  refine wpAnyH_take (i := 0) (v := ?v1) (by simp only [List.getElem?_toArray, List.getElem?_cons_zero]; exact rfl) (by kernel_rfl) (by kernel_rfl) (by kernel_rfl) (by intro _ _ _ h; exact h) (Or.inl ⟨by rfl, ?y1⟩) hHeld ?_
  case y1 => (intro w hSw; (try dsimp only at hSw); go_simp; try (with_reducible rfl))
  try simp only [Act.put, List.setIfInBounds_toArray, List.set_cons_zero, List.set_cons_succ]
  refine wpAnyH_take (i := 2) (v := ?v2) (by simp only [List.getElem?_toArray, List.getElem?_cons_succ, List.getElem?_cons_zero]; exact rfl) (by kernel_rfl) (by kernel_rfl) (by kernel_rfl) (by intro _ _ _ h; exact h) (Or.inl ⟨by rfl, ?y2⟩) hHeld ?_
  case y2 => (intro w hSw; (try dsimp only at hSw); go_simp; try (with_reducible rfl))
  try simp only [Act.put, List.setIfInBounds_toArray, List.set_cons_zero, List.set_cons_succ]
  refine wpAnyH_take (i := 4) (v := ?v3) (by simp only [List.getElem?_toArray, List.getElem?_cons_succ, List.getElem?_cons_zero]; exact rfl) (by kernel_rfl) (by kernel_rfl) (by kernel_rfl) (by intro _ _ _ h; exact h) (Or.inl ⟨by rfl, ?y3⟩) hHeld ?_
  case y3 => (intro w hSw; (try dsimp only at hSw); go_simp; try (with_reducible rfl))
  try simp only [Act.put, List.setIfInBounds_toArray, List.set_cons_zero, List.set_cons_succ]
  refine wpAnyH_ready (rs := [1]) (by kernel_rfl) (by simp) ?_
  refine AllReadyH.cons (by simp only [List.getElem?_toArray, List.getElem?_cons_succ, List.getElem?_cons_zero]; exact rfl) (fun K hK => ?_) AllReadyH.nil
  go_simp
  have q3d := q3.drew
  refine (toGraph_any _ _ _ (hv0.below q3d (Nat.le_refl _)) hsm0).mono ?_
  rintro e w4 ⟨x4, rfl, hy4, hb4⟩
  have hb4e : Below w3.heap.size w3 w4 := ⟨hb4.os, hb4.tape, hb4.output, hb4.size, hb4.block⟩
  have q4 := q3.trans (hb4e.mono q3.size)
  have b0_4 : w4.cell? ⟨w.heap.size, 0, none⟩ = some (.slice a0 g0.length c0) := (hb4e.cell (p := ⟨w.heap.size, 0, none⟩) (cell_lt b0_3)).trans b0_3
  have b1_4 : w4.cell? ⟨w.heap.size + 1, 0, none⟩ = some (.slice a1 g1.length c1) := (hb4e.cell (p := ⟨w.heap.size + 1, 0, none⟩) (cell_lt b1_3)).trans b1_3
  have b2_4 : w4.cell? ⟨w.heap.size + 2, 0, none⟩ = some (.slice a2 m2.length c2) := (hb4e.cell (p := ⟨w.heap.size + 2, 0, none⟩) (cell_lt b2_3)).trans b2_3
  have y4_4 := hy4
  try dsimp only
  refine hK.out _ _ ?h5 (fun hHeld => ?_)
  case h5 => first | exact ⟨‹_›, ‹_›, ‹_›⟩ | assumption | (simp [*, go_sem])
  clear hK K
  try simp only [Act.put, List.setIfInBounds_toArray, List.set_cons_zero, List.set_cons_succ]
  refine wpAnyH_ready (rs := [3]) (by kernel_rfl) (by simp) ?_
  refine AllReadyH.cons (by simp only [List.getElem?_toArray, List.getElem?_cons_succ, List.getElem?_cons_zero]; exact rfl) (fun K hK => ?_) AllReadyH.nil
  go_simp
  refine (toGraph_any _ _ _ (hv1.below q4 (Nat.le_refl _)) hsm1).mono ?_
  rintro e w5 ⟨x5, rfl, hy5, hb5⟩
  have q5 := q4.trans (hb5.mono q4.size)
  have b0_5 : w5.cell? ⟨w.heap.size, 0, none⟩ = some (.slice a0 g0.length c0) := (hb5.cell (p := ⟨w.heap.size, 0, none⟩) (cell_lt b0_4)).trans b0_4
  have b1_5 : w5.cell? ⟨w.heap.size + 1, 0, none⟩ = some (.slice a1 g1.length c1) := (hb5.cell (p := ⟨w.heap.size + 1, 0, none⟩) (cell_lt b1_4)).trans b1_4
  have b2_5 : w5.cell? ⟨w.heap.size + 2, 0, none⟩ = some (.slice a2 m2.length c2) := (hb5.cell (p := ⟨w.heap.size + 2, 0, none⟩) (cell_lt b2_4)).trans b2_4
  have y4_5 := y4_4.below hb5 (Nat.le_refl _)
  have y5_5 := hy5
  try dsimp only
  refine hK.out _ _ ?h7 (fun hHeld => ?_)
  case h7 => first | exact ⟨‹_›, ‹_›, ‹_›⟩ | assumption | (simp [*, go_sem])
  clear hK K
  try simp only [Act.put, List.setIfInBounds_toArray, List.set_cons_zero, List.set_cons_succ]
  refine wpAnyH_ready (rs := [5]) (by kernel_rfl) (by simp) ?_
  refine AllReadyH.cons (by simp only [List.getElem?_toArray, List.getElem?_cons_succ, List.getElem?_cons_zero]; exact rfl) (fun K hK => ?_) AllReadyH.nil
  go_simp
  refine (toModel_any _ _ _ (hv2.below q5 (Nat.le_refl _)) hsm2).mono ?_
  rintro e w6 ⟨x6, rfl, hy6, hb6⟩
  have q6 := q5.trans (hb6.mono q5.size)
  have b0_6 : w6.cell? ⟨w.heap.size, 0, none⟩ = some (.slice a0 g0.length c0) := (hb6.cell (p := ⟨w.heap.size, 0, none⟩) (cell_lt b0_5)).trans b0_5
  have b1_6 : w6.cell? ⟨w.heap.size + 1, 0, none⟩ = some (.slice a1 g1.length c1) := (hb6.cell (p := ⟨w.heap.size + 1, 0, none⟩) (cell_lt b1_5)).trans b1_5
  have b2_6 : w6.cell? ⟨w.heap.size + 2, 0, none⟩ = some (.slice a2 m2.length c2) := (hb6.cell (p := ⟨w.heap.size + 2, 0, none⟩) (cell_lt b2_5)).trans b2_5
  have y4_6 := y4_5.below hb6 (Nat.le_refl _)
  have y5_6 := y5_5.below hb6 (Nat.le_refl _)
  have y6_6 := hy6
  try dsimp only
  refine hK.out _ _ ?h9 (fun hHeld => ?_)
  case h9 => first | exact ⟨‹_›, ‹_›, ‹_›⟩ | assumption | (simp [*, go_sem])
  clear hK K
  try simp only [Act.put, List.setIfInBounds_toArray, List.set_cons_zero, List.set_cons_succ]
  refine wpAnyH_ready (rs := [6]) (by kernel_rfl) (by simp) ?_
  refine AllReadyH.cons (by simp only [List.getElem?_toArray, List.getElem?_cons_succ, List.getElem?_cons_zero]; exact rfl) (fun K hK => ?_) AllReadyH.nil
  go_simp
  refine (specModelOk_any y4_6 y5_6 y6_6).mono ?_
  rintro e w7 ⟨rfl, hb7⟩
  have q7 := q6.trans (hb7.mono q6.size)
  have b0_7 : w7.cell? ⟨w.heap.size, 0, none⟩ = some (.slice a0 g0.length c0) := (hb7.cell (p := ⟨w.heap.size, 0, none⟩) (cell_lt b0_6)).trans b0_6
  have b1_7 : w7.cell? ⟨w.heap.size + 1, 0, none⟩ = some (.slice a1 g1.length c1) := (hb7.cell (p := ⟨w.heap.size + 1, 0, none⟩) (cell_lt b1_6)).trans b1_6
  have b2_7 : w7.cell? ⟨w.heap.size + 2, 0, none⟩ = some (.slice a2 m2.length c2) := (hb7.cell (p := ⟨w.heap.size + 2, 0, none⟩) (cell_lt b2_6)).trans b2_6
  have y4_7 := y4_6.below hb7 (Nat.le_refl _)
  have y5_7 := y5_6.below hb7 (Nat.le_refl _)
  have y6_7 := y6_6.below hb7 (Nat.le_refl _)
  try dsimp only
  refine hK.out _ _ ?h11 (fun hHeld => ?_)
  case h11 => first | exact ⟨‹_›, ‹_›, ‹_›⟩ | assumption | (simp [*, go_sem])
  clear hK K
  try simp only [Act.put, List.setIfInBounds_toArray, List.set_cons_zero, List.set_cons_succ]
  refine wpAnyH_take (i := 7) (v := ?v12) (by simp only [List.getElem?_toArray, List.getElem?_cons_succ, List.getElem?_cons_zero]; exact rfl) (by kernel_rfl) (by kernel_rfl) (by kernel_rfl) (by intro _ _ _ h; exact h) (Or.inl ⟨by rfl, ?y12⟩) hHeld ?_
  case y12 => (intro w hSw; (try dsimp only at hSw); go_simp; try (with_reducible rfl))
  try simp only [Act.put, List.setIfInBounds_toArray, List.set_cons_zero, List.set_cons_succ]
  refine wpAnyH_done (by kernel_rfl) ?_ _
  go_wp2_with fail
  refine (toGraph_any _ _ _ (hv0.below q7 (Nat.le_refl _)) hsm0).mono ?_
  rintro e w8 ⟨x8, rfl, hy8, hb8⟩
  have q8 := q7.trans (hb8.mono q7.size)
  have b0_8 : w8.cell? ⟨w.heap.size, 0, none⟩ = some (.slice a0 g0.length c0) := (hb8.cell (p := ⟨w.heap.size, 0, none⟩) (cell_lt b0_7)).trans b0_7
  have b1_8 : w8.cell? ⟨w.heap.size + 1, 0, none⟩ = some (.slice a1 g1.length c1) := (hb8.cell (p := ⟨w.heap.size + 1, 0, none⟩) (cell_lt b1_7)).trans b1_7
  have b2_8 : w8.cell? ⟨w.heap.size + 2, 0, none⟩ = some (.slice a2 m2.length c2) := (hb8.cell (p := ⟨w.heap.size + 2, 0, none⟩) (cell_lt b2_7)).trans b2_7
  have y4_8 := y4_7.below hb8 (Nat.le_refl _)
  have y5_8 := y5_7.below hb8 (Nat.le_refl _)
  have y6_8 := y6_7.below hb8 (Nat.le_refl _)
  have y8_8 := hy8
  obtain ⟨xa9, xc9, rfl⟩ := y8_8.slice
  have hb9 : Below w8.heap.size w8 (w8.alloc (.cells #[.slice xa9 g0.length xc9] 27)) := (Below.refl _ _).alloc (Nat.le_refl _) _
  have q9 := q8.trans (hb9.mono q8.size)
  have b0_9 := (hb9.cell (p := ⟨w.heap.size, 0, none⟩) (cell_lt b0_8)).trans b0_8
  have b1_9 := (hb9.cell (p := ⟨w.heap.size + 1, 0, none⟩) (cell_lt b1_8)).trans b1_8
  have b2_9 := (hb9.cell (p := ⟨w.heap.size + 2, 0, none⟩) (cell_lt b2_8)).trans b2_8
  have y4_9 := y4_8.below hb9 (Nat.le_refl _)
  have y5_9 := y5_8.below hb9 (Nat.le_refl _)
  have y6_9 := y6_8.below hb9 (Nat.le_refl _)
  have y8_9 := y8_8.below hb9 (Nat.le_refl _)
  go_wp2_with fail
  refine (toGraph_any _ _ _ (hv1.below q9 (Nat.le_refl _)) hsm1).mono ?_
  rintro e w10 ⟨x10, rfl, hy10, hb10⟩
  have q10 := q9.trans (hb10.mono q9.size)
  have b0_10 : w10.cell? ⟨w.heap.size, 0, none⟩ = some (.slice a0 g0.length c0) := (hb10.cell (p := ⟨w.heap.size, 0, none⟩) (by have := cell_lt b0_9; simp at this ⊢; omega)).trans b0_9
  have b1_10 : w10.cell? ⟨w.heap.size + 1, 0, none⟩ = some (.slice a1 g1.length c1) := (hb10.cell (p := ⟨w.heap.size + 1, 0, none⟩) (by have := cell_lt b1_9; simp at this ⊢; omega)).trans b1_9
  have b2_10 : w10.cell? ⟨w.heap.size + 2, 0, none⟩ = some (.slice a2 m2.length c2) := (hb10.cell (p := ⟨w.heap.size + 2, 0, none⟩) (by have := cell_lt b2_9; simp at this ⊢; omega)).trans b2_9
  have l9_10 : w10.cell? ⟨w8.heap.size, 0, none⟩ = some (.slice xa9 g0.length xc9) := (hb10.cell (p := ⟨w8.heap.size, 0, none⟩) (by simp)).trans (by simp [go_sem])
  have y4_10 := y4_9.below hb10 (Nat.le_refl _)
  have y5_10 := y5_9.below hb10 (Nat.le_refl _)
  have y6_10 := y6_9.below hb10 (Nat.le_refl _)
  have y8_10 := y8_9.below hb10 (Nat.le_refl _)
  have y10_10 := hy10
  obtain ⟨xa11, xc11, rfl⟩ := y10_10.slice
  have hb11 : Below w10.heap.size w10 (w10.alloc (.cells #[.slice xa11 g1.length xc11] 27)) := (Below.refl _ _).alloc (Nat.le_refl _) _
  have q11 := q10.trans (hb11.mono q10.size)
  have b0_11 := (hb11.cell (p := ⟨w.heap.size, 0, none⟩) (cell_lt b0_10)).trans b0_10
  have b1_11 := (hb11.cell (p := ⟨w.heap.size + 1, 0, none⟩) (cell_lt b1_10)).trans b1_10
  have b2_11 := (hb11.cell (p := ⟨w.heap.size + 2, 0, none⟩) (cell_lt b2_10)).trans b2_10
  have l9_11 := (hb11.cell (p := ⟨w8.heap.size, 0, none⟩) (cell_lt l9_10)).trans l9_10
  have y4_11 := y4_10.below hb11 (Nat.le_refl _)
  have y5_11 := y5_10.below hb11 (Nat.le_refl _)
  have y6_11 := y6_10.below hb11 (Nat.le_refl _)
  have y8_11 := y8_10.below hb11 (Nat.le_refl _)
  have y10_11 := y10_10.below hb11 (Nat.le_refl _)
  go_wp2_with fail
  refine (toModel_any _ _ _ (hv2.below q11 (Nat.le_refl _)) hsm2).mono ?_
  rintro e w12 ⟨x12, rfl, hy12, hb12⟩
  have q12 := q11.trans (hb12.mono q11.size)
  have b0_12 : w12.cell? ⟨w.heap.size, 0, none⟩ = some (.slice a0 g0.length c0) := (hb12.cell (p := ⟨w.heap.size, 0, none⟩) (by have := cell_lt b0_11; simp at this ⊢; omega)).trans b0_11
  have b1_12 : w12.cell? ⟨w.heap.size + 1, 0, none⟩ = some (.slice a1 g1.length c1) := (hb12.cell (p := ⟨w.heap.size + 1, 0, none⟩) (by have := cell_lt b1_11; simp at this ⊢; omega)).trans b1_11
  have b2_12 : w12.cell? ⟨w.heap.size + 2, 0, none⟩ = some (.slice a2 m2.length c2) := (hb12.cell (p := ⟨w.heap.size + 2, 0, none⟩) (by have := cell_lt b2_11; simp at this ⊢; omega)).trans b2_11
  have l9_12 : w12.cell? ⟨w8.heap.size, 0, none⟩ = some (.slice xa9 g0.length xc9) := (hb12.cell (p := ⟨w8.heap.size, 0, none⟩) (by have := cell_lt l9_11; simp at this ⊢; omega)).trans l9_11
  have l11_12 : w12.cell? ⟨w10.heap.size, 0, none⟩ = some (.slice xa11 g1.length xc11) := (hb12.cell (p := ⟨w10.heap.size, 0, none⟩) (by simp)).trans (by simp [go_sem])
  have y4_12 := y4_11.below hb12 (Nat.le_refl _)
  have y5_12 := y5_11.below hb12 (Nat.le_refl _)
  have y6_12 := y6_11.below hb12 (Nat.le_refl _)
  have y8_12 := y8_11.below hb12 (Nat.le_refl _)
  have y10_12 := y10_11.below hb12 (Nat.le_refl _)
  have y12_12 := hy12
  obtain ⟨xa13, xc13, rfl⟩ := y12_12.slice
  have hb13 : Below w12.heap.size w12 (w12.alloc (.cells #[.slice xa13 m2.length xc13] 45)) := (Below.refl _ _).alloc (Nat.le_refl _) _
  have q13 := q12.trans (hb13.mono q12.size)
  have b0_13 := (hb13.cell (p := ⟨w.heap.size, 0, none⟩) (cell_lt b0_12)).trans b0_12
  have b1_13 := (hb13.cell (p := ⟨w.heap.size + 1, 0, none⟩) (cell_lt b1_12)).trans b1_12
  have b2_13 := (hb13.cell (p := ⟨w.heap.size + 2, 0, none⟩) (cell_lt b2_12)).trans b2_12
  have l9_13 := (hb13.cell (p := ⟨w8.heap.size, 0, none⟩) (cell_lt l9_12)).trans l9_12
  have l11_13 := (hb13.cell (p := ⟨w10.heap.size, 0, none⟩) (cell_lt l11_12)).trans l11_12
  have y4_13 := y4_12.below hb13 (Nat.le_refl _)
  have y5_13 := y5_12.below hb13 (Nat.le_refl _)
  have y6_13 := y6_12.below hb13 (Nat.le_refl _)
  have y8_13 := y8_12.below hb13 (Nat.le_refl _)
  have y10_13 := y10_12.below hb13 (Nat.le_refl _)
  have y12_13 := y12_12.below hb13 (Nat.le_refl _)
  go_wp2_with fail
  refine (implModelOk_any (ht.below q13 (Nat.le_refl _)) y8_13 y10_13 y12_13).mono ?_
  rintro e w14 ⟨rfl, hb14⟩
  have q14 := q13.trans (hb14.mono q13.size)
  have b0_14 : w14.cell? ⟨w.heap.size, 0, none⟩ = some (.slice a0 g0.length c0) := (hb14.cell (p := ⟨w.heap.size, 0, none⟩) (by have := cell_lt b0_13; simp at this ⊢; omega)).trans b0_13
  have b1_14 : w14.cell? ⟨w.heap.size + 1, 0, none⟩ = some (.slice a1 g1.length c1) := (hb14.cell (p := ⟨w.heap.size + 1, 0, none⟩) (by have := cell_lt b1_13; simp at this ⊢; omega)).trans b1_13
  have b2_14 : w14.cell? ⟨w.heap.size + 2, 0, none⟩ = some (.slice a2 m2.length c2) := (hb14.cell (p := ⟨w.heap.size + 2, 0, none⟩) (by have := cell_lt b2_13; simp at this ⊢; omega)).trans b2_13
  have l9_14 : w14.cell? ⟨w8.heap.size, 0, none⟩ = some (.slice xa9 g0.length xc9) := (hb14.cell (p := ⟨w8.heap.size, 0, none⟩) (by have := cell_lt l9_13; simp at this ⊢; omega)).trans l9_13
  have l11_14 : w14.cell? ⟨w10.heap.size, 0, none⟩ = some (.slice xa11 g1.length xc11) := (hb14.cell (p := ⟨w10.heap.size, 0, none⟩) (by have := cell_lt l11_13; simp at this ⊢; omega)).trans l11_13
  have l13_14 : w14.cell? ⟨w12.heap.size, 0, none⟩ = some (.slice xa13 m2.length xc13) := (hb14.cell (p := ⟨w12.heap.size, 0, none⟩) (by simp)).trans (by simp [go_sem])
  have y4_14 := y4_13.below hb14 (Nat.le_refl _)
  have y5_14 := y5_13.below hb14 (Nat.le_refl _)
  have y6_14 := y6_13.below hb14 (Nat.le_refl _)
  have y8_14 := y8_13.below hb14 (Nat.le_refl _)
  have y10_14 := y10_13.below hb14 (Nat.le_refl _)
  have y12_14 := y12_13.below hb14 (Nat.le_refl _)
  go_wp2
  have _tt : True := trivial
  refine wp_region_held_drew (S := (fun w' => w'.cell? ⟨w.heap.size, 0, none⟩ = some (.slice a0 g0.length c0) ∧ w'.cell? ⟨w.heap.size + 1, 0, none⟩ = some (.slice a1 g1.length c1) ∧ w'.cell? ⟨w.heap.size + 2, 0, none⟩ = some (.slice a2 m2.length c2) ∧ w'.cell? ⟨w8.heap.size, 0, none⟩ = some (.slice xa9 g0.length xc9) ∧ w'.cell? ⟨w10.heap.size, 0, none⟩ = some (.slice xa11 g1.length xc11) ∧ w'.cell? ⟨w12.heap.size, 0, none⟩ = some (.slice xa13 m2.length xc13))) (by kernel_rfl) ?_ (fun hHeld => ?_)
  · first | exact ⟨‹_›, ‹_›, ‹_›, ‹_›, ‹_›, ‹_›⟩ | assumption | (simp [*, go_sem])
  refine wpAnyH_take (i := 0) (v := ?v13) (by simp only [List.getElem?_toArray, List.getElem?_cons_zero]; exact rfl) (by kernel_rfl) (by kernel_rfl) (by kernel_rfl) (by intro _ _ _ h; exact h) (Or.inl ⟨by rfl, ?y13⟩) hHeld ?_
  case y13 => (intro w hSw; (try dsimp only at hSw); go_simp; try (with_reducible rfl))
  try simp only [Act.put, List.setIfInBounds_toArray, List.set_cons_zero, List.set_cons_succ]
  refine wpAnyH_take (i := 1) (v := ?v14) (by simp only [List.getElem?_toArray, List.getElem?_cons_succ, List.getElem?_cons_zero]; exact rfl) (by kernel_rfl) (by kernel_rfl) (by kernel_rfl) (by intro _ _ _ h; exact h) (Or.inl ⟨by rfl, ?y14⟩) hHeld ?_
  case y14 => (intro w hSw; (try dsimp only at hSw); go_simp; try (with_reducible rfl))
  try simp only [Act.put, List.setIfInBounds_toArray, List.set_cons_zero, List.set_cons_succ]
  refine wpAnyH_ready (rs := [2]) (by kernel_rfl) (by simp) ?_
  refine AllReadyH.cons (by simp only [List.getElem?_toArray, List.getElem?_cons_succ, List.getElem?_cons_zero]; exact rfl) (fun K hK => ?_) AllReadyH.nil
  go_simp
  have q14d := q14.drew
  refine (toGraph_any _ _ _ (hv0.below q14d (Nat.le_refl _)) hsm0).mono ?_
  rintro e w15 ⟨x15, rfl, hy15, hb15⟩
  have hb15e : Below w14.heap.size w14 w15 := ⟨hb15.os, hb15.tape, hb15.output, hb15.size, hb15.block⟩
  have q15 := q14.trans (hb15e.mono q14.size)
  have b0_15 : w15.cell? ⟨w.heap.size, 0, none⟩ = some (.slice a0 g0.length c0) := (hb15e.cell (p := ⟨w.heap.size, 0, none⟩) (cell_lt b0_14)).trans b0_14
  have b1_15 : w15.cell? ⟨w.heap.size + 1, 0, none⟩ = some (.slice a1 g1.length c1) := (hb15e.cell (p := ⟨w.heap.size + 1, 0, none⟩) (cell_lt b1_14)).trans b1_14
  have b2_15 : w15.cell? ⟨w.heap.size + 2, 0, none⟩ = some (.slice a2 m2.length c2) := (hb15e.cell (p := ⟨w.heap.size + 2, 0, none⟩) (cell_lt b2_14)).trans b2_14
  have l9_15 : w15.cell? ⟨w8.heap.size, 0, none⟩ = some (.slice xa9 g0.length xc9) := (hb15e.cell (p := ⟨w8.heap.size, 0, none⟩) (cell_lt l9_14)).trans l9_14
  have l11_15 : w15.cell? ⟨w10.heap.size, 0, none⟩ = some (.slice xa11 g1.length xc11) := (hb15e.cell (p := ⟨w10.heap.size, 0, none⟩) (cell_lt l11_14)).trans l11_14
  have l13_15 : w15.cell? ⟨w12.heap.size, 0, none⟩ = some (.slice xa13 m2.length xc13) := (hb15e.cell (p := ⟨w12.heap.size, 0, none⟩) (cell_lt l13_14)).trans l13_14
  have y4_15 := y4_14.below hb15e (Nat.le_refl _)
  have y5_15 := y5_14.below hb15e (Nat.le_refl _)
  have y6_15 := y6_14.below hb15e (Nat.le_refl _)
  have y8_15 := y8_14.below hb15e (Nat.le_refl _)
  have y10_15 := y10_14.below hb15e (Nat.le_refl _)
  have y12_15 := y12_14.below hb15e (Nat.le_refl _)
  have y15_15 := hy15
  try dsimp only
  refine hK.out _ _ ?h16 (fun hHeld => ?_)
  case h16 => first | exact ⟨‹_›, ‹_›, ‹_›, ‹_›, ‹_›, ‹_›⟩ | assumption | (simp [*, go_sem])
  clear hK K
  try simp only [Act.put, List.setIfInBounds_toArray, List.set_cons_zero, List.set_cons_succ]
  refine wpAnyH_ready (rs := [3]) (by kernel_rfl) (by simp) ?_
  refine AllReadyH.cons (by simp only [List.getElem?_toArray, List.getElem?_cons_succ, List.getElem?_cons_zero]; exact rfl) (fun K hK => ?_) AllReadyH.nil
  go_simp
  refine (eqGraph_any _ _ _ _ _ y8_15 y15_15).mono ?_
  rintro e w16 ⟨rfl, hb16⟩
  have q16 := q15.trans (hb16.mono q15.size)
  have b0_16 : w16.cell? ⟨w.heap.size, 0, none⟩ = some (.slice a0 g0.length c0) := (hb16.cell (p := ⟨w.heap.size, 0, none⟩) (cell_lt b0_15)).trans b0_15
  have b1_16 : w16.cell? ⟨w.heap.size + 1, 0, none⟩ = some (.slice a1 g1.length c1) := (hb16.cell (p := ⟨w.heap.size + 1, 0, none⟩) (cell_lt b1_15)).trans b1_15
  have b2_16 : w16.cell? ⟨w.heap.size + 2, 0, none⟩ = some (.slice a2 m2.length c2) := (hb16.cell (p := ⟨w.heap.size + 2, 0, none⟩) (cell_lt b2_15)).trans b2_15
  have l9_16 : w16.cell? ⟨w8.heap.size, 0, none⟩ = some (.slice xa9 g0.length xc9) := (hb16.cell (p := ⟨w8.heap.size, 0, none⟩) (cell_lt l9_15)).trans l9_15
  have l11_16 : w16.cell? ⟨w10.heap.size, 0, none⟩ = some (.slice xa11 g1.length xc11) := (hb16.cell (p := ⟨w10.heap.size, 0, none⟩) (cell_lt l11_15)).trans l11_15
  have l13_16 : w16.cell? ⟨w12.heap.size, 0, none⟩ = some (.slice xa13 m2.length xc13) := (hb16.cell (p := ⟨w12.heap.size, 0, none⟩) (cell_lt l13_15)).trans l13_15
  have y4_16 := y4_15.below hb16 (Nat.le_refl _)
  have y5_16 := y5_15.below hb16 (Nat.le_refl _)
  have y6_16 := y6_15.below hb16 (Nat.le_refl _)
  have y8_16 := y8_15.below hb16 (Nat.le_refl _)
  have y10_16 := y10_15.below hb16 (Nat.le_refl _)
  have y12_16 := y12_15.below hb16 (Nat.le_refl _)
  have y15_16 := y15_15.below hb16 (Nat.le_refl _)
  try dsimp only
  refine hK.out _ _ ?h18 (fun hHeld => ?_)
  case h18 => first | exact ⟨‹_›, ‹_›, ‹_›, ‹_›, ‹_›, ‹_›⟩ | assumption | (simp [*, go_sem])
  clear hK K
  try simp only [Act.put, List.setIfInBounds_toArray, List.set_cons_zero, List.set_cons_succ]
  refine wpAnyH_take (i := 4) (v := ?v19) (by simp only [List.getElem?_toArray, List.getElem?_cons_succ, List.getElem?_cons_zero]; exact rfl) (by kernel_rfl) (by kernel_rfl) (by kernel_rfl) (by intro _ _ _ h; exact h) (Or.inl ⟨by rfl, ?y19⟩) hHeld ?_
  case y19 => (intro w hSw; (try dsimp only at hSw); go_simp; try (with_reducible rfl))
  try simp only [Act.put, List.setIfInBounds_toArray, List.set_cons_zero, List.set_cons_succ]
  refine wpAnyH_done (by kernel_rfl) ?_ _
  go_wp2
  have _tt : True := trivial
  refine wp_region_held_drew (S := (fun w' => w'.cell? ⟨w.heap.size, 0, none⟩ = some (.slice a0 g0.length c0) ∧ w'.cell? ⟨w.heap.size + 1, 0, none⟩ = some (.slice a1 g1.length c1) ∧ w'.cell? ⟨w.heap.size + 2, 0, none⟩ = some (.slice a2 m2.length c2) ∧ w'.cell? ⟨w8.heap.size, 0, none⟩ = some (.slice xa9 g0.length xc9) ∧ w'.cell? ⟨w10.heap.size, 0, none⟩ = some (.slice xa11 g1.length xc11) ∧ w'.cell? ⟨w12.heap.size, 0, none⟩ = some (.slice xa13 m2.length xc13))) (by kernel_rfl) ?_ (fun hHeld => ?_)
  · first | exact ⟨‹_›, ‹_›, ‹_›, ‹_›, ‹_›, ‹_›⟩ | assumption | (simp [*, go_sem])
  refine wpAnyH_take (i := 0) (v := ?v20) (by simp only [List.getElem?_toArray, List.getElem?_cons_zero]; exact rfl) (by kernel_rfl) (by kernel_rfl) (by kernel_rfl) (by intro _ _ _ h; exact h) (Or.inl ⟨by rfl, ?y20⟩) hHeld ?_
  case y20 => (intro w hSw; (try dsimp only at hSw); go_simp; try (with_reducible rfl))
  try simp only [Act.put, List.setIfInBounds_toArray, List.set_cons_zero, List.set_cons_succ]
  refine wpAnyH_take (i := 1) (v := ?v21) (by simp only [List.getElem?_toArray, List.getElem?_cons_succ, List.getElem?_cons_zero]; exact rfl) (by kernel_rfl) (by kernel_rfl) (by kernel_rfl) (by intro _ _ _ h; exact h) (Or.inl ⟨by rfl, ?y21⟩) hHeld ?_
  case y21 => (intro w hSw; (try dsimp only at hSw); go_simp; try (with_reducible rfl))
  try simp only [Act.put, List.setIfInBounds_toArray, List.set_cons_zero, List.set_cons_succ]
  refine wpAnyH_ready (rs := [2]) (by kernel_rfl) (by simp) ?_
  refine AllReadyH.cons (by simp only [List.getElem?_toArray, List.getElem?_cons_succ, List.getElem?_cons_zero]; exact rfl) (fun K hK => ?_) AllReadyH.nil
  go_simp
  have q16d := q16.drew
  refine (toGraph_any _ _ _ (hv1.below q16d (Nat.le_refl _)) hsm1).mono ?_
  rintro e w17 ⟨x17, rfl, hy17, hb17⟩
  have hb17e : Below w16.heap.size w16 w17 := ⟨hb17.os, hb17.tape, hb17.output, hb17.size, hb17.block⟩
  have q17 := q16.trans (hb17e.mono q16.size)
  have b0_17 : w17.cell? ⟨w.heap.size, 0, none⟩ = some (.slice a0 g0.length c0) := (hb17e.cell (p := ⟨w.heap.size, 0, none⟩) (cell_lt b0_16)).trans b0_16
  have b1_17 : w17.cell? ⟨w.heap.size + 1, 0, none⟩ = some (.slice a1 g1.length c1) := (hb17e.cell (p := ⟨w.heap.size + 1, 0, none⟩) (cell_lt b1_16)).trans b1_16
  have b2_17 : w17.cell? ⟨w.heap.size + 2, 0, none⟩ = some (.slice a2 m2.length c2) := (hb17e.cell (p := ⟨w.heap.size + 2, 0, none⟩) (cell_lt b2_16)).trans b2_16
  have l9_17 : w17.cell? ⟨w8.heap.size, 0, none⟩ = some (.slice xa9 g0.length xc9) := (hb17e.cell (p := ⟨w8.heap.size, 0, none⟩) (cell_lt l9_16)).trans l9_16
  have l11_17 : w17.cell? ⟨w10.heap.size, 0, none⟩ = some (.slice xa11 g1.length xc11) := (hb17e.cell (p := ⟨w10.heap.size, 0, none⟩) (cell_lt l11_16)).trans l11_16
  have l13_17 : w17.cell? ⟨w12.heap.size, 0, none⟩ = some (.slice xa13 m2.length xc13) := (hb17e.cell (p := ⟨w12.heap.size, 0, none⟩) (cell_lt l13_16)).trans l13_16
  have y4_17 := y4_16.below hb17e (Nat.le_refl _)
  have y5_17 := y5_16.below hb17e (Nat.le_refl _)
  have y6_17 := y6_16.below hb17e (Nat.le_refl _)
  have y8_17 := y8_16.below hb17e (Nat.le_refl _)
  have y10_17 := y10_16.below hb17e (Nat.le_refl _)
  have y12_17 := y12_16.below hb17e (Nat.le_refl _)
  have y15_17 := y15_16.below hb17e (Nat.le_refl _)
  have y17_17 := hy17
  try dsimp only
  refine hK.out _ _ ?h23 (fun hHeld => ?_)
  case h23 => first | exact ⟨‹_›, ‹_›, ‹_›, ‹_›, ‹_›, ‹_›⟩ | assumption | (simp [*, go_sem])
  clear hK K
  try simp only [Act.put, List.setIfInBounds_toArray, List.set_cons_zero, List.set_cons_succ]
  refine wpAnyH_ready (rs := [3]) (by kernel_rfl) (by simp) ?_
  refine AllReadyH.cons (by simp only [List.getElem?_toArray, List.getElem?_cons_succ, List.getElem?_cons_zero]; exact rfl) (fun K hK => ?_) AllReadyH.nil
  go_simp
  refine (eqGraph_any _ _ _ _ _ y10_17 y17_17).mono ?_
  rintro e w18 ⟨rfl, hb18⟩
  have q18 := q17.trans (hb18.mono q17.size)
  have b0_18 : w18.cell? ⟨w.heap.size, 0, none⟩ = some (.slice a0 g0.length c0) := (hb18.cell (p := ⟨w.heap.size, 0, none⟩) (cell_lt b0_17)).trans b0_17
  have b1_18 : w18.cell? ⟨w.heap.size + 1, 0, none⟩ = some (.slice a1 g1.length c1) := (hb18.cell (p := ⟨w.heap.size + 1, 0, none⟩) (cell_lt b1_17)).trans b1_17
  have b2_18 : w18.cell? ⟨w.heap.size + 2, 0, none⟩ = some (.slice a2 m2.length c2) := (hb18.cell (p := ⟨w.heap.size + 2, 0, none⟩) (cell_lt b2_17)).trans b2_17
  have l9_18 : w18.cell? ⟨w8.heap.size, 0, none⟩ = some (.slice xa9 g0.length xc9) := (hb18.cell (p := ⟨w8.heap.size, 0, none⟩) (cell_lt l9_17)).trans l9_17
  have l11_18 : w18.cell? ⟨w10.heap.size, 0, none⟩ = some (.slice xa11 g1.length xc11) := (hb18.cell (p := ⟨w10.heap.size, 0, none⟩) (cell_lt l11_17)).trans l11_17
  have l13_18 : w18.cell? ⟨w12.heap.size, 0, none⟩ = some (.slice xa13 m2.length xc13) := (hb18.cell (p := ⟨w12.heap.size, 0, none⟩) (cell_lt l13_17)).trans l13_17
  have y4_18 := y4_17.below hb18 (Nat.le_refl _)
  have y5_18 := y5_17.below hb18 (Nat.le_refl _)
  have y6_18 := y6_17.below hb18 (Nat.le_refl _)
  have y8_18 := y8_17.below hb18 (Nat.le_refl _)
  have y10_18 := y10_17.below hb18 (Nat.le_refl _)
  have y12_18 := y12_17.below hb18 (Nat.le_refl _)
  have y15_18 := y15_17.below hb18 (Nat.le_refl _)
  have y17_18 := y17_17.below hb18 (Nat.le_refl _)
  try dsimp only
  refine hK.out _ _ ?h25 (fun hHeld => ?_)
  case h25 => first | exact ⟨‹_›, ‹_›, ‹_›, ‹_›, ‹_›, ‹_›⟩ | assumption | (simp [*, go_sem])
  clear hK K
  try simp only [Act.put, List.setIfInBounds_toArray, List.set_cons_zero, List.set_cons_succ]
  refine wpAnyH_take (i := 4) (v := ?v26) (by simp only [List.getElem?_toArray, List.getElem?_cons_succ, List.getElem?_cons_zero]; exact rfl) (by kernel_rfl) (by kernel_rfl) (by kernel_rfl) (by intro _ _ _ h; exact h) (Or.inl ⟨by rfl, ?y26⟩) hHeld ?_
  case y26 => (intro w hSw; (try dsimp only at hSw); go_simp; try (with_reducible rfl))
  try simp only [Act.put, List.setIfInBounds_toArray, List.set_cons_zero, List.set_cons_succ]
  refine wpAnyH_done (by kernel_rfl) ?_ _
  go_wp2
  have _tt : True := trivial
  refine wp_region_held_drew (S := (fun w' => w'.cell? ⟨w.heap.size, 0, none⟩ = some (.slice a0 g0.length c0) ∧ w'.cell? ⟨w.heap.size + 1, 0, none⟩ = some (.slice a1 g1.length c1) ∧ w'.cell? ⟨w.heap.size + 2, 0, none⟩ = some (.slice a2 m2.length c2) ∧ w'.cell? ⟨w8.heap.size, 0, none⟩ = some (.slice xa9 g0.length xc9) ∧ w'.cell? ⟨w10.heap.size, 0, none⟩ = some (.slice xa11 g1.length xc11) ∧ w'.cell? ⟨w12.heap.size, 0, none⟩ = some (.slice xa13 m2.length xc13))) (by kernel_rfl) ?_ (fun hHeld => ?_)
  · first | exact ⟨‹_›, ‹_›, ‹_›, ‹_›, ‹_›, ‹_›⟩ | assumption | (simp [*, go_sem])
  refine wpAnyH_take (i := 0) (v := ?v27) (by simp only [List.getElem?_toArray, List.getElem?_cons_zero]; exact rfl) (by kernel_rfl) (by kernel_rfl) (by kernel_rfl) (by intro _ _ _ h; exact h) (Or.inl ⟨by rfl, ?y27⟩) hHeld ?_
  case y27 => (intro w hSw; (try dsimp only at hSw); go_simp; try (with_reducible rfl))
  try simp only [Act.put, List.setIfInBounds_toArray, List.set_cons_zero, List.set_cons_succ]
  refine wpAnyH_take (i := 1) (v := ?v28) (by simp only [List.getElem?_toArray, List.getElem?_cons_succ, List.getElem?_cons_zero]; exact rfl) (by kernel_rfl) (by kernel_rfl) (by kernel_rfl) (by intro _ _ _ h; exact h) (Or.inl ⟨by rfl, ?y28⟩) hHeld ?_
  case y28 => (intro w hSw; (try dsimp only at hSw); go_simp; try (with_reducible rfl))
  try simp only [Act.put, List.setIfInBounds_toArray, List.set_cons_zero, List.set_cons_succ]
  refine wpAnyH_ready (rs := [2]) (by kernel_rfl) (by simp) ?_
  refine AllReadyH.cons (by simp only [List.getElem?_toArray, List.getElem?_cons_succ, List.getElem?_cons_zero]; exact rfl) (fun K hK => ?_) AllReadyH.nil
  go_simp
  have q18d := q18.drew
  refine (toModel_any _ _ _ (hv2.below q18d (Nat.le_refl _)) hsm2).mono ?_
  rintro e w19 ⟨x19, rfl, hy19, hb19⟩
  have hb19e : Below w18.heap.size w18 w19 := ⟨hb19.os, hb19.tape, hb19.output, hb19.size, hb19.block⟩
  have q19 := q18.trans (hb19e.mono q18.size)
  have b0_19 : w19.cell? ⟨w.heap.size, 0, none⟩ = some (.slice a0 g0.length c0) := (hb19e.cell (p := ⟨w.heap.size, 0, none⟩) (cell_lt b0_18)).trans b0_18
  have b1_19 : w19.cell? ⟨w.heap.size + 1, 0, none⟩ = some (.slice a1 g1.length c1) := (hb19e.cell (p := ⟨w.heap.size + 1, 0, none⟩) (cell_lt b1_18)).trans b1_18
  have b2_19 : w19.cell? ⟨w.heap.size + 2, 0, none⟩ = some (.slice a2 m2.length c2) := (hb19e.cell (p := ⟨w.heap.size + 2, 0, none⟩) (cell_lt b2_18)).trans b2_18
  have l9_19 : w19.cell? ⟨w8.heap.size, 0, none⟩ = some (.slice xa9 g0.length xc9) := (hb19e.cell (p := ⟨w8.heap.size, 0, none⟩) (cell_lt l9_18)).trans l9_18
  have l11_19 : w19.cell? ⟨w10.heap.size, 0, none⟩ = some (.slice xa11 g1.length xc11) := (hb19e.cell (p := ⟨w10.heap.size, 0, none⟩) (cell_lt l11_18)).trans l11_18
  have l13_19 : w19.cell? ⟨w12.heap.size, 0, none⟩ = some (.slice xa13 m2.length xc13) := (hb19e.cell (p := ⟨w12.heap.size, 0, none⟩) (cell_lt l13_18)).trans l13_18
  have y4_19 := y4_18.below hb19e (Nat.le_refl _)
  have y5_19 := y5_18.below hb19e (Nat.le_refl _)
  have y6_19 := y6_18.below hb19e (Nat.le_refl _)
  have y8_19 := y8_18.below hb19e (Nat.le_refl _)
  have y10_19 := y10_18.below hb19e (Nat.le_refl _)
  have y12_19 := y12_18.below hb19e (Nat.le_refl _)
  have y15_19 := y15_18.below hb19e (Nat.le_refl _)
  have y17_19 := y17_18.below hb19e (Nat.le_refl _)
  have y19_19 := hy19
  try dsimp only
  refine hK.out _ _ ?h30 (fun hHeld => ?_)
  case h30 => first | exact ⟨‹_›, ‹_›, ‹_›, ‹_›, ‹_›, ‹_›⟩ | assumption | (simp [*, go_sem])
  clear hK K
  try simp only [Act.put, List.setIfInBounds_toArray, List.set_cons_zero, List.set_cons_succ]
  refine wpAnyH_ready (rs := [3]) (by kernel_rfl) (by simp) ?_
  refine AllReadyH.cons (by simp only [List.getElem?_toArray, List.getElem?_cons_succ, List.getElem?_cons_zero]; exact rfl) (fun K hK => ?_) AllReadyH.nil
  go_simp
  refine (eqModel_any _ _ _ _ _ y12_19 y19_19).mono ?_
  rintro e w20 ⟨rfl, hb20⟩
  have q20 := q19.trans (hb20.mono q19.size)
  have b0_20 : w20.cell? ⟨w.heap.size, 0, none⟩ = some (.slice a0 g0.length c0) := (hb20.cell (p := ⟨w.heap.size, 0, none⟩) (cell_lt b0_19)).trans b0_19
  have b1_20 : w20.cell? ⟨w.heap.size + 1, 0, none⟩ = some (.slice a1 g1.length c1) := (hb20.cell (p := ⟨w.heap.size + 1, 0, none⟩) (cell_lt b1_19)).trans b1_19
  have b2_20 : w20.cell? ⟨w.heap.size + 2, 0, none⟩ = some (.slice a2 m2.length c2) := (hb20.cell (p := ⟨w.heap.size + 2, 0, none⟩) (cell_lt b2_19)).trans b2_19
  have l9_20 : w20.cell? ⟨w8.heap.size, 0, none⟩ = some (.slice xa9 g0.length xc9) := (hb20.cell (p := ⟨w8.heap.size, 0, none⟩) (cell_lt l9_19)).trans l9_19
  have l11_20 : w20.cell? ⟨w10.heap.size, 0, none⟩ = some (.slice xa11 g1.length xc11) := (hb20.cell (p := ⟨w10.heap.size, 0, none⟩) (cell_lt l11_19)).trans l11_19
  have l13_20 : w20.cell? ⟨w12.heap.size, 0, none⟩ = some (.slice xa13 m2.length xc13) := (hb20.cell (p := ⟨w12.heap.size, 0, none⟩) (cell_lt l13_19)).trans l13_19
  have y4_20 := y4_19.below hb20 (Nat.le_refl _)
  have y5_20 := y5_19.below hb20 (Nat.le_refl _)
  have y6_20 := y6_19.below hb20 (Nat.le_refl _)
  have y8_20 := y8_19.below hb20 (Nat.le_refl _)
  have y10_20 := y10_19.below hb20 (Nat.le_refl _)
  have y12_20 := y12_19.below hb20 (Nat.le_refl _)
  have y15_20 := y15_19.below hb20 (Nat.le_refl _)
  have y17_20 := y17_19.below hb20 (Nat.le_refl _)
  have y19_20 := y19_19.below hb20 (Nat.le_refl _)
  try dsimp only
  refine hK.out _ _ ?h32 (fun hHeld => ?_)
  case h32 => first | exact ⟨‹_›, ‹_›, ‹_›, ‹_›, ‹_›, ‹_›⟩ | assumption | (simp [*, go_sem])
  clear hK K
  try simp only [Act.put, List.setIfInBounds_toArray, List.set_cons_zero, List.set_cons_succ]
  refine wpAnyH_take (i := 4) (v := ?v33) (by simp only [List.getElem?_toArray, List.getElem?_cons_succ, List.getElem?_cons_zero]; exact rfl) (by kernel_rfl) (by kernel_rfl) (by kernel_rfl) (by intro _ _ _ h; exact h) (Or.inl ⟨by rfl, ?y33⟩) hHeld ?_
  case y33 => (intro w hSw; (try dsimp only at hSw); go_simp; try (with_reducible rfl))
  try simp only [Act.put, List.setIfInBounds_toArray, List.set_cons_zero, List.set_cons_succ]
  refine wpAnyH_done (by kernel_rfl) ?_ _
  go_wp2
  go_ret
  exact ⟨rfl, q20⟩
end Go.Proofs.YtfkdhlmigbkefaaDoor
