/- ModelOk of the program; the law. -/
import Derived.Test.YtklnjpdpinccoaaDoorModOk2
namespace Go.Proofs.YtklnjpdpinccoaaDoor
open Go.RowKit
theorem maskRise_lt {s : List Int} {n : Nat} (h : Rise s n) : maskL s < 2 ^ n := maskL_lt (n := n) fun x hx => rise_ge h x hx
theorem masks_get {ms : List (List Int)} {k : Nat} (hk : k < ms.length) : (masksOf ms ms.length).getD k 0 = maskL ms[k] := by simp [masksOf, hk]
theorem anyNo_law {g p ms : List (List Int)} (hg : GOk g) (hp : GOk p) (hri : ∀ k (hk : k < ms.length), Rise ms[k] g.length) (hlen : ms.length = p.length) :
    (!anyNo (netsL g) (masksOf ms ms.length) (edgesL p)) = ((edgesL p).all fun e => betwB g (mset ms (e.getD 0 0)) (mset ms (e.getD 1 0))) := by
  unfold anyNo
  rw [List.not_any_eq_all_not]
  rw [Bool.eq_iff_iff, List.all_eq_true, List.all_eq_true]
  have key : ∀ e ∈ edgesL p, (!(!joinB (netsL g) ((masksOf ms ms.length).getD (e.getD 0 0).toNat 0) ((masksOf ms ms.length).getD (e.getD 1 0).toNat 0))) = betwB g (mset ms (e.getD 0 0)) (mset ms (e.getD 1 0)) := by
    intro e he
    obtain ⟨u, v, hu, hv, -, -, rfl⟩ := (mem_edgesL hp).1 he
    have hu2 : u < ms.length := by omega
    have hv2 : v < ms.length := by omega
    rw [Bool.not_not]
    simp only [List.getD_cons_zero, List.getD_cons_succ, Int.toNat_natCast, masks_get hu2, masks_get hv2, mset, getD_lt hu2, getD_lt hv2]
    exact join_betw hg (hri u hu2) (hri v hv2)
  constructor
  · intro h e he; rw [← key e he]; exact h e he
  · intro h e he; rw [key e he]; exact h e he
set_option maxRecDepth 100000 in
set_option maxHeartbeats 8000000 in
theorem implModelOk_any {S0 S1 S2 : Nat → Prop} {gv pv mv : Value} {g p ms : List (List Int)} {w : World} (ht : Tab w) (hvg : SlR S0 w gv g) (hvp : SlR S1 w pv p) (hvm : SlR S2 w mv ms) :
    Calls Tryd.prog 63 #[.agg #[gv], .agg #[pv], .agg #[mv]] w fun e w' => e = .returned (.bool (modelOkB g p ms)) ∧ Below w.heap.size w w' := by
  have hq0 : Below w.heap.size w (((w.alloc (.cells #[gv] 27)).alloc (.cells #[pv] 27)).alloc (.cells #[mv] 43)) := (((Below.refl _ _).alloc (Nat.le_refl _) _).alloc (by simp) _).alloc (by simp; omega) _
  obtain ⟨ga, gc, rfl⟩ := hvg.slice
  obtain ⟨pa, pc, rfl⟩ := hvp.slice
  obtain ⟨ma, mc, rfl⟩ := hvm.slice
  have hmm := modelMasks_any (hvg.below hq0 (Nat.le_refl _)) (hvm.below hq0 (Nat.le_refl _))
  have hpo := fun (W : World) (hb : Below w.heap.size w W) => implGraphOk_any _ _ _ (hvp.below hb (Nat.le_refl _))
  by_cases h1 : modelF g ms = none
  case pos =>
    rw [h1] at hmm
    have HE := Lib.hid (show modelOkB g p ms = false by simp [modelOkB, h1])
    clear h1 hpo
    go_enter Tryd.func63, Tryd.ntmps63
    go_wp2_with fail
    refine hmm.mono ?_
    rintro e w1 ⟨u, rfl, hu, -, hb1⟩
    obtain rfl : u = .slice none 0 0 := by simpa using hu
    simp only [Option.isSome_none]
    clear hmm
    go_wp2
    go_ret
    exact ⟨by rw [HE.out]; rfl, (hq0.trans (hb1.mono hq0.size)).alloc (by have := hq0.size; have := hb1.size; omega) _⟩
  have h1s : (modelF g ms).isSome = true := by
    cases e : modelF g ms
    · exact absurd e h1
    · rfl
  obtain ⟨hg, hm16, hri⟩ := modelF_parts h1
  have HMO := Lib.hid (show modelOkB g p ms = (gokB p && decide (ms.length = p.length) && (ms.all fun s => connB g (maskL s)) && (edgesL p).all fun e => betwB g (mset ms (e.getD 0 0)) (mset ms (e.getD 1 0))) by rw [modelOkB, h1s, Bool.true_and])
  have h1S := Lib.hid h1s
  have h1N := Lib.hid h1
  have hml := masksOf_len (Nat.le_refl ms.length)
  clear h1 h1s
  go_enter Tryd.func63, Tryd.ntmps63
  go_wp2_with fail
  refine hmm.mono ?_
  rintro e w1 ⟨u, rfl, -, hu, hb1⟩
  have hu := hu h1N.out
  rw [h1S.out]
  have hq1 := hq0.trans (hb1.mono hq0.size)
  have b0 : w1.cell? ⟨w.heap.size, 0, none⟩ = some (.slice ga g.length gc) := (hb1.cell (p := ⟨w.heap.size, 0, none⟩) (by simp <;> omega)).trans (by simp [go_sem])
  have b1 : w1.cell? ⟨w.heap.size + 1, 0, none⟩ = some (.slice pa p.length pc) := (hb1.cell (p := ⟨w.heap.size + 1, 0, none⟩) (by simp <;> omega)).trans (by simp [go_sem])
  have hui := (Own.ints (xs := natsI (masksOf ms ms.length)) hu (by omega)).low2
  obtain ⟨ua, uc, rfl⟩ := hu.isSlice
  have hb2 : Below w1.heap.size w1 (w1.alloc (.cells #[.slice ua ms.length uc] 69)) := (Below.refl _ _).alloc (Nat.le_refl _) _
  have b3 : (w1.alloc (.cells #[.slice ua ms.length uc] 69)).cell? ⟨w1.heap.size, 0, none⟩ = some (.slice ua ms.length uc) := by simp [go_sem]
  have hq2 := hq1.trans (hb2.mono hq1.size)
  have b0 := (hb2.cell (cell_lt b0)).trans b0
  have b1 := (hb2.cell (cell_lt b1)).trans b1
  have hui := hui.below hb2 (Nat.le_refl _)
  have hpo1 := hpo _ hq2
  have hn1 : w.heap.size + 2 < w1.heap.size := by have := hb1.size; simp at this; omega
  have hql : w1.heap.size < (w1.alloc (.cells #[.slice ua ms.length uc] 69)).heap.size := by simp
  by_cases hgp : gokB p = true
  case neg =>
    have hgp' : gokB p = false := by simpa using hgp
    rw [hgp'] at hpo1
    have HE := Lib.hid (show modelOkB g p ms = false by rw [HMO.out, hgp']; rfl)
    clear hgp hgp' hui b3
    go_wp2_with fail
    refine hpo1.mono ?_
    rintro e w2 ⟨rfl, hb3⟩
    go_wp2
    go_ret
    exact ⟨by rw [HE.out]; rfl, hq2.trans (hb3.mono hq2.size)⟩
  rw [hgp] at hpo1
  have hgP := gokB_iff.1 hgp
  by_cases hlen : ms.length = p.length
  case neg =>
    have HE := Lib.hid (show modelOkB g p ms = false by rw [HMO.out, hgp, decide_eq_false hlen]; rfl)
    have hn1 : ((ms.length : Int) != (p.length : Int)) = true := by rw [bne_iff_ne]; omega
    have hn2 : (ms.length != p.length) = true := by rw [bne_iff_ne]; omega
    clear hgp
    go_wp2_with fail
    refine hpo1.mono ?_
    rintro e w2 ⟨rfl, hb3⟩
    have b1 := (hb3.cell (cell_lt b1)).trans b1
    have b3 := (hb3.cell (cell_lt b3)).trans b3
    go_wp2
    go_ret
    exact ⟨by rw [HE.out]; rfl, hq2.trans (hb3.mono hq2.size)⟩
  have HM2 := Lib.hid (show modelOkB g p ms = ((ms.all fun s => connB g (maskL s)) && !anyNo (netsL g) (masksOf ms ms.length) (edgesL p)) by rw [HMO.out, hgp, decide_eq_true hlen, anyNo_law hg hgP hri hlen]; rfl)
  have hn1 : ((ms.length : Int) != (p.length : Int)) = false := by simp [hlen]
  have hn2 : (ms.length != p.length) = false := by simp [hlen]
  have HLEN := Lib.hid hlen
  have hsm := edges_small hgP
  have HGP := Lib.hid hgP
  have hedge := fun (W : World) (hb : Below w.heap.size w W) => edgesOf_any hgP (hvp.below hb (Nat.le_refl _))
  have hnet := fun (W : World) (hb : Below w.heap.size w W) => netsOf_any _ _ _ (hvg.below hb (Nat.le_refl _)) hg
  have hM : ∀ m ∈ masksOf ms ms.length, m < 2 ^ g.length := fun m hm => by
    simp only [masksOf, List.take_length, List.mem_map] at hm
    obtain ⟨s, hs, rfl⟩ := hm
    obtain ⟨k, hk, rfl⟩ := List.getElem_of_mem hs
    exact maskRise_lt (hri k hk)
  have HMG := Lib.hid (fun k (hk : k < ms.length) => show (masksOf ms ms.length).getD k 0 = maskL ms[k] from masks_get hk)
  generalize masksOf ms ms.length = M at *
  clear hgp HMO hlen hgP hmm hb1 hpo
  go_wp2_with fail
  refine hpo1.mono ?_
  rintro e w2 ⟨rfl, hb3⟩
  have b0 := (hb3.cell (cell_lt b0)).trans b0
  have b1 := (hb3.cell (cell_lt b1)).trans b1
  have b3 := (hb3.cell (cell_lt b3)).trans b3
  have hui := hui.below hb3 (Nat.le_refl _)
  have hq3 := hq2.trans (hb3.mono hq2.size)
  have hql := Nat.lt_of_lt_of_le hql hb3.size
  have hnt := hnet _ hq3
  clear hpo1 hnet hb2 hb3 hq2 hq1
  go_wp2_with fail
  refine hnt.mono ?_
  rintro e w3 ⟨nv, rfl, hnv, hb4⟩
  have b0 := (hb4.cell (cell_lt b0)).trans b0
  have b1 := (hb4.cell (cell_lt b1)).trans b1
  have b3 := (hb4.cell (cell_lt b3)).trans b3
  have hui := hui.below hb4 (Nat.le_refl _)
  have hq4 := hq3.trans (hb4.mono hq3.size)
  have hql := Nat.lt_of_lt_of_le hql hb4.size
  have h16 := hg.hi
  have hni := (Own.ints (xs := natsI (netsL g)) hnv (by omega)).low2
  obtain ⟨na, nc, rfl⟩ := hnv.isSlice
  have hb5 : Below w3.heap.size w3 (w3.alloc (.cells #[.slice na g.length nc] 71)) := (Below.refl _ _).alloc (Nat.le_refl _) _
  have b4 : (w3.alloc (.cells #[.slice na g.length nc] 71)).cell? ⟨w3.heap.size, 0, none⟩ = some (.slice na g.length nc) := by simp [go_sem]
  have b0 := (hb5.cell (cell_lt b0)).trans b0
  have b1 := (hb5.cell (cell_lt b1)).trans b1
  have b3 := (hb5.cell (cell_lt b3)).trans b3
  have hui := hui.below hb5 (Nat.le_refl _)
  have hni := hni.below hb5 (Nat.le_refl _)
  have hq5 := hq4.trans (hb5.mono hq4.size)
  have hql := Nat.lt_of_lt_of_le hql hb5.size
  clear hnt hnv hb4 hb5 hq3 hq4 b0
  go_wp2_with fail
  go_loopw [37] (fun i wr => ∃ k : Nat, k ≤ ms.length ∧ i = .int .i64 k ∧ RowKit.Hid (∀ s ∈ ms.take k, connB g (maskL s) = true) ∧ Below w.heap.size w wr ∧ SlI (fun b => b < w1.heap.size) wr .u32 (.slice ua ms.length uc) (natsI M) ∧ SlI (fun b => b < w3.heap.size) wr .u32 (.slice na g.length nc) (natsI (netsL g)) ∧ wr.cell? ⟨w.heap.size + 1, 0, none⟩ = some (.slice pa p.length pc) ∧ wr.cell? ⟨w1.heap.size, 0, none⟩ = some (.slice ua ms.length uc) ∧ wr.cell? ⟨w3.heap.size, 0, none⟩ = some (.slice na g.length nc)) (fun i _ => ms.length - (intOf i).toNat)
  case atStart => exact ⟨0, Nat.zero_le _, rfl, Lib.hid (by simp), hq5, hui, hni, b1, b3, b4⟩
  case round =>
    clear hq5 hui hni b1 b3 b4 hql
    obtain ⟨w4, rfl⟩ : ∃ wx : World, wx = wr := ⟨_, rfl⟩
    obtain ⟨k, hk, rfl, HN, hq, hui, hni, c1, c3, c4⟩ := hrel
    by_cases hlt : k < ms.length
    case pos =>
      obtain ⟨ub, uo, ucap, hue, huc⟩ := hui.at_
      rw [natsI_len, hml] at hue
      have hue2 := hue (by omega)
      simp only [Value.slice.injEq, true_and] at hue2
      obtain ⟨rfl, rfl⟩ := hue2
      have hcell := huc k (by rw [natsI_len, hml]; exact hlt)
      have hML : k < M.length := by rw [hml]; exact hlt
      rw [natsI_getE _ hML] at hcell
      have hmk : M[k] = maskL ms[k] := by rw [← HMG.out k hlt]; simp [hML]
      rw [hmk] at hcell
      have hcn := fun (W : World) (hb : Below w4.heap.size w4 W) => connectedB_any (ht.below (hq.trans (hb.mono hq.size)) (Nat.le_refl _)) hg (hni.below hb (Nat.le_refl _)) (maskRise_lt (hri k hlt))
      have htk : ms.take (k + 1) = ms.take k ++ [ms[k]] := List.take_succ_eq_append_getElem hlt
      have hmem : ms[k] ∈ ms := List.getElem_mem hlt
      have hcn1 := hcn w4 (Below.refl _ _)
      clear hcn huc hue hmk
      cases hc : connB g (maskL ms[k]) with
      | true =>
        have HNX := Lib.hid (show ∀ s ∈ ms.take (k + 1), connB g (maskL s) = true from fun s hs => by
          rw [htk, List.mem_append, List.mem_singleton] at hs
          rcases hs with hs | rfl
          · exact HN.out s hs
          · exact hc)
        rw [hc] at hcn1
        clear hc htk hmem
        go_wp2_with fail
        refine hcn1.mono ?_
        rintro e w5 ⟨rfl, hb5⟩
        have hq5 := hq.trans (hb5.mono hq.size)
        go_wp2
        go_roundw
        case rel => exact ⟨k + 1, by omega, by go_num, HNX, hq5, hui.below hb5 (Nat.le_refl _), hni.below hb5 (Nat.le_refl _), (hb5.cell (cell_lt c1)).trans c1, (hb5.cell (cell_lt c3)).trans c3, (hb5.cell (cell_lt c4)).trans c4⟩
        case measure => simp [intOf]; omega
      | false =>
        have HF := Lib.hid (show modelOkB g p ms = false by
          rw [HM2.out]
          have : (ms.all fun s => connB g (maskL s)) = false := List.all_eq_false.2 ⟨_, hmem, by rw [hc]; simp⟩
          rw [this]; rfl)
        rw [hc] at hcn1
        clear hc htk hmem
        go_wp2_with fail
        refine hcn1.mono ?_
        rintro e w5 ⟨rfl, hb5⟩
        have hq5 := hq.trans (hb5.mono hq.size)
        go_wp2
        go_ret
        exact ⟨by rw [HF.out]; rfl, hq5⟩
    obtain rfl : k = ms.length := by omega
    have HM3 := Lib.hid (show modelOkB g p ms = !anyNo (netsL g) M (edgesL p) by
      rw [HM2.out]
      have h := HN.out
      rw [List.take_length] at h
      rw [List.all_eq_true.2 h, Bool.true_and])
    have hed := hedge _ hq
    have HED := Lib.hid (fun k (hk : k < (edgesL p).length) => show ∃ u z : Nat, (edgesL p)[k] = [(u : Int), (z : Int)] ∧ u < M.length ∧ z < M.length by
      obtain ⟨u, z, h1, h2, h3⟩ := edge_parts HGP.out hk
      exact ⟨u, z, h1, by rw [hml, HLEN.out]; exact h2, by rw [hml, HLEN.out]; exact h3⟩)
    have hnl := netsL_len g
    have hal := netsL_lt hg
    clear HM2 HN hedge
    go_wp2_with fail
    refine hed.mono ?_
    rintro e w5 ⟨eu, rfl, heu, hb5⟩
    have hq5 := hq.trans (hb5.mono hq.size)
    have c3 := (hb5.cell (cell_lt c3)).trans c3
    have c4 := (hb5.cell (cell_lt c4)).trans c4
    have hE := heu.rows hsm
    have hct := moContains_any (ht.below hq5 (Nat.le_refl _)) hE c4 c3 (hni.below hb5 (Nat.le_refl _)) (hui.below hb5 (Nat.le_refl _)) HED.out hal (by rw [hnl]; exact h16) (by rw [hnl]; exact hM) (by have := hsm.1; omega)
    obtain ⟨ea, ec, rfl⟩ := heu.isSlice
    generalize anyNo (netsL g) M (edgesL p) = bb at *
    generalize (edgesL p).length = EL at hct ⊢
    clear hed heu hq hb5 c1 HED hE
    go_wp2_with fail
    refine hct.mono ?_
    rintro e w6 ⟨rfl, hb6⟩
    go_wp2
    go_ret
    exact ⟨by rw [HM3.out]; rfl, hq5.trans (hb6.mono hq5.size)⟩
