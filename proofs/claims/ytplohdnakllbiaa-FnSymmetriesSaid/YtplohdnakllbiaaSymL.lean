/- The law of symmetries. -/
import Derived.Test.YtplohdnakllbiaaSymM
import Derived.Test.YtplohdnakllbiaaOrb9
import Derived.Test.YtplohdnakllbiaaBig
import Derived.Test.YtplohdnakllbiaaSmall
namespace Go.Proofs.Ytplohdnakllbiaa
open Go.RowKit
set_option maxHeartbeats 4000000 in
set_option maxRecDepth 100000 in
theorem drawSymmetries_any {S : Nat → Prop} {v : Value} {bs : List Int} {w : World} (hv : SlI S w .u8 v bs) (hr : ∀ x ∈ bs, 0 ≤ x ∧ x < 256) (hS : ∀ b, S b → b < w.heap.size) (hl : bs.length ≤ 4096) :
    Calls Try.prog 22 #[v] w fun e w' => ∃ u g, e = .returned (.agg #[u]) ∧ SlR (fun b => w.heap.size ≤ b ∧ b < w'.heap.size) w' u g ∧ g.length ≤ 17 ∧ (∀ r ∈ g, r.length ≤ 40) ∧ Below w.heap.size w w' := by
  have hb0 : Below w.heap.size w (w.alloc (.cells #[.slice none 0 0] 31)) := (Below.refl _ _).alloc (Nat.le_refl _) _
  have hr0 := own_new w w.heap.size 31 (.slice none 0 0) (Nat.le_refl _)
  have hnw := l1New_any (hv.below hb0 (Nat.le_refl _)) hr (fun b hb => by have := hS b hb; simp; omega) hl
  have hd0 : w.heap.size < (w.alloc (.cells #[.slice none 0 0] 31)).heap.size := by simp
  have hd2 := hb0.size
  generalize hD : (w.alloc (.cells #[.slice none 0 0] 31)).heap.size = d at hnw hd0 hd2
  have HDD := Lib.hid hD
  clear hD
  go_enter Try.func22, Try.ntmps22
  go_wp2_with fail
  refine hnw.mono ?_
  rintro e w1 ⟨rfl, hC, hb1⟩
  have hq1 := hb0.trans (hb1.mono hd2)
  have hr1 := hr0.below hb1 (by rw [HDD.out]; exact Nat.le_refl _)
  have hd1 := hC.lt
  have hl4 := l4Draw_any hC hl
  clear hnw hb0 hr0
  go_wp2_with fail
  refine hl4.mono ?_
  rintro e w2 ⟨u, g, rfl, hg, hgl, hgr, hm⟩
  have hr2 := own1_kept hr1 hm.2 (by simp; omega)
  have hms := hm.size
  have hs1 := hq1.size
  have hq2 : Below w.heap.size w w2 := hm.2.below hq1 hs1 (fun b hb => by simp at hb; omega)
  obtain ⟨ua, uc, rfl⟩ := hg.slice
  obtain ⟨r1, r2, -, -⟩ := own_cell hr2
  have hl1 := (hr1.lt _ rfl).2
  clear hl4 hm hC
  go_wp2
  refine bodyPost_ret (v := .agg #[.slice ua g.length uc]) (by simp [results, Try.results22, go_sem, r1]) rfl ⟨_, g, rfl, ?_, hgl, hgr, hq2.setCell (by simp) _⟩
  exact hg.baseKeep (fun b h1 h2 => Below.heap_setCell _ _ _ _ (by simp; omega)) (by simp) (by omega)
/-- What the law asks of the orbits. -/
structure SymF (g : List (List Int)) (ob : Nat → Nat) : Prop where
  gok : GOk g
  h8 : g.length ≤ 8
  get : orbL g = natsI ((List.range g.length).map ob)
  le : ∀ v, ob v ≤ v
  idem : ∀ v, v < g.length → ob (ob v) = ob v
  deg : ∀ v, v < g.length → (g.getD v []).length = (g.getD (ob v) []).length
  pos : 0 < symI g
  co : ∀ (L : List NP) (M : List Nat), EdL L g.length M → PC (edgeB g) g.length L g.length 0 → GOk (M.map bitsI) ∧ symI (M.map bitsI) = symI g
theorem symF_of {g : List (List Int)} (hsm : smallB g = true) : SymF g (orbV (netsL g)) := by
  have hh : GOk g ∧ g.length ≤ 8 := by
    simp only [smallB, Bool.and_eq_true, decide_eq_true_eq] at hsm
    exact ⟨gokB_iff.1 hsm.1, hsm.2⟩
  obtain ⟨hg, h8⟩ := hh
  have hs := sym_nets hg
  have hn := netsL_len g
  have h1 := hg.lo
  have hsy : symI g = (cntN (netsL g) (netsL g) g.length [] : Int) := by rw [symI, if_pos hsm]
  refine ⟨hg, h8, ?_, fun v => orb_self, fun v hv => orb_idem hs (by omega), fun v hv => ?_, ?_, fun L M hE hP => ?_⟩
  · rw [orbL, if_pos hsm, orbN, hn]
  · have hu := orb_lt (H := netsL g) (v := v) (by omega)
    have := orb_deg hg hv (by omega)
    have e1 : g.getD v [] = g[v] := by simp [hv]
    have e2 : g.getD (orbV (netsL g) v) [] = g[orbV (netsL g) v]'(by omega) := by simp [show orbV (netsL g) v < g.length by omega]
    rw [e1, e2, this]
  · have := cnt_pos hs (by omega)
    rw [hn] at this
    rw [hsy]; omega
  · have hM := hE.gok h1 (by omega) hP.all
    refine ⟨hM, ?_⟩
    have hml : (M.map bitsI).length = g.length := by rw [List.length_map, hE.1]
    have hsm2 : smallB (M.map bitsI) = true := by simp only [smallB, gokB_true hM, Bool.true_and, decide_eq_true_eq]; omega
    have := sym_co hg hE hP
    rw [hsy, symI, if_pos hsm2, this]
set_option maxRecDepth 100000 in
set_option maxHeartbeats 8000000 in
theorem lawSymmetries_any {S : Nat → Prop} (v : Value) (bs : List Int) (w : World) (hv0 : SlI S w .u8 v bs) (hr : ∀ x ∈ bs, 0 ≤ x ∧ x < 256) :
    Calls Try.prog 5 #[v] w fun e w' => e = .returned (.bool true) ∧ Below w.heap.size w w' := by
  have hv := hv0.lowS
  have hbg := big_any hv
  by_cases hl : bs.length ≤ 4096
  case neg =>
    rw [decide_eq_true (show 4096 < bs.length by omega)] at hbg
    go_enter Try.func5, Try.ntmps5
    go_wp2_with (go_at_call 14; refine hbg.mono ?_; rintro e w' ⟨rfl, rfl⟩)
    go_ret
    exact ⟨rfl, Below.refl _ _⟩
  rw [decide_eq_false (show ¬ 4096 < bs.length by omega)] at hbg
  have hdr := drawSymmetries_any hv hr (fun b hb => hb) hl
  go_enter Try.func5, Try.ntmps5
  go_wp2_with (go_at_call 14; refine hbg.mono ?_; rintro e w' ⟨rfl, rfl⟩)
  refine hdr.mono ?_
  rintro e w2 ⟨u, g, rfl, hgv, hg17, -, hb2⟩
  clear hdr hbg
  obtain ⟨ua, uc, rfl⟩ := hgv.slice
  have hb3 : Below w2.heap.size w2 (w2.alloc (.cells #[.slice ua g.length uc] 31)) := (Below.refl _ _).alloc (Nat.le_refl _) _
  have hq3 := hb2.trans (hb3.mono hb2.size)
  have hgv3 := hgv.below hb3 (Nat.le_refl _)
  have hsi := implSymmetries_any hgv3
  go_wp2_with fail
  refine hsi.mono ?_
  rintro e w4 ⟨rfl, hb4⟩
  have hq4 := hq3.trans (hb4.mono hq3.size)
  have hgv4 := hgv3.below hb4 (Nat.le_refl _)
  have c4 : w4.cell? ⟨w2.heap.size, 0, none⟩ = some (.slice ua g.length uc) := (hb4.cell (p := ⟨w2.heap.size, 0, none⟩) (by simp)).trans (by simp [go_sem])
  have hoi := implOrbitsOf_any hgv4
  clear hsi hb3 hgv3 hb4 hq3
  go_wp2_with fail
  refine hoi.mono ?_
  rintro e w5 ⟨o, rfl, ho, hb5⟩
  have hq5 := hq4.trans (hb5.mono hq4.size)
  have hgv5 := hgv4.below hb5 (Nat.le_refl _)
  have c5 := (hb5.cell (cell_lt c4)).trans c4
  have hol : (orbL g).length ≤ 1048576 := orbL_len (by omega)
  have hoI := Own.ints (xs := orbL g) ho (by omega)
  have hss := specSymmetries_any hgv5
  obtain ⟨oa, oc, rfl⟩ := ho.isSlice
  clear hoi hb5 hgv4 hq4 c4 ho
  go_wp2_with fail
  refine hss.mono ?_
  rintro e w6 ⟨rfl, hb6⟩
  have hq6 := hq5.trans (hb6.mono hq5.size)
  have hgv6 := hgv5.below hb6 (Nat.le_refl _)
  have c6 := (hb6.cell (cell_lt c5)).trans c5
  have hoI6 := hoI.below hb6 (Nat.le_refl _)
  have hso := specOrbitsOf_any hgv6
  clear hss hb6 hgv5 hq5 c5 hoI
  have hne1 : (symI g != symI g) = false := by simp
  go_wp2_with fail
  refine hso.mono ?_
  rintro e w7 ⟨o2, rfl, ho2, hb7⟩
  have hq7 := hq6.trans (hb7.mono hq6.size)
  have hgv7 := hgv6.below hb7 (Nat.le_refl _)
  have c7 := (hb7.cell (cell_lt c6)).trans c6
  have hoI7 := hoI6.below hb7 (Nat.le_refl _)
  have hlk := likeInts_any hoI7 ho2
  rw [decide_eq_true rfl] at hlk
  clear hso hb7 hgv6 hq6 c6 hoI6
  go_wp2_with fail
  refine hlk.mono ?_
  rintro e w8 ⟨rfl, hb8⟩
  have hb8 := hb8.below w7.heap.size
  have hq8 := hq7.trans (hb8.mono hq7.size)
  have hgv8 := hgv7.below hb8 (Nat.le_refl _)
  have c8 := (hb8.cell (cell_lt c7)).trans c7
  have hoI8 := hoI7.below hb8 (Nat.le_refl _)
  clear hlk hb8 hgv7 hq7 c7 hoI7 ho2 hne1
  by_cases hsm : smallB g = true
  case neg =>
    have e1 : symI g = 0 := by rw [symI, if_neg hsm]
    have e2 : orbL g = [] := by rw [orbL, if_neg hsm]
    rw [e1]
    rw [e2] at hoI8 ⊢
    go_wp2
    go_ret
    exact ⟨rfl, hq8⟩
  have hF := symF_of hsm
  generalize orbV (netsL g) = ob at hF
  have HF := Lib.hid hF
  have hg := hF.gok
  have h8 := hF.h8
  have hpos := hF.pos
  have hc0 : (symI g == 0) = false := by rw [beq_eq_false_iff_ne]; omega
  have HL := Lib.hid (show (orbL g).length = g.length by rw [hF.get]; simp [natsI])
  have hcm := complement_any hg hgv8
  clear hF hsm hol
  generalize hsI : symI g = sI at *
  have HSI := Lib.hid hsI
  clear hsI
  go_wp2_with fail
  refine hcm.mono ?_
  rintro e w9 ⟨cu, L, M, rfl, hR, hE, hP, hb9⟩
  have hM := HF.out.co L M hE hP
  have hq9 := hq8.trans (hb9.mono hq8.size)
  have hgv9 := hgv8.below hb9 (Nat.le_refl _)
  have c9 := (hb9.cell (cell_lt c8)).trans c8
  have hoI9 := hoI8.below hb9 (Nat.le_refl _)
  have hcv := hR.rows (gok_small hM.1)
  have HM := Lib.hid (hM.2.trans HSI.out)
  obtain ⟨ca, cc, rfl⟩ := hcv.slice
  have hmn : (M.map bitsI).length = g.length := by rw [List.length_map, hE.1]
  rw [hmn]
  have HMN := Lib.hid hmn
  clear hcm hb9 hgv8 hq8 c8 hoI8 hR hE hP hM hmn
  obtain ⟨ob', oo, ocap, hoe, hoc⟩ := hoI9.at_
  rw [HL.out] at hoe ⊢
  have hg0 := hg.lo
  have hoe := hoe (by have := HL.out; omega)
  simp only [Value.slice.injEq] at hoe
  obtain ⟨rfl, -, rfl⟩ := hoe
  have hob : ∀ x, x < g.length → w9.cell? ⟨ob', oo + x, none⟩ = some (.int .i64 (ob x : Int)) := fun x hx => by
    rw [hoc x (by rw [HL.out]; exact hx)]
    simp [HF.out.get, natsI]
  have HOB := Lib.hid hob
  obtain ⟨ga', gb, goff, gcap, f, hge, hgl, hga, hgc⟩ := hgv9
  simp only [Value.slice.injEq] at hge
  obtain ⟨rfl, -, rfl⟩ := hge
  obtain ⟨rfl, -⟩ := hga (by omega)
  have HGC := Lib.hid hgc
  clear hoc hob hoI9 hgc hg
  go_wp2
  go_loopw [8] (fun iv wr => ∃ x : Nat, x ≤ g.length ∧ iv = .int .i64 x ∧ Below w9.heap.size w9 wr ∧ wr.cell? ⟨w9.heap.size, 0, none⟩ = some (.slice ca g.length cc)) (fun iv _ => g.length - (intOf iv).toNat)
  case atStart => exact ⟨0, by omega, rfl, (Below.refl _ _).alloc (Nat.le_refl _) _, by simp [go_sem]⟩
  case round =>
    obtain ⟨x, hx, rfl, hqi, cC⟩ := hrel
    obtain ⟨wi, rfl⟩ : ∃ wx : World, wx = wr := ⟨_, rfl⟩
    by_cases hlt : x < g.length
    case neg =>
      have hcvi := hcv.below hqi (Nat.le_refl _)
      rw [show (Value.slice ca (M.map bitsI).length cc) = .slice ca g.length cc by rw [HMN.out]] at hcvi
      have hsc := implSymmetries_any hcvi
      rw [HM.out] at hsc
      go_wp2_with fail
      refine hsc.mono ?_
      rintro e we ⟨rfl, hbe⟩
      go_wp2
      go_ret
      exact ⟨rfl, hq9.trans ((hqi.trans (hbe.mono hqi.size)).mono hq9.size)⟩
    have hyx := HF.out.le x
    have hid := HF.out.idem x hlt
    have hdg := HF.out.deg x hlt
    have d1 := HOB.out x hlt
    have d2 := HOB.out (ob x) (by omega)
    rw [hid] at d2
    generalize ob x = y at *
    have hylt : y < g.length := by omega
    obtain ⟨k1, r1⟩ := HGC.out x hlt
    obtain ⟨k2, r2⟩ := HGC.out y hylt
    obtain ⟨ra1, rc1, e1⟩ := r1.slice
    obtain ⟨ra2, rc2, e2⟩ := r2.slice
    have ex : g.getD x [] = g[x] := by simp [hlt]
    have ey : g.getD y [] = g[y] := by simp [hylt]
    rw [ex, ey] at hdg
    rw [e1] at k1
    rw [e2, ← hdg] at k2
    generalize g[x].length = ℓ at *
    have d1 := (hqi.cell (cell_lt d1)).trans d1
    have d2 := (hqi.cell (cell_lt d2)).trans d2
    have k1 := (hqi.cell (cell_lt k1)).trans k1
    have k2 := (hqi.cell (cell_lt k2)).trans k2
    have cg := (hqi.cell (cell_lt c9)).trans c9
    have hy0 : decide ((y : Int) < 0) = false := decide_eq_false (by omega)
    have hyx2 : decide ((x : Int) < (y : Int)) = false := decide_eq_false (by omega)
    have hyx3 : decide (x < y) = false := decide_eq_false (by omega)
    have hlti : (x : Int) < g.length := by omega
    have hylti : (y : Int) < g.length := by omega
    clear hid hdg e1 e2 r1 r2 ex ey hcv
    go_wp2
    go_quiet (fail)
    go_wp2
    go_roundw
    case rel => exact ⟨x + 1, by omega, by go_num, hqi.drewN' _, cC⟩
    case measure => simp [intOf]; omega
end Go.Proofs.Ytplohdnakllbiaa
