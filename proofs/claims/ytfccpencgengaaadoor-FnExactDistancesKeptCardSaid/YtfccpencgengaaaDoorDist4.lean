/- DistancesKept of the program and of the reference; the law. -/
import Derived.Test.YtfccpencgengaaaDoorDist2
import Derived.Test.YtfccpencgengaaaDoorDist3
namespace Go.Proofs.YtfccpencgengaaaDoor
open Go.RowKit
theorem firstN_pow {n k : Nat} : ¬ k ≤ firstN n ↔ 2 ^ n ≤ k := by unfold firstN; have := Nat.two_pow_pos n; omega
theorem firstN_lt2 (n : Nat) : firstN n < 2 ^ n := by unfold firstN; have := Nat.two_pow_pos n; omega
theorem rangeI_bitsD {n : Nat} (hn : n ≤ 16) : rangeI n = bitsI (firstN n) := by
  have hf : firstN n < 4294967296 := by have := firstN_lt hn; omega
  refine sorted_ext (rangeI_sorted n) (bitsI_sorted _) fun x => ?_
  rw [mem_rangeI, mem_bits_firstN hn]
theorem pow8 {n : Nat} (h : n ≤ 8) : 2 ^ n ≤ 256 := Nat.le_trans (Nat.pow_le_pow_right (by omega) h) (by decide)
set_option maxRecDepth 100000 in
set_option maxHeartbeats 8000000 in
theorem implDistancesKept_any {S : Nat → Prop} {v : Value} {g : List (List Int)} {w : World} (ht : Tab w) (hv : SlR S w v g) :
    Calls Tryd.prog 19 #[.agg #[v]] w fun e w' => e = .returned (.bool (keptB g)) ∧ Below w.heap.size w w' := by
  have hq0 : Below w.heap.size w (w.alloc (.cells #[v] 27)) := (Below.refl _ _).alloc (Nat.le_refl _) _
  obtain ⟨va, vc, rfl⟩ := hv.slice
  have hsm := isSmallD_any (hv.below hq0 (Nat.le_refl _))
  by_cases hw : smallD g = true
  case neg =>
    have hw' : smallD g = false := by simpa using hw
    rw [hw'] at hsm
    have HE := Lib.hid (show keptB g = false by simp [keptB, hw'])
    clear hw hw'
    go_enter Tryd.func19, Tryd.ntmps19
    go_wp2_with fail
    refine hsm.mono ?_
    rintro e w1 ⟨rfl, hb1⟩
    go_wp2
    go_ret
    exact ⟨ret_bool HE.out.symm, hq0.trans (hb1.mono hq0.size)⟩
  rw [hw] at hsm
  have hgw : gokB g = true ∧ g.length ≤ 8 := by simpa [smallD] using hw
  have hg := gokB_iff.1 hgw.1
  have h8 := hgw.2
  have h16 := hg.hi
  have h0 : 0 < g.length := by have := hg.lo; omega
  have HE := Lib.hid (show (keptB g = true) ↔ ∀ s, 0 < s → s < 2 ^ g.length → KeptD (netsL g) g.length s by simp [keptB, hw])
  have HW := Lib.hid (WideI.of hg)
  have hp8 := pow8 h8
  have HP8 := Lib.hid hp8
  have hfp := firstN_lt2 g.length
  have hff : firstN g.length < 256 := by omega
  have HFP := Lib.hid hfp
  have HNL := Lib.hid (netsL_len g)
  have HN32 := Lib.hid (netsL_lt hg)
  clear hw hgw hp8 hfp
  go_enter Tryd.func19, Tryd.ntmps19
  go_wp2_with fail
  refine hsm.mono ?_
  rintro e w1 ⟨rfl, hb1⟩
  have hq1 := hq0.trans (hb1.mono hq0.size)
  have cg1 : w1.cell? ⟨w.heap.size, 0, none⟩ = some (.slice va g.length vc) := (hb1.cell (p := ⟨w.heap.size, 0, none⟩) (by simp)).trans (by simp [go_sem])
  clear hsm hq0 hb1
  go_wp2_with fail
  refine (netsOf_any _ _ _ (hv.below hq1 (Nat.le_refl _)) hg).mono ?_
  rintro e w2 ⟨u2, rfl, hu2, hb2⟩
  have hq2 := hq1.trans (hb2.mono hq1.size)
  obtain ⟨ng, nc, rfl⟩ := own_some hu2 h0
  have hn2 := (Own.ints (xs := natsI (netsL g)) hu2 (by omega)).weak (S' := fun _ => True) (fun _ _ => trivial)
  have hall := fun W : World => allOf_any (some ⟨ng, 0, none⟩) g.length nc W h16
  clear hu2 hb2 hq1 cg1
  go_wp2
  go_loopw [4] (fun s wr => ∃ k : Nat, 1 ≤ k ∧ k ≤ 256 ∧ s = .int .u32 (k : Int) ∧ RowKit.Hid (∀ s, 0 < s → s < k → KeptD (netsL g) g.length s) ∧ Below w2.heap.size w2 wr) (fun s _ => 257 - (intOf s).toNat)
  case atStart => exact ⟨1, Nat.le_refl _, by omega, rfl, Lib.hid (fun s h1 h2 => by omega), Below.refl _ _⟩
  case round =>
    obtain ⟨k, hk1, hk256, rfl, HK, hqr⟩ := hrel
    have hq := hq2.trans (hqr.mono hq2.size)
    by_cases hkf : k ≤ firstN g.length
    case neg =>
      have HT : RowKit.Hid (keptB g = true) := Lib.hid (HE.out.2 fun s h1 h2 => HK.out s h1 (by have := firstN_pow.1 hkf; omega))
      go_wp2_with (go_at_call 55; refine (hall _).mono ?_; rintro e w' ⟨rfl, rfl⟩)
      go_ret
      exact ⟨ret_bool HT.out.symm, hq⟩
    have hkn : k < 2 ^ g.length := by have := HFP.out; omega
    have HKN := Lib.hid hkn
    have hk32 : k < 4294967296 := by omega
    have hcon := connected_any (wi := k) (ht.below hq (Nat.le_refl _)) (hn2.below hqr (Nat.le_refl _)) (by rw [HNL.out]; exact h16) HN32.out (by rw [HNL.out]; exact hkn) (by omega)
    have hpo := parts_one (a := netsL g) hk32 (by omega)
    clear hkn
    by_cases hc : (partsN (netsL g) k).length = 1
    case neg =>
      rw [decide_eq_false hc] at hcon
      have HK2 : RowKit.Hid (∀ s, 0 < s → s < k + 1 → KeptD (netsL g) g.length s) := Lib.hid (fun s h1 h2 => by
        by_cases e : s = k
        · subst e; exact fun h => absurd (hpo.2 h) hc
        · exact HK.out s h1 (by omega))
      clear hpo hc
      go_wp2_with (first | (go_at_call 55; refine (hall _).mono ?_; rintro e w' ⟨rfl, rfl⟩) | (go_at_call 54; refine hcon.mono ?_; rintro e w3 ⟨rfl, hb3⟩))
      go_roundw
      case rel => exact ⟨k + 1, by omega, by omega, by go_num, HK2, hqr.trans (hb3.mono hqr.size)⟩
      case measure => simp [intOf]; omega
    rw [decide_eq_true hc] at hcon
    have HCON := Lib.hid (hpo.1 hc)
    clear hpo hc
    have hRL := bitsN_len k
    have HBL := Lib.hid (bits_natsI3 k)
    have HMB := Lib.hid (fun u => mem_bitsN (i := u) hk32)
    have hli := fun (W : World) (hb : Below w.heap.size w W) => list_any k W (ht.below hb (Nat.le_refl _)) hk32
    have HLI := Lib.hid hli
    have HDI := Lib.hid (fun (x : Nat) (hx : x < g.length) => (⟨HW.out, HKN.out, hx⟩ : DistI (netsL g) k x g.length))
    have HDA := Lib.hid (fun (x : Nat) (hx : x < g.length) => (⟨HW.out, HFP.out, hx⟩ : DistI (netsL g) (firstN g.length) x g.length))
    have HRN := Lib.hid (fun u (hu : u ∈ bitsN k) => bit_lt_of HKN.out ((mem_bitsN hk32).1 hu))
    obtain ⟨R, hR⟩ : ∃ R, R = bitsN k := ⟨_, rfl⟩
    rw [← hR] at hRL HMB HBL HRN
    have HR := Lib.hid hR
    clear hR hli
    go_wp2_with (first | (go_at_call 55; refine (hall _).mono ?_; rintro e w' ⟨rfl, rfl⟩) | (go_at_call 54; refine hcon.mono ?_; rintro e w3 ⟨rfl, hb3⟩; have hqr3 := hqr.trans (hb3.mono hqr.size); have hq3 := hq2.trans (hqr3.mono hq2.size)))
    refine (HLI.out _ hq3).mono ?_
    rintro e w4 ⟨u4, rfl, hu4, hb4⟩
    have hqr4 := hqr3.trans (hb4.mono hqr3.size)
    have hui := Own.ints (xs := bitsI k) hu4 (by have := bitsI_len k; omega)
    rw [HBL.out] at hui
    have hul : (bitsI k).length = R.length := by rw [HBL.out, natsI_len]
    rw [hul] at hu4
    obtain ⟨ua, uc, rfl⟩ := hu4.isSlice
    obtain ⟨ub, uo, ucap, hue, huc⟩ := hui.at_
    rw [natsI_len] at hue
    have HUC := Lib.hid huc
    have HUL := Lib.hid hul
    clear hu4 hui hul huc hcon hb3 hqr3 hq3 hb4 hqr hq
    go_wp2
    go_loopw [29] (fun i wr => ∃ j : Nat, j ≤ R.length ∧ i = .int .i64 j ∧ RowKit.Hid (∀ x ∈ R.take j, ∀ u, k.testBit u = true → SameD (netsL g) g.length k x u) ∧ Below w4.heap.size w4 wr) (fun i _ => R.length - (intOf i).toNat)
    case atStart => exact ⟨0, Nat.zero_le _, rfl, Lib.hid (by simp), Below.refl _ _⟩
    case round =>
      obtain ⟨w5, rfl⟩ : ∃ wx : World, wx = wr := ⟨_, rfl⟩
      obtain ⟨j, hj, rfl, HV, hq5⟩ := hrel
      have hqr5 := hqr4.trans (hq5.mono hqr4.size)
      by_cases hlt : j < R.length
      case neg =>
        obtain rfl : j = R.length := by omega
        have HK2 : RowKit.Hid (∀ s, 0 < s → s < k + 1 → KeptD (netsL g) g.length s) := Lib.hid (fun s h1 h2 => by
          by_cases e : s = k
          · subst e
            intro _ x hx u hu
            exact HV.out x (by rw [List.take_length]; exact (HMB.out x).2 hx) u hu
          · exact HK.out s h1 (by omega))
        clear hue
        go_wp2
        go_roundw
        case rel => exact ⟨k + 1, by omega, by omega, by go_num, HK2, hqr5⟩
        case measure => simp [intOf]; omega
      have hc := HUC.out j (by rw [natsI_len]; exact hlt)
      rw [natsI_get] at hc
      have hue2 := hue (by omega)
      simp only [Value.slice.injEq] at hue2
      obtain ⟨rfl, -, rfl⟩ := hue2
      have hxn := HRN.out R[j] (List.getElem_mem hlt)
      have hxk := (HMB.out R[j]).1 (List.getElem_mem hlt)
      have HTK := Lib.hid (show R.take (j + 1) = R.take j ++ [R[j]] from List.take_succ_eq_append_getElem hlt)
      generalize R[j] = x at hc hxn hxk HTK
      have HXK := Lib.hid hxk; clear hxk
      have hc5 := (hq5.cell (p := ⟨ub, uo + j, none⟩) (cell_lt hc)).trans hc
      have hq5w := hq2.trans (hqr5.mono hq2.size)
      have hd1 := distances_any (ht.below hq5w (Nat.le_refl _)) (HDI.out x hxn) (hn2.below hqr5 (Nat.le_refl _))
      have hd2 := fun (W : World) (hb : Below w2.heap.size w2 W) => distances_any (ht.below (hq2.trans (hb.mono hq2.size)) (Nat.le_refl _)) (HDA.out x hxn) (hn2.below hb (Nat.le_refl _))
      clear hc hue
      go_wp2_with fail
      refine hd1.mono ?_
      rintro e w6 ⟨o1, D1, rfl, ho1, hr1, hD1, hb6⟩
      have hqr6 := hqr5.trans (hb6.mono hqr5.size)
      have HD1 := Lib.hid hD1
      have hd2b := hd2 _ hqr6
      clear hd1 hD1 hd2
      go_wp2_with (go_at_call 55; refine (hall _).mono ?_; rintro e w' ⟨rfl, rfl⟩)
      refine hd2b.mono ?_
      rintro e w7 ⟨o2, D2, rfl, ho2, hr2, hD2, hb7⟩
      have hqr7 := hqr6.trans (hb7.mono hqr6.size)
      have hr17 := hr1.below hb7 (Nat.le_refl _)
      have HD2 := Lib.hid hD2
      clear hd2b hD2 hr1
      go_wp2_with fail
      refine (HLI.out _ (hq2.trans (hqr7.mono hq2.size))).mono ?_
      rintro e w8 ⟨u8, rfl, hu8, hb8⟩
      have hqr8 := hqr7.trans (hb8.mono hqr7.size)
      have hq48 : Below w4.heap.size w4 w8 := (((hq5.trans (hb6.mono hq5.size)).trans (hb7.mono (hq5.trans (hb6.mono hq5.size)).size)).trans (hb8.mono ((hq5.trans (hb6.mono hq5.size)).trans (hb7.mono (hq5.trans (hb6.mono hq5.size)).size)).size))
      have hr18 := hr17.below hb8 (Nat.le_refl _)
      have hr28 := hr2.below hb8 (Nat.le_refl _)
      have hui := Own.ints (xs := bitsI k) hu8 (by have := bitsI_len k; omega)
      rw [HBL.out] at hui
      rw [HUL.out] at hu8
      obtain ⟨xa, xc, rfl⟩ := hu8.isSlice
      obtain ⟨xb, xo, xcap, hxe, hxcl⟩ := hui.at_
      rw [natsI_len] at hxe
      have HXC := Lib.hid hxcl
      clear hu8 hui hxcl hb6 hb7 hb8 hr17 hr2 hqr6 hqr7 hq5w hq5 hqr5
      go_wp2
      go_loopw [45] (fun i wr => ∃ l : Nat, l ≤ R.length ∧ i = .int .i64 l ∧ RowKit.Hid (∀ u ∈ R.take l, SameD (netsL g) g.length k x u) ∧ Below w8.heap.size w8 wr) (fun i _ => R.length - (intOf i).toNat)
      case atStart => exact ⟨0, Nat.zero_le _, rfl, Lib.hid (by simp), Below.refl _ _⟩
      case round =>
        obtain ⟨w9, rfl⟩ : ∃ wx : World, wx = wr := ⟨_, rfl⟩
        obtain ⟨l, hl, rfl, HU, hq9⟩ := hrel
        by_cases hll : l < R.length
        case neg =>
          obtain rfl : l = R.length := by omega
          have HV2 : RowKit.Hid (∀ x ∈ R.take (j + 1), ∀ u, k.testBit u = true → SameD (netsL g) g.length k x u) := Lib.hid (fun y hy u hu => by
            rw [HTK.out, List.mem_append, List.mem_singleton] at hy
            rcases hy with hy | rfl
            · exact HV.out y hy u hu
            · exact HU.out u (by rw [List.take_length]; exact (HMB.out u).2 hu))
          go_wp2
          go_roundw
          case rel => exact ⟨j + 1, by omega, by go_num, HV2, hq48.trans (hq9.mono hq48.size)⟩
          case measure => simp [intOf]; omega
        have hc := HXC.out l (by rw [natsI_len]; exact hll)
        rw [natsI_get] at hc
        have hxe2 := hxe (by omega)
        simp only [Value.slice.injEq] at hxe2
        obtain ⟨rfl, -, rfl⟩ := hxe2
        have hyn := HRN.out R[l] (List.getElem_mem hll)
        have hyk := (HMB.out R[l]).1 (List.getElem_mem hll)
        have HTL := Lib.hid (show R.take (l + 1) = R.take l ++ [R[l]] from List.take_succ_eq_append_getElem hll)
        generalize R[l] = y at hc hyn hyk HTL
        have HYK := Lib.hid hyk; clear hyk
        have hc9 := (hq9.cell (p := ⟨xb, xo + l, none⟩) (cell_lt hc)).trans hc
        have h1c := ((hr18.below hq9 (Nat.le_refl _)) y hyn).1
        have h2c := ((hr28.below hq9 (Nat.le_refl _)) y hyn).1
        unfold tabV at h1c h2c
        clear hc hxe
        by_cases he : D1 y = D2 y
        · have HU2 : RowKit.Hid (∀ u ∈ R.take (l + 1), SameD (netsL g) g.length k x u) := Lib.hid (fun u hu => by
            rw [HTL.out, List.mem_append, List.mem_singleton] at hu
            rcases hu with hu | rfl
            · exact HU.out u hu
            · exact SameD.of HD1.out HD2.out hyn he)
          rw [← he] at h2c
          generalize D1 y = d at h1c h2c
          clear he
          go_wp2
          refine wp_region_held_drew (S := (fun w' => w'.cell? ⟨o1, y, none⟩ = some (.int .i64 d) ∧ w'.cell? ⟨o2, y, none⟩ = some (.int .i64 d))) (by kernel_rfl) ?_ (fun hHeld => ?_)
          · first | exact ⟨‹_›, ‹_›⟩ | assumption | (simp [*, go_sem])
          have hqd := hq9.drew
          generalize w9.drew = wd at hqd hHeld ⊢
          have hHeld2 := hHeld
          obtain ⟨e1, e2⟩ := hHeld2
          refine wpAnyH_take (i := 0) (v := ?v1) (by simp only [List.getElem?_toArray, List.getElem?_cons_zero]; exact rfl) (by kernel_rfl) (by kernel_rfl) (by kernel_rfl) (by intro _ _ _ h; exact h) (Or.inl ⟨by rfl, ?y1⟩) hHeld ?_
          case y1 => (intro w hSw; (try dsimp only at hSw); go_simp; try (with_reducible rfl))
          try simp only [Act.put, List.setIfInBounds_toArray, List.set_cons_zero, List.set_cons_succ]
          refine wpAnyH_take (i := 1) (v := ?v2) (by simp only [List.getElem?_toArray, List.getElem?_cons_succ, List.getElem?_cons_zero]; exact rfl) (by kernel_rfl) (by kernel_rfl) (by kernel_rfl) (by intro _ _ _ h; exact h) (Or.inl ⟨by rfl, ?y2⟩) hHeld ?_
          case y2 => (intro w hSw; (try dsimp only at hSw); go_simp; try (with_reducible rfl))
          try simp only [Act.put, List.setIfInBounds_toArray, List.set_cons_zero, List.set_cons_succ]
          refine wpAnyH_take (i := 2) (v := ?v3) (by simp only [List.getElem?_toArray, List.getElem?_cons_succ, List.getElem?_cons_zero]; exact rfl) (by kernel_rfl) (by kernel_rfl) (by kernel_rfl) (by intro _ _ _ h; exact h) (Or.inl ⟨by rfl, ?y3⟩) hHeld ?_
          case y3 => (intro w hSw; (try dsimp only at hSw); go_simp; try (with_reducible rfl))
          try simp only [Act.put, List.setIfInBounds_toArray, List.set_cons_zero, List.set_cons_succ]
          refine wpAnyH_take (i := 3) (v := ?v4) (by simp only [List.getElem?_toArray, List.getElem?_cons_succ, List.getElem?_cons_zero]; exact rfl) (by kernel_rfl) (by kernel_rfl) (by kernel_rfl) (by intro _ _ _ h; exact h) (Or.inl ⟨by rfl, ?y4⟩) hHeld ?_
          case y4 => (intro w hSw; (try dsimp only at hSw); go_simp; try (with_reducible rfl))
          try simp only [Act.put, List.setIfInBounds_toArray, List.set_cons_zero, List.set_cons_succ]
          refine wpAnyH_take (i := 4) (v := ?v5) (by simp only [List.getElem?_toArray, List.getElem?_cons_succ, List.getElem?_cons_zero]; exact rfl) (by kernel_rfl) (by kernel_rfl) (by kernel_rfl) (by intro _ _ _ h; exact h) (Or.inl ⟨by rfl, ?y5⟩) hHeld ?_
          case y5 => (intro w hSw; (try dsimp only at hSw); go_simp; try (with_reducible rfl))
          try simp only [Act.put, List.setIfInBounds_toArray, List.set_cons_zero, List.set_cons_succ]
          refine wpAnyH_take (i := 5) (v := ?v6) (by simp only [List.getElem?_toArray, List.getElem?_cons_succ, List.getElem?_cons_zero]; exact rfl) (by kernel_rfl) (by kernel_rfl) (by kernel_rfl) (by intro _ _ _ h; exact h) (Or.inl ⟨by rfl, ?y6⟩) hHeld ?_
          case y6 => (intro w hSw; (try dsimp only at hSw); go_simp; try (with_reducible rfl))
          try simp only [Act.put, List.setIfInBounds_toArray, List.set_cons_zero, List.set_cons_succ]
          refine wpAnyH_take (i := 6) (v := ?v7) (by simp only [List.getElem?_toArray, List.getElem?_cons_succ, List.getElem?_cons_zero]; exact rfl) (by kernel_rfl) (by kernel_rfl) (by kernel_rfl) (by intro _ _ _ h; exact h) (Or.inl ⟨by rfl, ?y7⟩) hHeld ?_
          case y7 => (intro w hSw; (try dsimp only at hSw); go_simp; try (with_reducible rfl))
          try simp only [Act.put, List.setIfInBounds_toArray, List.set_cons_zero, List.set_cons_succ]
          refine wpAnyH_take (i := 7) (v := ?v8) (by simp only [List.getElem?_toArray, List.getElem?_cons_succ, List.getElem?_cons_zero]; exact rfl) (by kernel_rfl) (by kernel_rfl) (by kernel_rfl) (by intro _ _ _ h; exact h) (Or.inl ⟨by rfl, ?y8⟩) hHeld ?_
          case y8 => (intro w hSw; (try dsimp only at hSw); go_simp; try (with_reducible rfl))
          try simp only [Act.put, List.setIfInBounds_toArray, List.set_cons_zero, List.set_cons_succ]
          refine wpAnyH_take (i := 8) (v := ?v9) (by simp only [List.getElem?_toArray, List.getElem?_cons_succ, List.getElem?_cons_zero]; exact rfl) (by kernel_rfl) (by kernel_rfl) (by kernel_rfl) (by intro _ _ _ h; exact h) (Or.inl ⟨by rfl, ?y9⟩) hHeld ?_
          case y9 => (intro w hSw; (try dsimp only at hSw); go_simp; try (with_reducible rfl))
          try simp only [Act.put, List.setIfInBounds_toArray, List.set_cons_zero, List.set_cons_succ]
          refine wpAnyH_done (by kernel_rfl) ?_ _
          all_goals
            go_wp2
            go_roundw
            case rel => exact ⟨l + 1, by omega, by go_num, HU2, hqd⟩
            case measure => simp [intOf]; omega
        · have HF : RowKit.Hid (keptB g = false) := Lib.hid (by
            cases h : keptB g
            · rfl
            · exact absurd (HE.out.1 h k (by omega) HKN.out HCON.out x HXK.out y HYK.out) (SameD.not HD1.out HD2.out he))
          have hne : (D1 y != D2 y) = true := by rw [bne_iff_ne]; exact he
          generalize D1 y = d1 at h1c hne
          generalize D2 y = d2 at h2c hne
          have hqw := hq2.trans ((hqr8.trans (hq9.mono hqr8.size)).mono hq2.size)
          clear he
          go_wp2
          refine wp_region_held_drew (S := (fun w' => w'.cell? ⟨o1, y, none⟩ = some (.int .i64 d1) ∧ w'.cell? ⟨o2, y, none⟩ = some (.int .i64 d2))) (by kernel_rfl) ?_ (fun hHeld => ?_)
          · first | exact ⟨‹_›, ‹_›⟩ | assumption | (simp [*, go_sem])
          have hqd := hqw.drew
          generalize w9.drew = wd at hqd hHeld ⊢
          have hHeld2 := hHeld
          obtain ⟨e1, e2⟩ := hHeld2
          refine wpAnyH_take (i := 0) (v := ?v10) (by simp only [List.getElem?_toArray, List.getElem?_cons_zero]; exact rfl) (by kernel_rfl) (by kernel_rfl) (by kernel_rfl) (by intro _ _ _ h; exact h) (Or.inl ⟨by rfl, ?y10⟩) hHeld ?_
          case y10 => (intro w hSw; (try dsimp only at hSw); go_simp; try (with_reducible rfl))
          try simp only [Act.put, List.setIfInBounds_toArray, List.set_cons_zero, List.set_cons_succ]
          refine wpAnyH_take (i := 1) (v := ?v11) (by simp only [List.getElem?_toArray, List.getElem?_cons_succ, List.getElem?_cons_zero]; exact rfl) (by kernel_rfl) (by kernel_rfl) (by kernel_rfl) (by intro _ _ _ h; exact h) (Or.inl ⟨by rfl, ?y11⟩) hHeld ?_
          case y11 => (intro w hSw; (try dsimp only at hSw); go_simp; try (with_reducible rfl))
          try simp only [Act.put, List.setIfInBounds_toArray, List.set_cons_zero, List.set_cons_succ]
          refine wpAnyH_take (i := 2) (v := ?v12) (by simp only [List.getElem?_toArray, List.getElem?_cons_succ, List.getElem?_cons_zero]; exact rfl) (by kernel_rfl) (by kernel_rfl) (by kernel_rfl) (by intro _ _ _ h; exact h) (Or.inl ⟨by rfl, ?y12⟩) hHeld ?_
          case y12 => (intro w hSw; (try dsimp only at hSw); go_simp; try (with_reducible rfl))
          try simp only [Act.put, List.setIfInBounds_toArray, List.set_cons_zero, List.set_cons_succ]
          refine wpAnyH_take (i := 3) (v := ?v13) (by simp only [List.getElem?_toArray, List.getElem?_cons_succ, List.getElem?_cons_zero]; exact rfl) (by kernel_rfl) (by kernel_rfl) (by kernel_rfl) (by intro _ _ _ h; exact h) (Or.inl ⟨by rfl, ?y13⟩) hHeld ?_
          case y13 => (intro w hSw; (try dsimp only at hSw); go_simp; try (with_reducible rfl))
          try simp only [Act.put, List.setIfInBounds_toArray, List.set_cons_zero, List.set_cons_succ]
          refine wpAnyH_take (i := 4) (v := ?v14) (by simp only [List.getElem?_toArray, List.getElem?_cons_succ, List.getElem?_cons_zero]; exact rfl) (by kernel_rfl) (by kernel_rfl) (by kernel_rfl) (by intro _ _ _ h; exact h) (Or.inl ⟨by rfl, ?y14⟩) hHeld ?_
          case y14 => (intro w hSw; (try dsimp only at hSw); go_simp; try (with_reducible rfl))
          try simp only [Act.put, List.setIfInBounds_toArray, List.set_cons_zero, List.set_cons_succ]
          refine wpAnyH_take (i := 5) (v := ?v15) (by simp only [List.getElem?_toArray, List.getElem?_cons_succ, List.getElem?_cons_zero]; exact rfl) (by kernel_rfl) (by kernel_rfl) (by kernel_rfl) (by intro _ _ _ h; exact h) (Or.inl ⟨by rfl, ?y15⟩) hHeld ?_
          case y15 => (intro w hSw; (try dsimp only at hSw); go_simp; try (with_reducible rfl))
          try simp only [Act.put, List.setIfInBounds_toArray, List.set_cons_zero, List.set_cons_succ]
          refine wpAnyH_take (i := 6) (v := ?v16) (by simp only [List.getElem?_toArray, List.getElem?_cons_succ, List.getElem?_cons_zero]; exact rfl) (by kernel_rfl) (by kernel_rfl) (by kernel_rfl) (by intro _ _ _ h; exact h) (Or.inl ⟨by rfl, ?y16⟩) hHeld ?_
          case y16 => (intro w hSw; (try dsimp only at hSw); go_simp; try (with_reducible rfl))
          try simp only [Act.put, List.setIfInBounds_toArray, List.set_cons_zero, List.set_cons_succ]
          refine wpAnyH_take (i := 7) (v := ?v17) (by simp only [List.getElem?_toArray, List.getElem?_cons_succ, List.getElem?_cons_zero]; exact rfl) (by kernel_rfl) (by kernel_rfl) (by kernel_rfl) (by intro _ _ _ h; exact h) (Or.inl ⟨by rfl, ?y17⟩) hHeld ?_
          case y17 => (intro w hSw; (try dsimp only at hSw); go_simp; try (with_reducible rfl))
          try simp only [Act.put, List.setIfInBounds_toArray, List.set_cons_zero, List.set_cons_succ]
          refine wpAnyH_take (i := 8) (v := ?v18) (by simp only [List.getElem?_toArray, List.getElem?_cons_succ, List.getElem?_cons_zero]; exact rfl) (by kernel_rfl) (by kernel_rfl) (by kernel_rfl) (by intro _ _ _ h; exact h) (Or.inl ⟨by rfl, ?y18⟩) hHeld ?_
          case y18 => (intro w hSw; (try dsimp only at hSw); go_simp; try (with_reducible rfl))
          try simp only [Act.put, List.setIfInBounds_toArray, List.set_cons_zero, List.set_cons_succ]
          refine wpAnyH_done (by kernel_rfl) ?_ _
          all_goals
            go_wp2
            go_ret
            exact ⟨ret_bool HF.out.symm, hqd⟩
end Go.Proofs.YtfccpencgengaaaDoor
