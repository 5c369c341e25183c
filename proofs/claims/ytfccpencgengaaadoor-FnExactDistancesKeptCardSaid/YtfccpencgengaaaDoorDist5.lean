/- DistancesKept of the reference; the law. -/
import Derived.Test.YtfccpencgengaaaDoorDist4
import Derived.Test.YtfccpencgengaaaDoorLaws
namespace Go.Proofs.YtfccpencgengaaaDoor
open Go.RowKit
theorem bit_le10D {n k : Nat} (hk : k ≤ n) (hn : n ≤ 10) : bit k ≤ 1024 := Nat.le_trans (Nat.pow_le_pow_right (by omega) (Nat.le_trans hk hn)) (by decide)
theorem adj_falseD (a : List Nat) : adjN a false = a := by simp [adjN]
theorem reach_pop {a : List Nat} {s v n : Nat} (hn : n ≤ 16) (hs : s < 2 ^ n) (hv : s.testBit v = true) : (popN (reachN a s v) < popN s) ↔ reachN a s v ≠ s := by
  have hs32 : s < 4294967296 := Nat.lt_trans hs (pow16_lt hn)
  constructor
  · intro h e
    rw [e] at h; omega
  · intro h
    obtain ⟨u, hu, hnu⟩ : ∃ u, s.testBit u = true ∧ (reachN a s v).testBit u = false := by
      apply Classical.byContradiction
      intro hc
      refine h (nat_ext fun i => ?_)
      cases e : (reachN a s v).testBit i
      · cases e2 : s.testBit i
        · rfl
        · exact absurd ⟨i, e2, e⟩ hc
      · rw [reach_sub hs32 hv e]
    have := pop_more (reachN_lt a s v) hs32 (fun i hi => reach_sub hs32 hv hi) hu hnu
    omega
set_option maxRecDepth 100000 in
set_option maxHeartbeats 8000000 in
theorem specDistancesKept_any {S : Nat → Prop} {v : Value} {g : List (List Int)} {w : World} (hv : SlR S w v g) :
    Calls Tryd.prog 18 #[.agg #[v]] w fun e w' => e = .returned (.bool (keptB g)) ∧ Below w.heap.size w w' := by
  have hq0 : Below w.heap.size w (w.alloc (.cells #[v] 27)) := (Below.refl _ _).alloc (Nat.le_refl _) _
  have hlen := hv.len
  obtain ⟨va, vc, rfl⟩ := hv.slice
  have hgo := specGraphOk_any _ _ _ (hv.below hq0 (Nat.le_refl _))
  by_cases hgg : gokB g = true
  case neg =>
    have hgg' : gokB g = false := by simpa using hgg
    rw [hgg'] at hgo
    have HE := Lib.hid (show keptB g = false by simp [keptB, smallD, hgg'])
    clear hgg hgg'
    go_enter Tryd.func18, Tryd.ntmps18
    go_wp2_with fail
    refine hgo.mono ?_
    rintro e w1 ⟨rfl, hb1⟩
    go_wp2
    go_ret
    exact ⟨ret_bool HE.out.symm, hq0.trans (hb1.mono hq0.size)⟩
  rw [hgg] at hgo
  by_cases h8 : g.length ≤ 8
  case neg =>
    have HE := Lib.hid (show keptB g = false by simp [keptB, smallD, h8])
    have hd : decide ((8 : Int) < (g.length : Int)) = true := by simp; omega
    have hd2 : decide (8 < g.length) = true := by simp; omega
    clear hgg h8
    go_enter Tryd.func18, Tryd.ntmps18
    go_wp2_with fail
    refine hgo.mono ?_
    rintro e w1 ⟨rfl, hb1⟩
    have cg1 : w1.cell? ⟨w.heap.size, 0, none⟩ = some (.slice va g.length vc) := (hb1.cell (p := ⟨w.heap.size, 0, none⟩) (by simp)).trans (by simp [go_sem])
    go_wp2
    go_ret
    exact ⟨ret_bool HE.out.symm, hq0.trans (hb1.mono hq0.size)⟩
  have hd : decide ((8 : Int) < (g.length : Int)) = false := by simp; omega
  have hd2 : decide (8 < g.length) = false := by simp; omega
  have hg := gokB_iff.1 hgg
  have h16 := hg.hi
  have h0 : 0 < g.length := by have := hg.lo; omega
  have HE := Lib.hid (show (keptB g = true) ↔ ∀ s, 0 < s → s < 2 ^ g.length → KeptD (netsL g) g.length s by simp [keptB, smallD, hgg, h8])
  have HP8 := Lib.hid (pow8 h8)
  have HFP := Lib.hid (firstN_lt2 g.length)
  have hbn := bit_le10D (Nat.le_refl g.length) (by omega)
  have HBN := Lib.hid (show bit g.length = 2 ^ g.length from rfl)
  have HRB := Lib.hid (rangeI_bitsD h16)
  have hl12 := fun W : World => l12Bit_any g.length W (by omega)
  clear hgg
  go_enter Tryd.func18, Tryd.ntmps18
  go_wp2_with fail
  refine hgo.mono ?_
  rintro e w1 ⟨rfl, hb1⟩
  have hq1 := hq0.trans (hb1.mono hq0.size)
  have cg1 : w1.cell? ⟨w.heap.size, 0, none⟩ = some (.slice va g.length vc) := (hb1.cell (p := ⟨w.heap.size, 0, none⟩) (by simp)).trans (by simp [go_sem])
  clear hgo hq0 hb1
  go_wp2
  go_loopw [3] (fun b wr => ∃ k : Nat, 1 ≤ k ∧ k ≤ 256 ∧ b = .int .i64 (k : Int) ∧ RowKit.Hid (∀ s, 0 < s → s < k → KeptD (netsL g) g.length s) ∧ Below w.heap.size w wr ∧ wr.cell? ⟨w.heap.size, 0, none⟩ = some (.slice va g.length vc)) (fun s _ => 257 - (intOf s).toNat)
  case atStart => exact ⟨1, Nat.le_refl _, by omega, rfl, Lib.hid (fun s h1 h2 => by omega), hq1, cg1⟩
  case round =>
    clear hq1 cg1
    obtain ⟨k, hk1, hk256, rfl, HK, hq, cg⟩ := hrel
    obtain ⟨N, hN⟩ : ∃ N, N = bit g.length := ⟨_, rfl⟩
    rw [← hN] at hbn hl12 HBN
    by_cases hkN : k < N
    case neg =>
      have HT : RowKit.Hid (keptB g = true) := Lib.hid (HE.out.2 fun s h1 h2 => HK.out s h1 (by have := HBN.out; omega))
      clear hN
      go_wp2_with (go_at_call 58; refine (hl12 _).mono ?_; rintro e w' ⟨rfl, rfl⟩)
      go_ret
      exact ⟨ret_bool HT.out.symm, hq⟩
    have hkn : k < 2 ^ g.length := by have := HBN.out; omega
    have HKN := Lib.hid hkn
    have hk256' : k < 256 := by have := HP8.out; omega
    have hk32 : k < 4294967296 := by omega
    have hRL := bitsN_len k
    have HBL := Lib.hid (bits_natsI3 k)
    have HMB := Lib.hid (fun u => mem_bitsN (i := u) hk32)
    have HRN := Lib.hid (fun u (hu : u ∈ bitsN k) => bit_lt_of HKN.out ((mem_bitsN hk32).1 hu))
    obtain ⟨F, hF⟩ : ∃ F, F = Lib.ctz 32 k := ⟨_, rfl⟩
    have hFb : k.testBit F = true := by rw [hF]; exact ctz_bit (by omega) hk32
    have hFn := bit_lt_of hkn hFb
    have hhd := ctz_head (by omega) hk32
    rw [← hF] at hhd
    have hrp := reach_pop (a := netsL g) h16 hkn hFb
    have HRP := Lib.hid hrp
    have HF := Lib.hid hF
    clear hN hkn hF hrp hFb
    go_wp2_with (go_at_call 58; refine (hl12 _).mono ?_; rintro e w' ⟨rfl, rfl⟩)
    refine (l12Set_any k wr (by omega)).mono ?_
    rintro e w3 ⟨t4, rfl, ht4, hb3⟩
    have hq3 := hq.trans (hb3.mono hq.size)
    have cg3 := (hb3.cell (cell_lt cg)).trans cg
    have ht4b := ht4
    have ht4R := ht4
    rw [HBL.out] at ht4R
    obtain ⟨ta, tcap, rfl⟩ := ht4R.slice
    obtain ⟨tb, toff, tc2, hte, htc⟩ := ht4R.at_
    obtain ⟨R, hR⟩ : ∃ R, R = bitsN k := ⟨_, rfl⟩
    rw [← hR] at hRL HBL HMB HRN ht4R hte htc ht4 ht4b ⊢
    rw [natsI_len] at hte ht4R ht4 ht4b ⊢
    have hR0 : 0 < R.length := by
      have h1 : (F : Int) ∈ natsI R := by rw [← HBL.out]; exact List.mem_of_mem_head? hhd
      have h2 : 0 < (natsI R).length := List.length_pos_of_mem h1
      rw [natsI_len] at h2; exact h2
    have hte2 := hte hR0
    simp only [Value.slice.injEq] at hte2
    obtain ⟨rfl, -, rfl⟩ := hte2
    have hc0 := htc 0 (by rw [natsI_len]; exact hR0)
    have hc0F : (natsI R)[0]'(by rw [natsI_len]; exact hR0) = (F : Int) := by
      have h1 : (natsI R).head? = some (F : Int) := by rw [← HBL.out]; exact hhd
      rw [List.head?_eq_getElem?, List.getElem?_eq_getElem (by rw [natsI_len]; exact hR0)] at h1
      exact Option.some.inj h1
    rw [hc0F, Nat.add_zero] at hc0
    have HPR := Lib.hid (show R.length = popN k by rw [hR]; rfl)
    have HTC := Lib.hid htc
    have hreach := fun (W : World) (hb : Below w.heap.size w W) (hb3 : Below w3.heap.size w3 W) => l16Reach_any (t := false) hg (hv.below hb (Nat.le_refl _)) (ht4b.below hb3 (Nat.le_refl _)) HKN.out hFn
    rw [adj_falseD] at hreach
    have HREACH := Lib.hid hreach
    clear hR hc0F htc hhd hte hb3 hreach hq cg
    go_wp2
    refine wp_region_held_drew (S := (fun w' => w'.cell? ⟨w.heap.size, 0, none⟩ = some (.slice va g.length vc) ∧ w'.cell? ⟨tb, toff, none⟩ = some (.int .i64 (F : Int)))) (by kernel_rfl) ?_ (fun hHeld => ?_)
    · first | exact ⟨‹_›, ‹_›⟩ | assumption | (simp [*, go_sem])
    have hqd := hq3.drew
    have hd3 : Below w3.heap.size w3 w3.drew := (Below.refl _ _).drew
    generalize w3.drew = wd at hqd hd3 hHeld ⊢
    have hHeld2 := hHeld
    obtain ⟨cgd, c0d⟩ := hHeld2
    refine wpAnyH_take (i := 0) (v := ?v1) (by simp only [List.getElem?_toArray, List.getElem?_cons_zero]; exact rfl) (by kernel_rfl) (by kernel_rfl) (by kernel_rfl) (by intro _ _ _ h; exact h) (Or.inl ⟨by rfl, ?y1⟩) hHeld ?_
    case y1 => (intro w hSw; (try dsimp only at hSw); go_simp; try (with_reducible rfl))
    try simp only [Act.put, List.setIfInBounds_toArray, List.set_cons_zero, List.set_cons_succ]
    refine wpAnyH_take (i := 1) (v := ?v2) (by simp only [List.getElem?_toArray, List.getElem?_cons_succ, List.getElem?_cons_zero]; exact rfl) (by kernel_rfl) (by kernel_rfl) (by kernel_rfl) (by intro _ _ _ h; exact h) (Or.inl ⟨by rfl, ?y2⟩) hHeld ?_
    case y2 => (intro w hSw; (try dsimp only at hSw); go_simp; try (with_reducible rfl))
    try simp only [Act.put, List.setIfInBounds_toArray, List.set_cons_zero, List.set_cons_succ]
    refine wpAnyH_take (i := 2) (v := ?v3) (by simp only [List.getElem?_toArray, List.getElem?_cons_succ, List.getElem?_cons_zero]; exact rfl) (by kernel_rfl) (by kernel_rfl) (by kernel_rfl) (by intro _ _ _ h; exact h) (Or.inl ⟨by rfl, ?y3⟩) hHeld ?_
    case y3 => (intro w hSw; (try dsimp only at hSw); go_simp; try (with_reducible rfl))
    try simp only [Act.put, List.setIfInBounds_toArray, List.set_cons_zero, List.set_cons_succ]
    refine wpAnyH_take (i := 3) (v := ?v4) (by simp only [List.getElem?_toArray, List.getElem?_cons_succ, List.getElem?_cons_zero]; exact rfl) (by kernel_rfl) (by kernel_rfl) (by kernel_rfl) (by intro _ _ _ h; exact h) (Or.inl ⟨by rfl, ?y4⟩) hHeld ?_
    case y4 => (intro w hSw; (try dsimp only at hSw); go_simp; try (with_reducible rfl))
    try simp only [Act.put, List.setIfInBounds_toArray, List.set_cons_zero, List.set_cons_succ]
    refine wpAnyH_take (i := 4) (v := ?v5) (by simp only [List.getElem?_toArray, List.getElem?_cons_succ, List.getElem?_cons_zero]; exact rfl) (by kernel_rfl) (by kernel_rfl) (by kernel_rfl) (by intro _ _ _ h; exact h) (Or.inl ⟨by rfl, ?y5⟩) hHeld ?_
    case y5 => (intro w hSw; (try dsimp only at hSw); go_simp; try (with_reducible rfl))
    try simp only [Act.put, List.setIfInBounds_toArray, List.set_cons_zero, List.set_cons_succ]
    refine wpAnyH_take (i := 7) (v := ?v6) (by simp only [List.getElem?_toArray, List.getElem?_cons_succ, List.getElem?_cons_zero]; exact rfl) (by kernel_rfl) (by kernel_rfl) (by kernel_rfl) (by intro _ _ _ h; exact h) (Or.inl ⟨by rfl, ?y6⟩) hHeld ?_
    case y6 => (intro w hSw; (try dsimp only at hSw); go_simp; try (with_reducible rfl))
    try simp only [Act.put, List.setIfInBounds_toArray, List.set_cons_zero, List.set_cons_succ]
    refine wpAnyH_take (i := 8) (v := ?v7) (by simp only [List.getElem?_toArray, List.getElem?_cons_succ, List.getElem?_cons_zero]; exact rfl) (by kernel_rfl) (by kernel_rfl) (by kernel_rfl) (by intro _ _ _ h; exact h) (Or.inl ⟨by rfl, ?y7⟩) hHeld ?_
    case y7 => (intro w hSw; (try dsimp only at hSw); go_simp; try (with_reducible rfl))
    try simp only [Act.put, List.setIfInBounds_toArray, List.set_cons_zero, List.set_cons_succ]
    refine wpAnyH_ready (rs := [5]) (by kernel_rfl) (by simp) ?_
    refine AllReadyH.cons (by simp only [List.getElem?_toArray, List.getElem?_cons_succ, List.getElem?_cons_zero]; exact rfl) (fun K hK => ?_) AllReadyH.nil
    go_simp
    refine (HREACH.out _ hqd hd3).mono ?_
    rintro e wn ⟨x5, rfl, hx5, hbn5⟩
    have hqd := hqd.trans (hbn5.mono hqd.size)
    have hd3 := hd3.trans (hbn5.mono hd3.size)
    have cgd := (hbn5.cell (cell_lt cgd)).trans cgd
    have c0d := (hbn5.cell (cell_lt c0d)).trans c0d
    have hl5 := Own.isSlice hx5
    obtain ⟨xa5, xc5, rfl⟩ := hl5
    obtain ⟨wd, rfl⟩ : ∃ wx : World, wx = wn := ⟨_, rfl⟩
    try dsimp only
    refine hK.out _ _ ?h9 (fun hHeld => ?_)
    case h9 => first | exact ⟨‹_›, ‹_›⟩ | assumption | (simp [*, go_sem])
    clear hK K
    try simp only [Act.put, List.setIfInBounds_toArray, List.set_cons_zero, List.set_cons_succ]
    refine wpAnyH_take (i := 6) (v := ?v10) (by simp only [List.getElem?_toArray, List.getElem?_cons_succ, List.getElem?_cons_zero]; exact rfl) (by kernel_rfl) (by kernel_rfl) (by kernel_rfl) (by intro _ _ _ h; exact h) (Or.inl ⟨by rfl, ?y10⟩) hHeld ?_
    case y10 => (intro w hSw; (try dsimp only at hSw); go_simp; try (with_reducible rfl))
    try simp only [Act.put, List.setIfInBounds_toArray, List.set_cons_zero, List.set_cons_succ]
    refine wpAnyH_take (i := 9) (v := ?v11) (by simp only [List.getElem?_toArray, List.getElem?_cons_succ, List.getElem?_cons_zero]; exact rfl) (by kernel_rfl) (by kernel_rfl) (by kernel_rfl) (by intro _ _ _ h; exact h) (Or.inl ⟨by rfl, ?y11⟩) hHeld ?_
    case y11 => (intro w hSw; (try dsimp only at hSw); go_simp; try (with_reducible rfl))
    try simp only [Act.put, List.setIfInBounds_toArray, List.set_cons_zero, List.set_cons_succ]
    refine wpAnyH_done (by kernel_rfl) ?_ _
    all_goals
      have hpl : (bitsI (reachN (netsL g) k F)).length = popN (reachN (netsL g) k F) := (popN_I _).symm
      have HPL := Lib.hid hpl
      by_cases hcn : reachN (netsL g) k F = k
      case neg =>
        have hltr : (bitsI (reachN (netsL g) k F)).length < R.length := by rw [HPL.out, HPR.out]; exact HRP.out.2 hcn
        have HK2 : RowKit.Hid (∀ s, 0 < s → s < k + 1 → KeptD (netsL g) g.length s) := Lib.hid (fun s h1 h2 => by
          by_cases e : s = k
          · subst e; exact fun h => absurd (by rw [HF.out]; exact h) hcn
          · exact HK.out s h1 (by omega))
        generalize (bitsI (reachN (netsL g) k F)).length = rl at *
        clear hcn hpl
        go_wp2
        go_roundw
        case rel => exact ⟨k + 1, by omega, by omega, by go_num, HK2, hqd, cgd⟩
        case measure => simp [intOf]; omega
      have hltr : ¬ (bitsI (reachN (netsL g) k F)).length < R.length := by rw [HPL.out, HPR.out, hcn]; omega
      have HCON := Lib.hid hcn
      generalize (bitsI (reachN (netsL g) k F)).length = rl at *
      rw [show decide (rl < R.length) = false from decide_eq_false hltr]
      clear hltr
      have HST := Lib.hid (fun (W : World) (hb : Below w.heap.size w W) (hb3 : Below w3.heap.size w3 W) (x : Nat) (hx : x < g.length) => l18Steps_any hg (hv.below hb (Nat.le_refl _)) (ht4b.below hb3 (Nat.le_refl _)) HKN.out hx)
      have HSA := Lib.hid (fun (W : World) (hb : Below w.heap.size w W) (u : Value) (hu : SlI (fun _ => True) W .i64 u (bitsI (firstN g.length))) (x : Nat) (hx : x < g.length) => l18Steps_any hg (hv.below hb (Nat.le_refl _)) hu HFP.out hx)
      have HALL := Lib.hid (fun (W : World) (hb : Below w.heap.size w W) => l16All_any _ _ _ (hv.below hb (Nat.le_refl _)) (by omega))
      clear hcn hpl hx5 hc0 c0d
      go_wp2
      go_loopw [5] (fun i wr => ∃ j : Nat, j ≤ R.length ∧ i = .int .i64 j ∧ RowKit.Hid (∀ x ∈ R.take j, ∀ u, k.testBit u = true → SameD (netsL g) g.length k x u) ∧ Below wd.heap.size wd wr) (fun i _ => R.length - (intOf i).toNat)
      case atStart => exact ⟨0, Nat.zero_le _, rfl, Lib.hid (by simp), Below.refl _ _⟩
      case round =>
        obtain ⟨w6, rfl⟩ : ∃ wx : World, wx = wr := ⟨_, rfl⟩
        obtain ⟨j, hj, rfl, HV, hq6⟩ := hrel
        have hqw := hqd.trans (hq6.mono hqd.size)
        have h3w := hd3.trans (hq6.mono hd3.size)
        have cg6 := (hq6.cell (cell_lt cgd)).trans cgd
        by_cases hlt : j < R.length
        case neg =>
          obtain rfl : j = R.length := by omega
          have HK2 : RowKit.Hid (∀ s, 0 < s → s < k + 1 → KeptD (netsL g) g.length s) := Lib.hid (fun s h1 h2 => by
            by_cases e : s = k
            · subst e
              intro _ x hx u hu
              exact HV.out x (by rw [List.take_length]; exact (HMB.out x).2 hx) u hu
            · exact HK.out s h1 (by omega))
          go_wp2
          go_roundw
          case rel => exact ⟨k + 1, by omega, by omega, by go_num, HK2, hqw, cg6⟩
          case measure => simp [intOf]; omega
        have hc := HTC.out j (by rw [natsI_len]; exact hlt)
        rw [natsI_get] at hc
        have hxn := HRN.out R[j] (List.getElem_mem hlt)
        have hxk := (HMB.out R[j]).1 (List.getElem_mem hlt)
        have HTK := Lib.hid (show R.take (j + 1) = R.take j ++ [R[j]] from List.take_succ_eq_append_getElem hlt)
        generalize R[j] = x at hc hxn hxk HTK
        have HXK := Lib.hid hxk; clear hxk
        have hc6 := (h3w.cell (p := ⟨tb, toff + j, none⟩) (cell_lt hc)).trans hc
        clear hc
        go_wp2
        refine wp_region_held_drew (S := (fun w' => w'.cell? ⟨w.heap.size, 0, none⟩ = some (.slice va g.length vc) ∧ w'.cell? ⟨tb, toff + j, none⟩ = some (.int .i64 (x : Int)))) (by kernel_rfl) ?_ (fun hHeld => ?_)
        · first | exact ⟨‹_›, ‹_›⟩ | assumption | (simp [*, go_sem])
        have hqe := hqw.drew
        have h3e := h3w.drew
        have hwe : Below wd.heap.size wd w6.drew := hq6.drew
        generalize w6.drew = we at hqe h3e hwe hHeld ⊢
        have hHeld2 := hHeld
        obtain ⟨cge, c0e⟩ := hHeld2
        refine wpAnyH_take (i := 0) (v := ?v12) (by simp only [List.getElem?_toArray, List.getElem?_cons_zero]; exact rfl) (by kernel_rfl) (by kernel_rfl) (by kernel_rfl) (by intro _ _ _ h; exact h) (Or.inl ⟨by rfl, ?y12⟩) hHeld ?_
        case y12 => (intro w hSw; (try dsimp only at hSw); go_simp; try (with_reducible rfl))
        try simp only [Act.put, List.setIfInBounds_toArray, List.set_cons_zero, List.set_cons_succ]
        refine wpAnyH_take (i := 1) (v := ?v13) (by simp only [List.getElem?_toArray, List.getElem?_cons_succ, List.getElem?_cons_zero]; exact rfl) (by kernel_rfl) (by kernel_rfl) (by kernel_rfl) (by intro _ _ _ h; exact h) (Or.inl ⟨by rfl, ?y13⟩) hHeld ?_
        case y13 => (intro w hSw; (try dsimp only at hSw); go_simp; try (with_reducible rfl))
        try simp only [Act.put, List.setIfInBounds_toArray, List.set_cons_zero, List.set_cons_succ]
        refine wpAnyH_take (i := 2) (v := ?v14) (by simp only [List.getElem?_toArray, List.getElem?_cons_succ, List.getElem?_cons_zero]; exact rfl) (by kernel_rfl) (by kernel_rfl) (by kernel_rfl) (by intro _ _ _ h; exact h) (Or.inl ⟨by rfl, ?y14⟩) hHeld ?_
        case y14 => (intro w hSw; (try dsimp only at hSw); go_simp; try (with_reducible rfl))
        try simp only [Act.put, List.setIfInBounds_toArray, List.set_cons_zero, List.set_cons_succ]
        refine wpAnyH_take (i := 3) (v := ?v15) (by simp only [List.getElem?_toArray, List.getElem?_cons_succ, List.getElem?_cons_zero]; exact rfl) (by kernel_rfl) (by kernel_rfl) (by kernel_rfl) (by intro _ _ _ h; exact h) (Or.inl ⟨by rfl, ?y15⟩) hHeld ?_
        case y15 => (intro w hSw; (try dsimp only at hSw); go_simp; try (with_reducible rfl))
        try simp only [Act.put, List.setIfInBounds_toArray, List.set_cons_zero, List.set_cons_succ]
        refine wpAnyH_take (i := 4) (v := ?v16) (by simp only [List.getElem?_toArray, List.getElem?_cons_succ, List.getElem?_cons_zero]; exact rfl) (by kernel_rfl) (by kernel_rfl) (by kernel_rfl) (by intro _ _ _ h; exact h) (Or.inl ⟨by rfl, ?y16⟩) hHeld ?_
        case y16 => (intro w hSw; (try dsimp only at hSw); go_simp; try (with_reducible rfl))
        try simp only [Act.put, List.setIfInBounds_toArray, List.set_cons_zero, List.set_cons_succ]
        refine wpAnyH_take (i := 5) (v := ?v17) (by simp only [List.getElem?_toArray, List.getElem?_cons_succ, List.getElem?_cons_zero]; exact rfl) (by kernel_rfl) (by kernel_rfl) (by kernel_rfl) (by intro _ _ _ h; exact h) (Or.inl ⟨by rfl, ?y17⟩) hHeld ?_
        case y17 => (intro w hSw; (try dsimp only at hSw); go_simp; try (with_reducible rfl))
        try simp only [Act.put, List.setIfInBounds_toArray, List.set_cons_zero, List.set_cons_succ]
        refine wpAnyH_ready (rs := [6]) (by kernel_rfl) (by simp) ?_
        refine AllReadyH.cons (by simp only [List.getElem?_toArray, List.getElem?_cons_succ, List.getElem?_cons_zero]; exact rfl) (fun K hK => ?_) AllReadyH.nil
        go_simp
        refine (HST.out _ hqe h3e x hxn).mono ?_
        rintro e wn ⟨o1, oc1, D1, rfl, ho1, hr1, hD1, hbn⟩
        have hqe := hqe.trans (hbn.mono hqe.size)
        have h3e := h3e.trans (hbn.mono h3e.size)
        have hwe := hwe.trans (hbn.mono hwe.size)
        have cge := (hbn.cell (cell_lt cge)).trans cge
        have c0e := (hbn.cell (cell_lt c0e)).trans c0e
        obtain ⟨we, rfl⟩ : ∃ wx : World, wx = wn := ⟨_, rfl⟩
        try dsimp only
        refine hK.out _ _ ?h19 (fun hHeld => ?_)
        case h19 => first | exact ⟨‹_›, ‹_›⟩ | assumption | (simp [*, go_sem])
        clear hK K
        try simp only [Act.put, List.setIfInBounds_toArray, List.set_cons_zero, List.set_cons_succ]
        refine wpAnyH_take (i := 7) (v := ?v20) (by simp only [List.getElem?_toArray, List.getElem?_cons_succ, List.getElem?_cons_zero]; exact rfl) (by kernel_rfl) (by kernel_rfl) (by kernel_rfl) (by intro _ _ _ h; exact h) (Or.inl ⟨by rfl, ?y20⟩) hHeld ?_
        case y20 => (intro w hSw; (try dsimp only at hSw); go_simp; try (with_reducible rfl))
        try simp only [Act.put, List.setIfInBounds_toArray, List.set_cons_zero, List.set_cons_succ]
        refine wpAnyH_done (by kernel_rfl) ?_ _
        all_goals
          have HD1 := Lib.hid hD1
          clear hD1 hc6 cg6 hHeld hq6 hqw h3w
          go_wp2
          refine wp_region_held_drew (S := (fun w' => w'.cell? ⟨w.heap.size, 0, none⟩ = some (.slice va g.length vc) ∧ w'.cell? ⟨tb, toff + j, none⟩ = some (.int .i64 (x : Int)))) (by kernel_rfl) ?_ (fun hHeld => ?_)
          · first | exact ⟨‹_›, ‹_›⟩ | assumption | (simp [*, go_sem])
          have hqf := hqe.drew
          have h3f := h3e.drew
          have hwf := hwe.drew
          have hr1f : Row we.drew o1 g.length (tabV D1) := hr1
          generalize we.drew = wf at hqf h3f hwf hr1f hHeld ⊢
          have hHeld2 := hHeld
          obtain ⟨cgf, c0f⟩ := hHeld2
          refine wpAnyH_take (i := 0) (v := ?v21) (by simp only [List.getElem?_toArray, List.getElem?_cons_zero]; exact rfl) (by kernel_rfl) (by kernel_rfl) (by kernel_rfl) (by intro _ _ _ h; exact h) (Or.inl ⟨by rfl, ?y21⟩) hHeld ?_
          case y21 => (intro w hSw; (try dsimp only at hSw); go_simp; try (with_reducible rfl))
          try simp only [Act.put, List.setIfInBounds_toArray, List.set_cons_zero, List.set_cons_succ]
          refine wpAnyH_take (i := 1) (v := ?v22) (by simp only [List.getElem?_toArray, List.getElem?_cons_succ, List.getElem?_cons_zero]; exact rfl) (by kernel_rfl) (by kernel_rfl) (by kernel_rfl) (by intro _ _ _ h; exact h) (Or.inl ⟨by rfl, ?y22⟩) hHeld ?_
          case y22 => (intro w hSw; (try dsimp only at hSw); go_simp; try (with_reducible rfl))
          try simp only [Act.put, List.setIfInBounds_toArray, List.set_cons_zero, List.set_cons_succ]
          refine wpAnyH_take (i := 3) (v := ?v23) (by simp only [List.getElem?_toArray, List.getElem?_cons_succ, List.getElem?_cons_zero]; exact rfl) (by kernel_rfl) (by kernel_rfl) (by kernel_rfl) (by intro _ _ _ h; exact h) (Or.inl ⟨by rfl, ?y23⟩) hHeld ?_
          case y23 => (intro w hSw; (try dsimp only at hSw); go_simp; try (with_reducible rfl))
          try simp only [Act.put, List.setIfInBounds_toArray, List.set_cons_zero, List.set_cons_succ]
          refine wpAnyH_take (i := 4) (v := ?v24) (by simp only [List.getElem?_toArray, List.getElem?_cons_succ, List.getElem?_cons_zero]; exact rfl) (by kernel_rfl) (by kernel_rfl) (by kernel_rfl) (by intro _ _ _ h; exact h) (Or.inl ⟨by rfl, ?y24⟩) hHeld ?_
          case y24 => (intro w hSw; (try dsimp only at hSw); go_simp; try (with_reducible rfl))
          try simp only [Act.put, List.setIfInBounds_toArray, List.set_cons_zero, List.set_cons_succ]
          refine wpAnyH_take (i := 5) (v := ?v25) (by simp only [List.getElem?_toArray, List.getElem?_cons_succ, List.getElem?_cons_zero]; exact rfl) (by kernel_rfl) (by kernel_rfl) (by kernel_rfl) (by intro _ _ _ h; exact h) (Or.inl ⟨by rfl, ?y25⟩) hHeld ?_
          case y25 => (intro w hSw; (try dsimp only at hSw); go_simp; try (with_reducible rfl))
          try simp only [Act.put, List.setIfInBounds_toArray, List.set_cons_zero, List.set_cons_succ]
          refine wpAnyH_take (i := 6) (v := ?v26) (by simp only [List.getElem?_toArray, List.getElem?_cons_succ, List.getElem?_cons_zero]; exact rfl) (by kernel_rfl) (by kernel_rfl) (by kernel_rfl) (by intro _ _ _ h; exact h) (Or.inl ⟨by rfl, ?y26⟩) hHeld ?_
          case y26 => (intro w hSw; (try dsimp only at hSw); go_simp; try (with_reducible rfl))
          try simp only [Act.put, List.setIfInBounds_toArray, List.set_cons_zero, List.set_cons_succ]
          refine wpAnyH_ready (rs := [2]) (by kernel_rfl) (by simp) ?_
          refine AllReadyH.cons (by simp only [List.getElem?_toArray, List.getElem?_cons_succ, List.getElem?_cons_zero]; exact rfl) (fun K hK => ?_) AllReadyH.nil
          go_simp
          refine (HALL.out _ hqf).mono ?_
          rintro e wn ⟨a12, rfl, ha12, hbn⟩
          have hai := (Own.ints (xs := rangeI g.length) ha12 (by omega)).weak (S' := fun _ => True) (fun _ _ => trivial)
          rw [HRB.out] at hai
          have hqf := hqf.trans (hbn.mono hqf.size)
          have h3f := h3f.trans (hbn.mono h3f.size)
          have hwf := hwf.trans (hbn.mono hwf.size)
          have hr1f := hr1f.below hbn (Nat.le_refl _)
          have cgf := (hbn.cell (cell_lt cgf)).trans cgf
          have c0f := (hbn.cell (cell_lt c0f)).trans c0f
          obtain ⟨wf, rfl⟩ : ∃ wx : World, wx = wn := ⟨_, rfl⟩
          try dsimp only
          refine hK.out _ _ ?h28 (fun hHeld => ?_)
          case h28 => first | exact ⟨‹_›, ‹_›⟩ | assumption | (simp [*, go_sem])
          clear hK K
          try simp only [Act.put, List.setIfInBounds_toArray, List.set_cons_zero, List.set_cons_succ]
          refine wpAnyH_ready (rs := [7]) (by kernel_rfl) (by simp) ?_
          refine AllReadyH.cons (by simp only [List.getElem?_toArray, List.getElem?_cons_succ, List.getElem?_cons_zero]; exact rfl) (fun K hK => ?_) AllReadyH.nil
          go_simp
          refine (HSA.out _ hqf _ hai x hxn).mono ?_
          rintro e wn ⟨o2, oc2, D2, rfl, ho2, hr2, hD2, hbn⟩
          have hqf := hqf.trans (hbn.mono hqf.size)
          have h3f := h3f.trans (hbn.mono h3f.size)
          have hwf := hwf.trans (hbn.mono hwf.size)
          have hr1f := hr1f.below hbn (Nat.le_refl _)
          have cgf := (hbn.cell (cell_lt cgf)).trans cgf
          have c0f := (hbn.cell (cell_lt c0f)).trans c0f
          obtain ⟨wf, rfl⟩ : ∃ wx : World, wx = wn := ⟨_, rfl⟩
          try dsimp only
          refine hK.out _ _ ?h30 (fun hHeld => ?_)
          case h30 => first | exact ⟨‹_›, ‹_›⟩ | assumption | (simp [*, go_sem])
          clear hK K
          try simp only [Act.put, List.setIfInBounds_toArray, List.set_cons_zero, List.set_cons_succ]
          refine wpAnyH_take (i := 8) (v := ?v31) (by simp only [List.getElem?_toArray, List.getElem?_cons_succ, List.getElem?_cons_zero]; exact rfl) (by kernel_rfl) (by kernel_rfl) (by kernel_rfl) (by intro _ _ _ h; exact h) (Or.inl ⟨by rfl, ?y31⟩) hHeld ?_
          case y31 => (intro w hSw; (try dsimp only at hSw); go_simp; try (with_reducible rfl))
          try simp only [Act.put, List.setIfInBounds_toArray, List.set_cons_zero, List.set_cons_succ]
          refine wpAnyH_done (by kernel_rfl) ?_ _
          all_goals
            have HD2 := Lib.hid hD2
            clear hD2 hHeld hqe h3e hwe hr1 c0e cge
            go_wp2
            go_loopw [8] (fun i wr => ∃ l : Nat, l ≤ R.length ∧ i = .int .i64 l ∧ RowKit.Hid (∀ u ∈ R.take l, SameD (netsL g) g.length k x u) ∧ Below wf.heap.size wf wr) (fun i _ => R.length - (intOf i).toNat)
            case atStart => exact ⟨0, Nat.zero_le _, rfl, Lib.hid (by simp), Below.refl _ _⟩
            case round =>
              obtain ⟨w9, rfl⟩ : ∃ wx : World, wx = wr := ⟨_, rfl⟩
              obtain ⟨l, hl, rfl, HU, hq9⟩ := hrel
              by_cases hll : l < R.length
              case neg =>
                obtain rfl : l = R.length := by omega
                have HV2 : RowKit.Hid (∀ x ∈ R.take (j + 1), ∀ u, k.testBit u = true → SameD (netsL g) g.length k x u) := Lib.hid (fun y hy u hu => by
                  rw [HTK.out, List.mem_append, List.mem_singleton] at hy
                  rcases hy with hy | rfl
                  · exact HV.out y hy u hu
                  · exact HU.out u (by rw [List.take_length]; exact (HMB.out u).2 hu))
                go_wp2
                go_roundw
                case rel =>
                  exact ⟨j + 1, by omega, by go_num, HV2, hwf.trans (hq9.mono hwf.size)⟩
                case measure => simp [intOf]; omega
              have hc := HTC.out l (by rw [natsI_len]; exact hll)
              rw [natsI_get] at hc
              have hyn := HRN.out R[l] (List.getElem_mem hll)
              have hyk := (HMB.out R[l]).1 (List.getElem_mem hll)
              have HTL := Lib.hid (show R.take (l + 1) = R.take l ++ [R[l]] from List.take_succ_eq_append_getElem hll)
              generalize R[l] = y at hc hyn hyk HTL
              have HYK := Lib.hid hyk; clear hyk
              have h39 := h3f.trans (hq9.mono h3f.size)
              have hc9 := (h39.cell (p := ⟨tb, toff + l, none⟩) (cell_lt hc)).trans hc
              have h1c := ((hr1f.below hq9 (Nat.le_refl _)) y hyn).1
              have h2c := ((hr2.below hq9 (Nat.le_refl _)) y hyn).1
              unfold tabV at h1c h2c
              clear hc
              by_cases he : D1 y = D2 y
              · have HU2 : RowKit.Hid (∀ u ∈ R.take (l + 1), SameD (netsL g) g.length k x u) := Lib.hid (fun u hu => by
                  rw [HTL.out, List.mem_append, List.mem_singleton] at hu
                  rcases hu with hu | rfl
                  · exact HU.out u hu
                  · exact SameD.of HD1.out HD2.out hyn he)
                rw [← he] at h2c
                generalize D1 y = d at h1c h2c
                clear he
                go_wp2
                refine wp_region_held_drew (S := (fun w' => w'.cell? ⟨tb, toff + l, none⟩ = some (.int .i64 (y : Int)) ∧ w'.cell? ⟨o1, y, none⟩ = some (.int .i64 d) ∧ w'.cell? ⟨o2, y, none⟩ = some (.int .i64 d))) (by kernel_rfl) ?_ (fun hHeld => ?_)
                · first | exact ⟨‹_›, ‹_›, ‹_›⟩ | assumption | (simp [*, go_sem])
                have hqh := hq9.drew
                generalize w9.drew = wh at hqh hHeld ⊢
                have hHeld2 := hHeld
                obtain ⟨e0, e1, e2⟩ := hHeld2
                refine wpAnyH_take (i := 0) (v := ?v32) (by simp only [List.getElem?_toArray, List.getElem?_cons_zero]; exact rfl) (by kernel_rfl) (by kernel_rfl) (by kernel_rfl) (by intro _ _ _ h; exact h) (Or.inl ⟨by rfl, ?y32⟩) hHeld ?_
                case y32 => (intro w hSw; (try dsimp only at hSw); go_simp; try (with_reducible rfl))
                try simp only [Act.put, List.setIfInBounds_toArray, List.set_cons_zero, List.set_cons_succ]
                refine wpAnyH_take (i := 1) (v := ?v33) (by simp only [List.getElem?_toArray, List.getElem?_cons_succ, List.getElem?_cons_zero]; exact rfl) (by kernel_rfl) (by kernel_rfl) (by kernel_rfl) (by intro _ _ _ h; exact h) (Or.inl ⟨by rfl, ?y33⟩) hHeld ?_
                case y33 => (intro w hSw; (try dsimp only at hSw); go_simp; try (with_reducible rfl))
                try simp only [Act.put, List.setIfInBounds_toArray, List.set_cons_zero, List.set_cons_succ]
                refine wpAnyH_take (i := 2) (v := ?v34) (by simp only [List.getElem?_toArray, List.getElem?_cons_succ, List.getElem?_cons_zero]; exact rfl) (by kernel_rfl) (by kernel_rfl) (by kernel_rfl) (by intro _ _ _ h; exact h) (Or.inl ⟨by rfl, ?y34⟩) hHeld ?_
                case y34 => (intro w hSw; (try dsimp only at hSw); go_simp; try (with_reducible rfl))
                try simp only [Act.put, List.setIfInBounds_toArray, List.set_cons_zero, List.set_cons_succ]
                refine wpAnyH_take (i := 3) (v := ?v35) (by simp only [List.getElem?_toArray, List.getElem?_cons_succ, List.getElem?_cons_zero]; exact rfl) (by kernel_rfl) (by kernel_rfl) (by kernel_rfl) (by intro _ _ _ h; exact h) (Or.inl ⟨by rfl, ?y35⟩) hHeld ?_
                case y35 => (intro w hSw; (try dsimp only at hSw); go_simp; try (with_reducible rfl))
                try simp only [Act.put, List.setIfInBounds_toArray, List.set_cons_zero, List.set_cons_succ]
                refine wpAnyH_take (i := 4) (v := ?v36) (by simp only [List.getElem?_toArray, List.getElem?_cons_succ, List.getElem?_cons_zero]; exact rfl) (by kernel_rfl) (by kernel_rfl) (by kernel_rfl) (by intro _ _ _ h; exact h) (Or.inl ⟨by rfl, ?y36⟩) hHeld ?_
                case y36 => (intro w hSw; (try dsimp only at hSw); go_simp; try (with_reducible rfl))
                try simp only [Act.put, List.setIfInBounds_toArray, List.set_cons_zero, List.set_cons_succ]
                refine wpAnyH_take (i := 5) (v := ?v37) (by simp only [List.getElem?_toArray, List.getElem?_cons_succ, List.getElem?_cons_zero]; exact rfl) (by kernel_rfl) (by kernel_rfl) (by kernel_rfl) (by intro _ _ _ h; exact h) (Or.inl ⟨by rfl, ?y37⟩) hHeld ?_
                case y37 => (intro w hSw; (try dsimp only at hSw); go_simp; try (with_reducible rfl))
                try simp only [Act.put, List.setIfInBounds_toArray, List.set_cons_zero, List.set_cons_succ]
                refine wpAnyH_take (i := 6) (v := ?v38) (by simp only [List.getElem?_toArray, List.getElem?_cons_succ, List.getElem?_cons_zero]; exact rfl) (by kernel_rfl) (by kernel_rfl) (by kernel_rfl) (by intro _ _ _ h; exact h) (Or.inl ⟨by rfl, ?y38⟩) hHeld ?_
                case y38 => (intro w hSw; (try dsimp only at hSw); go_simp; try (with_reducible rfl))
                try simp only [Act.put, List.setIfInBounds_toArray, List.set_cons_zero, List.set_cons_succ]
                refine wpAnyH_take (i := 7) (v := ?v39) (by simp only [List.getElem?_toArray, List.getElem?_cons_succ, List.getElem?_cons_zero]; exact rfl) (by kernel_rfl) (by kernel_rfl) (by kernel_rfl) (by intro _ _ _ h; exact h) (Or.inl ⟨by rfl, ?y39⟩) hHeld ?_
                case y39 => (intro w hSw; (try dsimp only at hSw); go_simp; try (with_reducible rfl))
                try simp only [Act.put, List.setIfInBounds_toArray, List.set_cons_zero, List.set_cons_succ]
                refine wpAnyH_take (i := 8) (v := ?v40) (by simp only [List.getElem?_toArray, List.getElem?_cons_succ, List.getElem?_cons_zero]; exact rfl) (by kernel_rfl) (by kernel_rfl) (by kernel_rfl) (by intro _ _ _ h; exact h) (Or.inl ⟨by rfl, ?y40⟩) hHeld ?_
                case y40 => (intro w hSw; (try dsimp only at hSw); go_simp; try (with_reducible rfl))
                try simp only [Act.put, List.setIfInBounds_toArray, List.set_cons_zero, List.set_cons_succ]
                refine wpAnyH_take (i := 9) (v := ?v41) (by simp only [List.getElem?_toArray, List.getElem?_cons_succ, List.getElem?_cons_zero]; exact rfl) (by kernel_rfl) (by kernel_rfl) (by kernel_rfl) (by intro _ _ _ h; exact h) (Or.inl ⟨by rfl, ?y41⟩) hHeld ?_
                case y41 => (intro w hSw; (try dsimp only at hSw); go_simp; try (with_reducible rfl))
                try simp only [Act.put, List.setIfInBounds_toArray, List.set_cons_zero, List.set_cons_succ]
                refine wpAnyH_take (i := 10) (v := ?v42) (by simp only [List.getElem?_toArray, List.getElem?_cons_succ, List.getElem?_cons_zero]; exact rfl) (by kernel_rfl) (by kernel_rfl) (by kernel_rfl) (by intro _ _ _ h; exact h) (Or.inl ⟨by rfl, ?y42⟩) hHeld ?_
                case y42 => (intro w hSw; (try dsimp only at hSw); go_simp; try (with_reducible rfl))
                try simp only [Act.put, List.setIfInBounds_toArray, List.set_cons_zero, List.set_cons_succ]
                refine wpAnyH_take (i := 11) (v := ?v43) (by simp only [List.getElem?_toArray, List.getElem?_cons_succ, List.getElem?_cons_zero]; exact rfl) (by kernel_rfl) (by kernel_rfl) (by kernel_rfl) (by intro _ _ _ h; exact h) (Or.inl ⟨by rfl, ?y43⟩) hHeld ?_
                case y43 => (intro w hSw; (try dsimp only at hSw); go_simp; try (with_reducible rfl))
                try simp only [Act.put, List.setIfInBounds_toArray, List.set_cons_zero, List.set_cons_succ]
                refine wpAnyH_take (i := 12) (v := ?v44) (by simp only [List.getElem?_toArray, List.getElem?_cons_succ, List.getElem?_cons_zero]; exact rfl) (by kernel_rfl) (by kernel_rfl) (by kernel_rfl) (by intro _ _ _ h; exact h) (Or.inl ⟨by rfl, ?y44⟩) hHeld ?_
                case y44 => (intro w hSw; (try dsimp only at hSw); go_simp; try (with_reducible rfl))
                try simp only [Act.put, List.setIfInBounds_toArray, List.set_cons_zero, List.set_cons_succ]
                refine wpAnyH_take (i := 13) (v := ?v45) (by simp only [List.getElem?_toArray, List.getElem?_cons_succ, List.getElem?_cons_zero]; exact rfl) (by kernel_rfl) (by kernel_rfl) (by kernel_rfl) (by intro _ _ _ h; exact h) (Or.inl ⟨by rfl, ?y45⟩) hHeld ?_
                case y45 => (intro w hSw; (try dsimp only at hSw); go_simp; try (with_reducible rfl))
                try simp only [Act.put, List.setIfInBounds_toArray, List.set_cons_zero, List.set_cons_succ]
                refine wpAnyH_take (i := 14) (v := ?v46) (by simp only [List.getElem?_toArray, List.getElem?_cons_succ, List.getElem?_cons_zero]; exact rfl) (by kernel_rfl) (by kernel_rfl) (by kernel_rfl) (by intro _ _ _ h; exact h) (Or.inl ⟨by rfl, ?y46⟩) hHeld ?_
                case y46 => (intro w hSw; (try dsimp only at hSw); go_simp; try (with_reducible rfl))
                try simp only [Act.put, List.setIfInBounds_toArray, List.set_cons_zero, List.set_cons_succ]
                refine wpAnyH_done (by kernel_rfl) ?_ _
                all_goals
                  go_wp2
                  go_roundw
                  case rel => exact ⟨l + 1, by omega, by go_num, HU2, hqh⟩
                  case measure => simp [intOf]; omega
              · have HFF : RowKit.Hid (keptB g = false) := Lib.hid (by
                  cases h : keptB g
                  · rfl
                  · exact absurd (HE.out.1 h k (by omega) HKN.out (by rw [← HF.out]; exact HCON.out) x HXK.out y HYK.out) (SameD.not HD1.out HD2.out he))
                have hne : (D1 y != D2 y) = true := by rw [bne_iff_ne]; exact he
                generalize D1 y = d1 at h1c hne
                generalize D2 y = d2 at h2c hne
                have hqw9 := hqf.trans (hq9.mono hqf.size)
                clear he
                go_wp2
                refine wp_region_held_drew (S := (fun w' => w'.cell? ⟨tb, toff + l, none⟩ = some (.int .i64 (y : Int)) ∧ w'.cell? ⟨o1, y, none⟩ = some (.int .i64 d1) ∧ w'.cell? ⟨o2, y, none⟩ = some (.int .i64 d2))) (by kernel_rfl) ?_ (fun hHeld => ?_)
                · first | exact ⟨‹_›, ‹_›, ‹_›⟩ | assumption | (simp [*, go_sem])
                have hqh := hqw9.drew
                generalize w9.drew = wh at hqh hHeld ⊢
                have hHeld2 := hHeld
                obtain ⟨e0, e1, e2⟩ := hHeld2
                refine wpAnyH_take (i := 0) (v := ?v47) (by simp only [List.getElem?_toArray, List.getElem?_cons_zero]; exact rfl) (by kernel_rfl) (by kernel_rfl) (by kernel_rfl) (by intro _ _ _ h; exact h) (Or.inl ⟨by rfl, ?y47⟩) hHeld ?_
                case y47 => (intro w hSw; (try dsimp only at hSw); go_simp; try (with_reducible rfl))
                try simp only [Act.put, List.setIfInBounds_toArray, List.set_cons_zero, List.set_cons_succ]
                refine wpAnyH_take (i := 1) (v := ?v48) (by simp only [List.getElem?_toArray, List.getElem?_cons_succ, List.getElem?_cons_zero]; exact rfl) (by kernel_rfl) (by kernel_rfl) (by kernel_rfl) (by intro _ _ _ h; exact h) (Or.inl ⟨by rfl, ?y48⟩) hHeld ?_
                case y48 => (intro w hSw; (try dsimp only at hSw); go_simp; try (with_reducible rfl))
                try simp only [Act.put, List.setIfInBounds_toArray, List.set_cons_zero, List.set_cons_succ]
                refine wpAnyH_take (i := 2) (v := ?v49) (by simp only [List.getElem?_toArray, List.getElem?_cons_succ, List.getElem?_cons_zero]; exact rfl) (by kernel_rfl) (by kernel_rfl) (by kernel_rfl) (by intro _ _ _ h; exact h) (Or.inl ⟨by rfl, ?y49⟩) hHeld ?_
                case y49 => (intro w hSw; (try dsimp only at hSw); go_simp; try (with_reducible rfl))
                try simp only [Act.put, List.setIfInBounds_toArray, List.set_cons_zero, List.set_cons_succ]
                refine wpAnyH_take (i := 3) (v := ?v50) (by simp only [List.getElem?_toArray, List.getElem?_cons_succ, List.getElem?_cons_zero]; exact rfl) (by kernel_rfl) (by kernel_rfl) (by kernel_rfl) (by intro _ _ _ h; exact h) (Or.inl ⟨by rfl, ?y50⟩) hHeld ?_
                case y50 => (intro w hSw; (try dsimp only at hSw); go_simp; try (with_reducible rfl))
                try simp only [Act.put, List.setIfInBounds_toArray, List.set_cons_zero, List.set_cons_succ]
                refine wpAnyH_take (i := 4) (v := ?v51) (by simp only [List.getElem?_toArray, List.getElem?_cons_succ, List.getElem?_cons_zero]; exact rfl) (by kernel_rfl) (by kernel_rfl) (by kernel_rfl) (by intro _ _ _ h; exact h) (Or.inl ⟨by rfl, ?y51⟩) hHeld ?_
                case y51 => (intro w hSw; (try dsimp only at hSw); go_simp; try (with_reducible rfl))
                try simp only [Act.put, List.setIfInBounds_toArray, List.set_cons_zero, List.set_cons_succ]
                refine wpAnyH_take (i := 5) (v := ?v52) (by simp only [List.getElem?_toArray, List.getElem?_cons_succ, List.getElem?_cons_zero]; exact rfl) (by kernel_rfl) (by kernel_rfl) (by kernel_rfl) (by intro _ _ _ h; exact h) (Or.inl ⟨by rfl, ?y52⟩) hHeld ?_
                case y52 => (intro w hSw; (try dsimp only at hSw); go_simp; try (with_reducible rfl))
                try simp only [Act.put, List.setIfInBounds_toArray, List.set_cons_zero, List.set_cons_succ]
                refine wpAnyH_take (i := 6) (v := ?v53) (by simp only [List.getElem?_toArray, List.getElem?_cons_succ, List.getElem?_cons_zero]; exact rfl) (by kernel_rfl) (by kernel_rfl) (by kernel_rfl) (by intro _ _ _ h; exact h) (Or.inl ⟨by rfl, ?y53⟩) hHeld ?_
                case y53 => (intro w hSw; (try dsimp only at hSw); go_simp; try (with_reducible rfl))
                try simp only [Act.put, List.setIfInBounds_toArray, List.set_cons_zero, List.set_cons_succ]
                refine wpAnyH_take (i := 7) (v := ?v54) (by simp only [List.getElem?_toArray, List.getElem?_cons_succ, List.getElem?_cons_zero]; exact rfl) (by kernel_rfl) (by kernel_rfl) (by kernel_rfl) (by intro _ _ _ h; exact h) (Or.inl ⟨by rfl, ?y54⟩) hHeld ?_
                case y54 => (intro w hSw; (try dsimp only at hSw); go_simp; try (with_reducible rfl))
                try simp only [Act.put, List.setIfInBounds_toArray, List.set_cons_zero, List.set_cons_succ]
                refine wpAnyH_take (i := 8) (v := ?v55) (by simp only [List.getElem?_toArray, List.getElem?_cons_succ, List.getElem?_cons_zero]; exact rfl) (by kernel_rfl) (by kernel_rfl) (by kernel_rfl) (by intro _ _ _ h; exact h) (Or.inl ⟨by rfl, ?y55⟩) hHeld ?_
                case y55 => (intro w hSw; (try dsimp only at hSw); go_simp; try (with_reducible rfl))
                try simp only [Act.put, List.setIfInBounds_toArray, List.set_cons_zero, List.set_cons_succ]
                refine wpAnyH_take (i := 9) (v := ?v56) (by simp only [List.getElem?_toArray, List.getElem?_cons_succ, List.getElem?_cons_zero]; exact rfl) (by kernel_rfl) (by kernel_rfl) (by kernel_rfl) (by intro _ _ _ h; exact h) (Or.inl ⟨by rfl, ?y56⟩) hHeld ?_
                case y56 => (intro w hSw; (try dsimp only at hSw); go_simp; try (with_reducible rfl))
                try simp only [Act.put, List.setIfInBounds_toArray, List.set_cons_zero, List.set_cons_succ]
                refine wpAnyH_take (i := 10) (v := ?v57) (by simp only [List.getElem?_toArray, List.getElem?_cons_succ, List.getElem?_cons_zero]; exact rfl) (by kernel_rfl) (by kernel_rfl) (by kernel_rfl) (by intro _ _ _ h; exact h) (Or.inl ⟨by rfl, ?y57⟩) hHeld ?_
                case y57 => (intro w hSw; (try dsimp only at hSw); go_simp; try (with_reducible rfl))
                try simp only [Act.put, List.setIfInBounds_toArray, List.set_cons_zero, List.set_cons_succ]
                refine wpAnyH_take (i := 11) (v := ?v58) (by simp only [List.getElem?_toArray, List.getElem?_cons_succ, List.getElem?_cons_zero]; exact rfl) (by kernel_rfl) (by kernel_rfl) (by kernel_rfl) (by intro _ _ _ h; exact h) (Or.inl ⟨by rfl, ?y58⟩) hHeld ?_
                case y58 => (intro w hSw; (try dsimp only at hSw); go_simp; try (with_reducible rfl))
                try simp only [Act.put, List.setIfInBounds_toArray, List.set_cons_zero, List.set_cons_succ]
                refine wpAnyH_take (i := 12) (v := ?v59) (by simp only [List.getElem?_toArray, List.getElem?_cons_succ, List.getElem?_cons_zero]; exact rfl) (by kernel_rfl) (by kernel_rfl) (by kernel_rfl) (by intro _ _ _ h; exact h) (Or.inl ⟨by rfl, ?y59⟩) hHeld ?_
                case y59 => (intro w hSw; (try dsimp only at hSw); go_simp; try (with_reducible rfl))
                try simp only [Act.put, List.setIfInBounds_toArray, List.set_cons_zero, List.set_cons_succ]
                refine wpAnyH_take (i := 13) (v := ?v60) (by simp only [List.getElem?_toArray, List.getElem?_cons_succ, List.getElem?_cons_zero]; exact rfl) (by kernel_rfl) (by kernel_rfl) (by kernel_rfl) (by intro _ _ _ h; exact h) (Or.inl ⟨by rfl, ?y60⟩) hHeld ?_
                case y60 => (intro w hSw; (try dsimp only at hSw); go_simp; try (with_reducible rfl))
                try simp only [Act.put, List.setIfInBounds_toArray, List.set_cons_zero, List.set_cons_succ]
                refine wpAnyH_take (i := 14) (v := ?v61) (by simp only [List.getElem?_toArray, List.getElem?_cons_succ, List.getElem?_cons_zero]; exact rfl) (by kernel_rfl) (by kernel_rfl) (by kernel_rfl) (by intro _ _ _ h; exact h) (Or.inl ⟨by rfl, ?y61⟩) hHeld ?_
                case y61 => (intro w hSw; (try dsimp only at hSw); go_simp; try (with_reducible rfl))
                try simp only [Act.put, List.setIfInBounds_toArray, List.set_cons_zero, List.set_cons_succ]
                refine wpAnyH_done (by kernel_rfl) ?_ _
                all_goals
                  go_wp2
                  go_ret
                  exact ⟨ret_bool HFF.out.symm, hqh⟩
set_option maxHeartbeats 8000000 in
theorem lawDistancesKept_any {S0 : Nat → Prop} (v0 : Value) (g0 : List (List Int)) (w : World) (ht : Tab w) (hv0 : SlR S0 w v0 g0) :
    Calls Tryd.prog 5 #[.agg #[v0]] w fun e w' => e = .returned (.bool true) ∧ Below w.heap.size w w' := by
  obtain ⟨a0, c0, rfl⟩ := hv0.slice
  have q0 : Below w.heap.size w (w.alloc (.cells #[.slice a0 g0.length c0] 24)) := (Below.refl _ _).alloc (Nat.le_refl _) _
  go_enter Tryd.func5, Tryd.ntmps5
  go_wp2_with fail
  refine (szGraph_any _ _ _ _ (hv0.below q0 (Nat.le_refl _)) (by omega) (by omega)).mono ?_
  rintro e w1 ⟨r1, rfl, hr1, hs1, hm1, hb1⟩
  have q1 := q0.trans (hb1.mono q0.size)
  have b0_1 : w1.cell? ⟨w.heap.size, 0, none⟩ = some (.slice a0 g0.length c0) := (hb1.cell (p := ⟨w.heap.size, 0, none⟩) (by simp <;> omega)).trans (by simp [go_sem])
  by_cases hneg1 : r1 < 0
  case pos =>
    go_wp2
    go_ret
    exact ⟨rfl, q1⟩
  have hsm0 : SmallR g0 1048576 := hm1 (by omega)
  go_wp2_with fail
  refine (toGraph_any _ _ _ (hv0.below q1 (Nat.le_refl _)) hsm0).mono ?_
  rintro e w2 ⟨x2, rfl, hy2, hb2⟩
  have q2 := q1.trans (hb2.mono q1.size)
  have b0_2 : w2.cell? ⟨w.heap.size, 0, none⟩ = some (.slice a0 g0.length c0) := (hb2.cell (p := ⟨w.heap.size, 0, none⟩) (cell_lt b0_1)).trans b0_1
  have y2_2 := hy2
  go_wp2_with fail
  refine (specDistancesKept_any y2_2).mono ?_
  rintro e w3 ⟨rfl, hb3⟩
  have q3 := q2.trans (hb3.mono q2.size)
  have b0_3 : w3.cell? ⟨w.heap.size, 0, none⟩ = some (.slice a0 g0.length c0) := (hb3.cell (p := ⟨w.heap.size, 0, none⟩) (cell_lt b0_2)).trans b0_2
  have y2_3 := y2_2.below hb3 (Nat.le_refl _)
  go_wp2_with fail
  refine (toGraph_any _ _ _ (hv0.below q3 (Nat.le_refl _)) hsm0).mono ?_
  rintro e w4 ⟨x4, rfl, hy4, hb4⟩
  have q4 := q3.trans (hb4.mono q3.size)
  have b0_4 : w4.cell? ⟨w.heap.size, 0, none⟩ = some (.slice a0 g0.length c0) := (hb4.cell (p := ⟨w.heap.size, 0, none⟩) (cell_lt b0_3)).trans b0_3
  have y2_4 := y2_3.below hb4 (Nat.le_refl _)
  have y4_4 := hy4
  obtain ⟨xa5, xc5, rfl⟩ := y4_4.slice
  have hb5 : Below w4.heap.size w4 (w4.alloc (.cells #[.slice xa5 g0.length xc5] 27)) := (Below.refl _ _).alloc (Nat.le_refl _) _
  have q5 := q4.trans (hb5.mono q4.size)
  have b0_5 := (hb5.cell (p := ⟨w.heap.size, 0, none⟩) (cell_lt b0_4)).trans b0_4
  have y2_5 := y2_4.below hb5 (Nat.le_refl _)
  have y4_5 := y4_4.below hb5 (Nat.le_refl _)
  go_wp2_with fail
  refine (implDistancesKept_any (ht.below q5 (Nat.le_refl _)) y4_5).mono ?_
  rintro e w6 ⟨rfl, hb6⟩
  have q6 := q5.trans (hb6.mono q5.size)
  have b0_6 : w6.cell? ⟨w.heap.size, 0, none⟩ = some (.slice a0 g0.length c0) := (hb6.cell (p := ⟨w.heap.size, 0, none⟩) (by have := cell_lt b0_5; simp at this ⊢; omega)).trans b0_5
  have l5_6 : w6.cell? ⟨w4.heap.size, 0, none⟩ = some (.slice xa5 g0.length xc5) := (hb6.cell (p := ⟨w4.heap.size, 0, none⟩) (by simp)).trans (by simp [go_sem])
  have y2_6 := y2_5.below hb6 (Nat.le_refl _)
  have y4_6 := y4_5.below hb6 (Nat.le_refl _)
  go_wp2
  have _tt : True := trivial
  refine wp_region_held_drew (S := (fun w' => w'.cell? ⟨w.heap.size, 0, none⟩ = some (.slice a0 g0.length c0) ∧ w'.cell? ⟨w4.heap.size, 0, none⟩ = some (.slice xa5 g0.length xc5))) (by kernel_rfl) ?_ (fun hHeld => ?_)
  · first | exact ⟨‹_›, ‹_›⟩ | assumption | (simp [*, go_sem])
  refine wpAnyH_take (i := 0) (v := ?v62) (by simp only [List.getElem?_toArray, List.getElem?_cons_zero]; exact rfl) (by kernel_rfl) (by kernel_rfl) (by kernel_rfl) (by intro _ _ _ h; exact h) (Or.inl ⟨by rfl, ?y62⟩) hHeld ?_
  case y62 => (intro w hSw; (try dsimp only at hSw); go_simp; try (with_reducible rfl))
  try simp only [Act.put, List.setIfInBounds_toArray, List.set_cons_zero, List.set_cons_succ]
  refine wpAnyH_take (i := 1) (v := ?v63) (by simp only [List.getElem?_toArray, List.getElem?_cons_succ, List.getElem?_cons_zero]; exact rfl) (by kernel_rfl) (by kernel_rfl) (by kernel_rfl) (by intro _ _ _ h; exact h) (Or.inl ⟨by rfl, ?y63⟩) hHeld ?_
  case y63 => (intro w hSw; (try dsimp only at hSw); go_simp; try (with_reducible rfl))
  try simp only [Act.put, List.setIfInBounds_toArray, List.set_cons_zero, List.set_cons_succ]
  refine wpAnyH_ready (rs := [2]) (by kernel_rfl) (by simp) ?_
  refine AllReadyH.cons (by simp only [List.getElem?_toArray, List.getElem?_cons_succ, List.getElem?_cons_zero]; exact rfl) (fun K hK => ?_) AllReadyH.nil
  go_simp
  have q6d := q6.drew
  refine (toGraph_any _ _ _ (hv0.below q6d (Nat.le_refl _)) hsm0).mono ?_
  rintro e w7 ⟨x7, rfl, hy7, hb7⟩
  have hb7e : Below w6.heap.size w6 w7 := ⟨hb7.os, hb7.tape, hb7.output, hb7.size, hb7.block⟩
  have q7 := q6.trans (hb7e.mono q6.size)
  have b0_7 : w7.cell? ⟨w.heap.size, 0, none⟩ = some (.slice a0 g0.length c0) := (hb7e.cell (p := ⟨w.heap.size, 0, none⟩) (cell_lt b0_6)).trans b0_6
  have l5_7 : w7.cell? ⟨w4.heap.size, 0, none⟩ = some (.slice xa5 g0.length xc5) := (hb7e.cell (p := ⟨w4.heap.size, 0, none⟩) (cell_lt l5_6)).trans l5_6
  have y2_7 := y2_6.below hb7e (Nat.le_refl _)
  have y4_7 := y4_6.below hb7e (Nat.le_refl _)
  have y7_7 := hy7
  try dsimp only
  refine hK.out _ _ ?h65 (fun hHeld => ?_)
  case h65 => first | exact ⟨‹_›, ‹_›⟩ | assumption | (simp [*, go_sem])
  clear hK K
  try simp only [Act.put, List.setIfInBounds_toArray, List.set_cons_zero, List.set_cons_succ]
  refine wpAnyH_ready (rs := [3]) (by kernel_rfl) (by simp) ?_
  refine AllReadyH.cons (by simp only [List.getElem?_toArray, List.getElem?_cons_succ, List.getElem?_cons_zero]; exact rfl) (fun K hK => ?_) AllReadyH.nil
  go_simp
  refine (eqGraph_any _ _ _ _ _ y4_7 y7_7).mono ?_
  rintro e w8 ⟨rfl, hb8⟩
  have q8 := q7.trans (hb8.mono q7.size)
  have b0_8 : w8.cell? ⟨w.heap.size, 0, none⟩ = some (.slice a0 g0.length c0) := (hb8.cell (p := ⟨w.heap.size, 0, none⟩) (cell_lt b0_7)).trans b0_7
  have l5_8 : w8.cell? ⟨w4.heap.size, 0, none⟩ = some (.slice xa5 g0.length xc5) := (hb8.cell (p := ⟨w4.heap.size, 0, none⟩) (cell_lt l5_7)).trans l5_7
  have y2_8 := y2_7.below hb8 (Nat.le_refl _)
  have y4_8 := y4_7.below hb8 (Nat.le_refl _)
  have y7_8 := y7_7.below hb8 (Nat.le_refl _)
  try dsimp only
  refine hK.out _ _ ?h67 (fun hHeld => ?_)
  case h67 => first | exact ⟨‹_›, ‹_›⟩ | assumption | (simp [*, go_sem])
  clear hK K
  try simp only [Act.put, List.setIfInBounds_toArray, List.set_cons_zero, List.set_cons_succ]
  refine wpAnyH_take (i := 4) (v := ?v68) (by simp only [List.getElem?_toArray, List.getElem?_cons_succ, List.getElem?_cons_zero]; exact rfl) (by kernel_rfl) (by kernel_rfl) (by kernel_rfl) (by intro _ _ _ h; exact h) (Or.inl ⟨by rfl, ?y68⟩) hHeld ?_
  case y68 => (intro w hSw; (try dsimp only at hSw); go_simp; try (with_reducible rfl))
  try simp only [Act.put, List.setIfInBounds_toArray, List.set_cons_zero, List.set_cons_succ]
  refine wpAnyH_done (by kernel_rfl) ?_ _
  go_wp2
  go_ret
  exact ⟨rfl, q8⟩
end Go.Proofs.YtfccpencgengaaaDoor
