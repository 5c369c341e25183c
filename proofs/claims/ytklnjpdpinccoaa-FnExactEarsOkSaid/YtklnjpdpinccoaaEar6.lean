/- Ears of the reference: l19Use, EarsOk. -/
import Derived.Test.YtklnjpdpinccoaaEar5
import Derived.Test.YtklnjpdpinccoaaInto2
namespace Go.Proofs.Ytklnjpdpinccoaa
open Go.RowKit
theorem maskL_natsI {p : List Nat} {k : Nat} (hk : k < p.length) : maskL ((natsI p).take (k + 1)) = maskL ((natsI p).take k) ||| bit (p.getD k 0) := by
  rw [maskL_take (by rw [natsI_len]; exact hk), natsI_at _ hk, Int.toNat_natCast]; simp [hk]
set_option maxRecDepth 100000 in
set_option maxHeartbeats 8000000 in
theorem l19Use_any {S : Nat → Prop} {B m : Nat} {ev mv uv : Value} {p : List Nat} {U : List NP} {w : World} (he : SlI S w .i64 ev (natsI p)) (hp1 : 1 ≤ p.length) (hp : ∀ a ∈ p, a < 16) (hp32 : p.length ≤ 32) (hm32 : m < 65536) (hmv : OwnB w B 2 mv m) (huv : OwnS w B 26 uv (rowsP U)) (hU : U.length ≤ 4096) (hB : B ≤ w.heap.size) :
    Calls Try.prog 48 #[ev, mv, uv] w fun e w' => ∃ mv' uv', e = .returned (.tuple #[mv', uv']) ∧ OwnB w' B 2 mv' (m ||| maskL (natsI p)) ∧ OwnS w' B 26 uv' (rowsP (useU U (stepsN p (m == 0)))) ∧ Below B w w' := by
  have hmz : (bitsI m).length = 0 ↔ m = 0 := by rw [← bitsI_nil (show m < 4294967296 by omega)]; exact List.length_eq_zero_iff
  have hml := bitsI_len m
  have hf1 : (((bitsI m).length : Int) == 0) = (m == 0) := by rw [Bool.eq_iff_iff, beq_iff_eq, beq_iff_eq, ← hmz]; omega
  have hf2 : ((bitsI m).length == 0) = (m == 0) := by rw [Bool.eq_iff_iff, beq_iff_eq, beq_iff_eq, ← hmz]
  have hsl := stepsN_len p (m == 0)
  have hsl2 : (stepsN p (m == 0)).length ≤ 64 := by rw [hsl]; split <;> omega
  have hst := l19Steps_any (c := (m == 0)) he hp1 hp32
  generalize (m == 0) = fb at *
  generalize stepsN p fb = ST at *
  obtain ⟨ma, mc, rfl⟩ := hmv.isSlice
  obtain ⟨eb, eo, ecap, hee, hec⟩ := he.at_
  have hee := hee (by rw [natsI_len]; omega)
  subst hee
  rw [natsI_len] at *
  obtain ⟨ua, uc, rfl⟩ := huv.isSlice
  simp only [rowsP_len] at *
  have hec0 : ∀ W : World, Below w.heap.size w W → ∀ i, i < p.length → W.cell? ⟨eb, eo + i, none⟩ = some (.int .i64 ((p.getD i 0 : Nat) : Int)) := fun W hb i hi => by
    have h := hec i (by rw [natsI_len]; exact hi)
    refine ((hb.cell (p := ⟨eb, eo + i, none⟩) (cell_lt h)).trans h).trans ?_
    simp [natsI, hi]
  have hp16 : ∀ i, i < p.length → p.getD i 0 < 16 := fun i hi => by
    have : p.getD i 0 = p[i] := by simp [hi]
    rw [this]; exact hp _ (List.getElem_mem _)
  have hmk : ∀ k, m ||| maskL ((natsI p).take k) < 65536 := fun k => by
    have : maskL ((natsI p).take k) < 2 ^ 16 := maskL_lt fun x hx => by
      obtain ⟨a, ha, rfl⟩ := List.mem_map.1 (List.mem_of_mem_take hx)
      have := hp a ha; omega
    exact Nat.or_lt_two_pow (n := 16) hm32 this
  have hm0 : m ||| maskL ((natsI p).take 0) = m := by simp [maskL]
  have HEC := Lib.hid hec0
  have HP16 := Lib.hid hp16
  have HMK := Lib.hid hmk
  clear hec hsl hmz hec0 hp16 hmk
  go_enter Try.func48, Try.ntmps48
  go_wp2_with fail
  refine hst.mono ?_
  rintro e w1 ⟨su, rfl, hsu, hb1⟩
  have hsr0 := hsu.rowsB (by rw [rowsP_len]; omega)
  obtain ⟨sa, sc, rfl⟩ := hsr0.slice
  simp only [rowsP_len] at *
  have hmv1 : OwnB w1 B 2 (.slice ma (bitsI m).length mc) (m ||| maskL ((natsI p).take 0)) := by rw [hm0]; exact hmv.below hb1 (Nat.le_refl _)
  clear hst hsu hm0
  go_wp2
  go_loopw [1, 9] (fun v i wr => ∃ k : Nat, k ≤ p.length ∧ i = .int .i64 k ∧ OwnB wr B 2 v (m ||| maskL ((natsI p).take k)) ∧ Below w1.heap.size w1 wr) (fun _ i _ => p.length - (intOf i).toNat)
  case atStart => exact ⟨0, Nat.zero_le _, rfl, hmv1, Below.refl _ _⟩
  case round =>
    clear hmv1
    obtain ⟨k, hk, rfl, hv, hq1⟩ := hrel
    obtain ⟨wi, rfl⟩ : ∃ wx : World, wx = wr := ⟨_, rfl⟩
    have hq := hb1.trans (hq1.mono hb1.size)
    by_cases hlt : k < p.length
    case pos =>
      have ca := HEC.out _ hq k hlt
      have hy := HP16.out k hlt
      have HM := Lib.hid (show m ||| maskL ((natsI p).take (k + 1)) = m ||| maskL ((natsI p).take k) ||| bit (p.getD k 0) by rw [maskL_natsI hlt, Nat.or_assoc])
      have hm2 := HMK.out k
      have hBi : B ≤ wi.heap.size := Nat.le_trans hB hq.size
      generalize p.getD k 0 = y at *
      generalize m ||| maskL ((natsI p).take k) = M at *
      obtain ⟨va, vc, rfl⟩ := hv.isSlice
      go_wp2_with fail
      refine (intoB_any (x := y) hv hBi (by omega) (by omega)).mono ?_
      rintro e w2 ⟨v2, rfl, hv2, hb2⟩
      go_wp2
      go_roundw
      case rel => exact ⟨k + 1, by omega, by go_num, by rw [HM.out]; exact hv2, hq1.trans (hb2.mono hq1.size)⟩
      case measure => simp [intOf]; omega
    obtain rfl : k = p.length := by omega
    rw [List.take_of_length_le (by rw [natsI_len]; exact Nat.le_refl _)] at hv
    have hu0 : OwnS wi B 26 (.slice ua U.length uc) (rowsP (useU U (ST.take 0))) := by rw [List.take_zero, useU_nil]; exact huv.below hq (Nat.le_refl _)
    have hs0 : SlR (Off1 wi (.slice ua U.length uc)) wi (.slice sa ST.length sc) (rowsP ST) := (hsr0.below hq1 (Nat.le_refl _)).weak fun b hb => ⟨Nat.lt_of_lt_of_le hb.2 hq1.size, fun e => by
      obtain ⟨vs, _, ho, _⟩ := huv
      have := (ho.lt b e).2; have := hb.1; omega⟩
    have hqB := hq.mono hB
    generalize hMM : m ||| maskL (natsI p) = M at *
    have HMM := Lib.hid hMM
    clear hMM
    obtain ⟨va, vc, rfl⟩ := hv.isSlice
    clear hq1 hsr0 hq
    go_wp2
    go_loopw [2, 10] (fun u i wr => ∃ k : Nat, k ≤ ST.length ∧ i = .int .i64 k ∧ OwnS wr B 26 u (rowsP (useU U (ST.take k))) ∧ SlR (Off1 wr u) wr (.slice sa ST.length sc) (rowsP ST) ∧ OwnB wr B 2 (.slice va (bitsI M).length vc) M ∧ Below B w wr) (fun _ i _ => ST.length - (intOf i).toNat)
    case atStart => exact ⟨0, Nat.zero_le _, rfl, hu0, hs0, hv, hqB⟩
    case round =>
      clear hu0 hs0 hv hqB
      obtain ⟨k, hk, rfl, hu, hs, hv, hq⟩ := hrel
      obtain ⟨wi, rfl⟩ : ∃ wx : World, wx = wr := ⟨_, rfl⟩
      obtain ⟨oa, oc, rfl⟩ := hu.isSlice
      by_cases hlt : k < ST.length
      case neg =>
        obtain rfl : k = ST.length := by omega
        have hu2 : OwnS wi B 26 (.slice oa (rowsP (useU U (ST.take ST.length))).length oc) (rowsP (useU U ST)) := by have h := hu; rw [List.take_length] at h ⊢; exact h
        go_wp2
        go_ret2
        exact ⟨.slice va (bitsI M).length vc, .slice oa (rowsP (useU U (ST.take ST.length))).length oc, rfl, by rw [HMM.out]; exact hv, hu2, hq⟩
      obtain ⟨b, off, cap, rb, ro, rc, hve, c0, c1, c2, hSb, hSr⟩ := hs.pairS hlt
      simp only [Value.slice.injEq, true_and] at hve
      obtain ⟨rfl, rfl⟩ := hve
      have HT := Lib.hid (show rowsP (useU U (ST.take (k + 1))) = rowsP (useU U (ST.take k)) ++ [[(ST[k].1 : Int), (ST[k].2 : Int)], [(ST[k].2 : Int), (ST[k].1 : Int)]] by rw [useU_take hlt, rowsP_app]; rfl)
      have hFl : (rowsP (useU U (ST.take k))).length ≤ 8192 := by rw [rowsP_len, useU_len, List.length_take]; omega
      generalize rowsP (useU U (ST.take k)) = F at *
      generalize ST[k] = s at *
      obtain ⟨y, z⟩ := s
      simp only at c1 c2 HT
      have hBi : B ≤ wi.heap.size := Nat.le_trans hB hq.size
      go_wp2
      refine wp_region_held_drew (S := (fun w' => w'.cell? ⟨b, off + k, none⟩ = some (.slice (some ⟨rb, ro, none⟩) 2 rc) ∧ w'.cell? ⟨rb, ro, none⟩ = some (.int .i64 (y : Int)) ∧ w'.cell? ⟨rb, ro + 1, none⟩ = some (.int .i64 (z : Int)))) (by kernel_rfl) ?_ (fun hHeld => ?_)
      · first | exact ⟨‹_›, ‹_›, ‹_›⟩ | assumption | (simp [*, go_sem])
      have hdb := (Below.refl wi.heap.size wi).drew
      have hqd := hq.drew
      have hud := hu.below hdb (Nat.le_refl _)
      have hsd := hs.offBelow hdb
      have hvd := hv.below hdb (Nat.le_refl _)
      have hSbd : Off1 wi.drew (.slice oa F.length oc) b := hSb
      have hSrd : Off1 wi.drew (.slice oa F.length oc) rb := hSr
      have hBd : B ≤ wi.drew.heap.size := hBi
      generalize wi.drew = wd at hqd hud hsd hvd hSbd hSrd hBd hHeld ⊢
      obtain ⟨N, hN⟩ : ∃ n, n = wd.heap.size := ⟨_, rfl⟩
      have hob : ∀ x, (Value.slice oa F.length oc).ownBlock = some x → x < N := (by obtain ⟨_, _, ho, _⟩ := hud; intro x hx; rw [hN]; exact (ho.lt x hx).2)
      have hNl : N ≤ wd.heap.size := Nat.le_of_eq hN
      have hBN : B ≤ N := by omega
      clear hN
      have hHeld2 := hHeld
      obtain ⟨d0, d1, d2⟩ := hHeld2
      refine wpAnyH_take (i := 0) (v := ?v1) (by simp only [List.getElem?_toArray, List.getElem?_cons_zero]; exact rfl) (by kernel_rfl) (by kernel_rfl) (by kernel_rfl) (by intro _ _ _ h; exact h) (Or.inl ⟨by rfl, ?y1⟩) hHeld ?_
      case y1 => (intro w hSw; (try dsimp only at hSw); go_simp; try (with_reducible rfl))
      try simp only [Act.put, List.setIfInBounds_toArray, List.set_cons_zero, List.set_cons_succ]
      refine wpAnyH_take (i := 1) (v := ?v2) (by simp only [List.getElem?_toArray, List.getElem?_cons_succ, List.getElem?_cons_zero]; exact rfl) (by kernel_rfl) (by kernel_rfl) (by kernel_rfl) (by intro _ _ _ h; exact h) (Or.inl ⟨by rfl, ?y2⟩) hHeld ?_
      case y2 => (intro w hSw; (try dsimp only at hSw); go_simp; try (with_reducible rfl))
      try simp only [Act.put, List.setIfInBounds_toArray, List.set_cons_zero, List.set_cons_succ]
      refine wpAnyH_take (i := 2) (v := ?v3) (by simp only [List.getElem?_toArray, List.getElem?_cons_succ, List.getElem?_cons_zero]; exact rfl) (by kernel_rfl) (by kernel_rfl) (by kernel_rfl) (by intro _ _ _ h; exact h) (Or.inl ⟨by rfl, ?y3⟩) hHeld ?_
      case y3 => (intro w hSw; (try dsimp only at hSw); go_simp; try (with_reducible rfl))
      try simp only [Act.put, List.setIfInBounds_toArray, List.set_cons_zero, List.set_cons_succ]
      refine wpAnyH_take (i := 3) (v := ?v4) (by simp only [List.getElem?_toArray, List.getElem?_cons_succ, List.getElem?_cons_zero]; exact rfl) (by kernel_rfl) (by kernel_rfl) (by kernel_rfl) (by intro _ _ _ h; exact h) (Or.inl ⟨by rfl, ?y4⟩) hHeld ?_
      case y4 => (intro w hSw; (try dsimp only at hSw); go_simp; try (with_reducible rfl))
      try simp only [Act.put, List.setIfInBounds_toArray, List.set_cons_zero, List.set_cons_succ]
      refine wpAnyH_take (i := 4) (v := ?v5) (by simp only [List.getElem?_toArray, List.getElem?_cons_succ, List.getElem?_cons_zero]; exact rfl) (by kernel_rfl) (by kernel_rfl) (by kernel_rfl) (by intro _ _ _ h; exact h) (Or.inl ⟨by rfl, ?y5⟩) hHeld ?_
      case y5 => (intro w hSw; (try dsimp only at hSw); go_simp; try (with_reducible rfl))
      try simp only [Act.put, List.setIfInBounds_toArray, List.set_cons_zero, List.set_cons_succ]
      refine wpAnyH_take (i := 5) (v := ?v6) (by simp only [List.getElem?_toArray, List.getElem?_cons_succ, List.getElem?_cons_zero]; exact rfl) (by kernel_rfl) (by kernel_rfl) (by kernel_rfl) (by intro _ _ _ h; exact h) (Or.inl ⟨by rfl, ?y6⟩) hHeld ?_
      case y6 => (intro w hSw; (try dsimp only at hSw); go_simp; try (with_reducible rfl))
      try simp only [Act.put, List.setIfInBounds_toArray, List.set_cons_zero, List.set_cons_succ]
      refine wpAnyH_take (i := 6) (v := ?v7) (by simp only [List.getElem?_toArray, List.getElem?_cons_succ, List.getElem?_cons_zero]; exact rfl) (by kernel_rfl) (by kernel_rfl) (by kernel_rfl) (by intro _ _ _ h; exact h) (Or.inl ⟨by rfl, ?y7⟩) hHeld ?_
      case y7 => (intro w hSw; (try dsimp only at hSw); go_simp; try (with_reducible rfl))
      try simp only [Act.put, List.setIfInBounds_toArray, List.set_cons_zero, List.set_cons_succ]
      refine wpAnyH_take (i := 7) (v := ?v8) (by simp only [List.getElem?_toArray, List.getElem?_cons_succ, List.getElem?_cons_zero]; exact rfl) (by kernel_rfl) (by kernel_rfl) (by kernel_rfl) (by intro _ _ _ h; exact h) (Or.inl ⟨by rfl, ?y8⟩) hHeld ?_
      case y8 => (intro w hSw; (try dsimp only at hSw); go_simp; try (with_reducible rfl))
      try simp only [Act.put, List.setIfInBounds_toArray, List.set_cons_zero, List.set_cons_succ]
      refine wpAnyH_take (i := 8) (v := ?v9) (by simp only [List.getElem?_toArray, List.getElem?_cons_succ, List.getElem?_cons_zero]; exact rfl) (by kernel_rfl) (by kernel_rfl) (by kernel_rfl) (by intro _ _ _ h; exact h) (Or.inl ⟨by rfl, ?y9⟩) hHeld ?_
      case y9 => (intro w hSw; (try dsimp only at hSw); go_simp; try (with_reducible rfl))
      try simp only [Act.put, List.setIfInBounds_toArray, List.set_cons_zero, List.set_cons_succ]
      refine wpAnyH_take (i := 9) (v := ?v10) (by simp only [List.getElem?_toArray, List.getElem?_cons_succ, List.getElem?_cons_zero]; exact rfl) (by kernel_rfl) (by kernel_rfl) (by kernel_rfl) (by intro _ _ _ h; exact h) (Or.inl ⟨by rfl, ?y10⟩) hHeld ?_
      case y10 => (intro w hSw; (try dsimp only at hSw); go_simp; try (with_reducible rfl))
      try simp only [Act.put, List.setIfInBounds_toArray, List.set_cons_zero, List.set_cons_succ]
      refine wpAnyH_take (i := 10) (v := ?v11) (by simp only [List.getElem?_toArray, List.getElem?_cons_succ, List.getElem?_cons_zero]; exact rfl) (by kernel_rfl) (by kernel_rfl) (by kernel_rfl) (by intro _ _ _ h; exact h) (Or.inl ⟨by rfl, ?y11⟩) hHeld ?_
      case y11 => (intro w hSw; (try dsimp only at hSw); go_simp; try (with_reducible rfl))
      try simp only [Act.put, List.setIfInBounds_toArray, List.set_cons_zero, List.set_cons_succ]
      refine wpAnyH_take (i := 11) (v := ?v12) (by simp only [List.getElem?_toArray, List.getElem?_cons_succ, List.getElem?_cons_zero]; exact rfl) (by kernel_rfl) (by kernel_rfl) (by kernel_rfl) (by intro _ _ _ h; exact h) (Or.inl ⟨by rfl, ?y12⟩) hHeld ?_
      case y12 => (intro w hSw; (try dsimp only at hSw); go_simp; try (with_reducible rfl))
      try simp only [Act.put, List.setIfInBounds_toArray, List.set_cons_zero, List.set_cons_succ]
      refine wpAnyH_take (i := 12) (v := ?v13) (by simp only [List.getElem?_toArray, List.getElem?_cons_succ, List.getElem?_cons_zero]; exact rfl) (by kernel_rfl) (by kernel_rfl) (by kernel_rfl) (by intro _ _ _ h; exact h) (Or.inl ⟨by rfl, ?y13⟩) hHeld ?_
      case y13 => (intro w hSw; (try dsimp only at hSw); go_simp; try (with_reducible rfl))
      try simp only [Act.put, List.setIfInBounds_toArray, List.set_cons_zero, List.set_cons_succ]
      refine wpAnyH_take (i := 14) (v := ?v14) (by simp only [List.getElem?_toArray, List.getElem?_cons_succ, List.getElem?_cons_zero]; exact rfl) (by kernel_rfl) (by kernel_rfl) (by kernel_rfl) (by intro _ _ _ h; exact h) (Or.inl ⟨by rfl, ?y14⟩) hHeld ?_
      case y14 => (intro w hSw; (try dsimp only at hSw); go_simp; try (with_reducible rfl))
      try simp only [Act.put, List.setIfInBounds_toArray, List.set_cons_zero, List.set_cons_succ]
      refine wpAnyH_take (i := 15) (v := ?v15) (by simp only [List.getElem?_toArray, List.getElem?_cons_succ, List.getElem?_cons_zero]; exact rfl) (by kernel_rfl) (by kernel_rfl) (by kernel_rfl) (by intro _ _ _ h; exact h) (Or.inl ⟨by rfl, ?y15⟩) hHeld ?_
      case y15 => (intro w hSw; (try dsimp only at hSw); go_simp; try (with_reducible rfl))
      try simp only [Act.put, List.setIfInBounds_toArray, List.set_cons_zero, List.set_cons_succ]
      refine wpAnyH_take (i := 16) (v := ?v16) (by simp only [List.getElem?_toArray, List.getElem?_cons_succ, List.getElem?_cons_zero]; exact rfl) (by kernel_rfl) (by kernel_rfl) (by kernel_rfl) (by intro _ _ _ h; exact h) (Or.inl ⟨by rfl, ?y16⟩) hHeld ?_
      case y16 => (intro w hSw; (try dsimp only at hSw); go_simp; try (with_reducible rfl))
      try simp only [Act.put, List.setIfInBounds_toArray, List.set_cons_zero, List.set_cons_succ]
      refine wpAnyH_take (i := 17) (v := ?v17) (by simp only [List.getElem?_toArray, List.getElem?_cons_succ, List.getElem?_cons_zero]; exact rfl) (by kernel_rfl) (by kernel_rfl) (by kernel_rfl) (by intro _ _ _ h; exact h) (Or.inl ⟨by rfl, ?y17⟩) hHeld ?_
      case y17 => (intro w hSw; (try dsimp only at hSw); go_simp; try (with_reducible rfl))
      try simp only [Act.put, List.setIfInBounds_toArray, List.set_cons_zero, List.set_cons_succ]
      refine wpAnyH_take (i := 18) (v := ?v18) (by simp only [List.getElem?_toArray, List.getElem?_cons_succ, List.getElem?_cons_zero]; exact rfl) (by kernel_rfl) (by kernel_rfl) (by kernel_rfl) (by intro _ _ _ h; exact h) (Or.inl ⟨by rfl, ?y18⟩) hHeld ?_
      case y18 => (intro w hSw; (try dsimp only at hSw); go_simp; try (with_reducible rfl))
      try simp only [Act.put, List.setIfInBounds_toArray, List.set_cons_zero, List.set_cons_succ]
      refine wpAnyH_take (i := 19) (v := ?v19) (by simp only [List.getElem?_toArray, List.getElem?_cons_succ, List.getElem?_cons_zero]; exact rfl) (by kernel_rfl) (by kernel_rfl) (by kernel_rfl) (by intro _ _ _ h; exact h) (Or.inl ⟨by rfl, ?y19⟩) hHeld ?_
      case y19 => (intro w hSw; (try dsimp only at hSw); go_simp; try (with_reducible rfl))
      try simp only [Act.put, List.setIfInBounds_toArray, List.set_cons_zero, List.set_cons_succ]
      refine wpAnyH_take (i := 20) (v := ?v20) (by simp only [List.getElem?_toArray, List.getElem?_cons_succ, List.getElem?_cons_zero]; exact rfl) (by kernel_rfl) (by kernel_rfl) (by kernel_rfl) (by intro _ _ _ h; exact h) (Or.inl ⟨by rfl, ?y20⟩) hHeld ?_
      case y20 => (intro w hSw; (try dsimp only at hSw); go_simp; try (with_reducible rfl))
      try simp only [Act.put, List.setIfInBounds_toArray, List.set_cons_zero, List.set_cons_succ]
      refine wpAnyH_take (i := 21) (v := ?v21) (by simp only [List.getElem?_toArray, List.getElem?_cons_succ, List.getElem?_cons_zero]; exact rfl) (by kernel_rfl) (by kernel_rfl) (by kernel_rfl) (by intro _ _ _ h; exact h) (Or.inl ⟨by rfl, ?y21⟩) hHeld ?_
      case y21 => (intro w hSw; (try dsimp only at hSw); go_simp; try (with_reducible rfl))
      try simp only [Act.put, List.setIfInBounds_toArray, List.set_cons_zero, List.set_cons_succ]
      refine wpAnyH_take (i := 22) (v := ?v22) (by simp only [List.getElem?_toArray, List.getElem?_cons_succ, List.getElem?_cons_zero]; exact rfl) (by kernel_rfl) (by kernel_rfl) (by kernel_rfl) (by intro _ _ _ h; exact h) (Or.inl ⟨by rfl, ?y22⟩) hHeld ?_
      case y22 => (intro w hSw; (try dsimp only at hSw); go_simp; try (with_reducible rfl))
      try simp only [Act.put, List.setIfInBounds_toArray, List.set_cons_zero, List.set_cons_succ]
      refine wpAnyH_take (i := 23) (v := ?v23) (by simp only [List.getElem?_toArray, List.getElem?_cons_succ, List.getElem?_cons_zero]; exact rfl) (by kernel_rfl) (by kernel_rfl) (by kernel_rfl) (by intro _ _ _ h; exact h) (Or.inl ⟨by rfl, ?y23⟩) hHeld ?_
      case y23 => (intro w hSw; (try dsimp only at hSw); go_simp; try (with_reducible rfl))
      try simp only [Act.put, List.setIfInBounds_toArray, List.set_cons_zero, List.set_cons_succ]
      refine wpAnyH_take (i := 24) (v := ?v24) (by simp only [List.getElem?_toArray, List.getElem?_cons_succ, List.getElem?_cons_zero]; exact rfl) (by kernel_rfl) (by kernel_rfl) (by kernel_rfl) (by intro _ _ _ h; exact h) (Or.inl ⟨by rfl, ?y24⟩) hHeld ?_
      case y24 => (intro w hSw; (try dsimp only at hSw); go_simp; try (with_reducible rfl))
      try simp only [Act.put, List.setIfInBounds_toArray, List.set_cons_zero, List.set_cons_succ]
      refine wpAnyH_take (i := 25) (v := ?v25) (by simp only [List.getElem?_toArray, List.getElem?_cons_succ, List.getElem?_cons_zero]; exact rfl) (by kernel_rfl) (by kernel_rfl) (by kernel_rfl) (by intro _ _ _ h; exact h) (Or.inl ⟨by rfl, ?y25⟩) hHeld ?_
      case y25 => (intro w hSw; (try dsimp only at hSw); go_simp; try (with_reducible rfl))
      try simp only [Act.put, List.setIfInBounds_toArray, List.set_cons_zero, List.set_cons_succ]
      refine wpAnyH_ready (rs := [13, 26]) (by kernel_rfl) (by simp) ?_
      refine (AllReadyH.cons (by simp only [List.getElem?_toArray, List.getElem?_cons_succ, List.getElem?_cons_zero]; exact rfl) (fun K hK => ?b26_13) (AllReadyH.cons (by simp only [List.getElem?_toArray, List.getElem?_cons_succ, List.getElem?_cons_zero]; exact rfl) (fun K hK => ?b26_26) AllReadyH.nil))
      case b26_13 =>
        go_simp
        obtain ⟨hbx, hn1⟩ := lit2 wd 2 (y : Int) (z : Int) hNl
        generalize hW : wd.alloc (.cells #[.int .i64 (y : Int), .int .i64 (z : Int)] 2) = wn at hbx hn1 ⊢
        clear hW
        obtain ⟨n1, hn1e⟩ : ∃ n, n = wd.heap.size := ⟨_, rfl⟩
        rw [← hn1e] at hn1 ⊢
        have hqd := hqd.trans (hbx.mono hBd)
        have hud := hud.below hbx (Nat.le_refl _)
        have hsd := hsd.offBelow hbx
        have hvd := hvd.below hbx (Nat.le_refl _)
        have hSbd : Off1 wn (.slice oa F.length oc) b := ⟨Nat.lt_of_lt_of_le hSbd.1 hbx.size, hSbd.2⟩
        have hSrd : Off1 wn (.slice oa F.length oc) rb := ⟨Nat.lt_of_lt_of_le hSrd.1 hbx.size, hSrd.2⟩
        have hBd := Nat.le_trans hBd hbx.size
        have hNl := Nat.le_trans hNl hbx.size
        have d0 := (hbx.cell (cell_lt d0)).trans d0
        have d1 := (hbx.cell (cell_lt d1)).trans d1
        have d2 := (hbx.cell (cell_lt d2)).trans d2
        try (have hn2 := hn2.below hbx (Nat.le_refl _))
        clear hn1e
        obtain ⟨wd, rfl⟩ : ∃ wx : World, wx = wn := ⟨_, rfl⟩
        try dsimp only
        refine hK.out _ _ ?h27 (fun hHeld => ?_)
        case h27 => first | exact ⟨‹_›, ‹_›, ‹_›⟩ | assumption | (simp [*, go_sem])
        clear hK K
        try simp only [Act.put, List.setIfInBounds_toArray, List.set_cons_zero, List.set_cons_succ]
        refine wpAnyH_ready (rs := [26]) (by kernel_rfl) (by simp) ?_
        refine AllReadyH.cons (by simp only [List.getElem?_toArray, List.getElem?_cons_succ, List.getElem?_cons_zero]; exact rfl) (fun K hK => ?_) AllReadyH.nil
        go_simp
        obtain ⟨hbx, hn2⟩ := lit2 wd 2 (z : Int) (y : Int) hNl
        generalize hW : wd.alloc (.cells #[.int .i64 (z : Int), .int .i64 (y : Int)] 2) = wn at hbx hn2 ⊢
        clear hW
        obtain ⟨n2, hn2e⟩ : ∃ n, n = wd.heap.size := ⟨_, rfl⟩
        rw [← hn2e] at hn2 ⊢
        have hqd := hqd.trans (hbx.mono hBd)
        have hud := hud.below hbx (Nat.le_refl _)
        have hsd := hsd.offBelow hbx
        have hvd := hvd.below hbx (Nat.le_refl _)
        have hSbd : Off1 wn (.slice oa F.length oc) b := ⟨Nat.lt_of_lt_of_le hSbd.1 hbx.size, hSbd.2⟩
        have hSrd : Off1 wn (.slice oa F.length oc) rb := ⟨Nat.lt_of_lt_of_le hSrd.1 hbx.size, hSrd.2⟩
        have hBd := Nat.le_trans hBd hbx.size
        have hNl := Nat.le_trans hNl hbx.size
        have d0 := (hbx.cell (cell_lt d0)).trans d0
        have d1 := (hbx.cell (cell_lt d1)).trans d1
        have d2 := (hbx.cell (cell_lt d2)).trans d2
        try (have hn1 := hn1.below hbx (Nat.le_refl _))
        clear hn2e
        obtain ⟨wd, rfl⟩ : ∃ wx : World, wx = wn := ⟨_, rfl⟩
        try dsimp only
        refine hK.out _ _ ?h29 (fun hHeld => ?_)
        case h29 => first | exact ⟨‹_›, ‹_›, ‹_›⟩ | assumption | (simp [*, go_sem])
        clear hK K
        try simp only [Act.put, List.setIfInBounds_toArray, List.set_cons_zero, List.set_cons_succ]
        refine wpAnyH_ready (rs := [27]) (by kernel_rfl) (by simp) ?_
        refine AllReadyH.cons (by simp only [List.getElem?_toArray, List.getElem?_cons_succ, List.getElem?_cons_zero]; exact rfl) (fun K hK => ?_) AllReadyH.nil
        go_simp
        have hbb : Below wd.heap.size wd (wd.alloc (.cells #[.slice (some ⟨n1, 0, none⟩) 2 2, .slice (some ⟨n2, 0, none⟩) 2 2] 26)) := (Below.refl _ _).alloc (Nat.le_refl _) _
        have d0 := (hbb.cell (cell_lt d0)).trans d0
        have d1 := (hbb.cell (cell_lt d1)).trans d1
        have d2 := (hbb.cell (cell_lt d2)).trans d2
        obtain ⟨vs, hvl, hown, hrows⟩ := hud
        try dsimp only
        refine hK.out _ _ ?h31 (fun hHeld => ?_)
        case h31 => first | exact ⟨‹_›, ‹_›, ‹_›⟩ | assumption | (simp [*, go_sem])
        clear hK K
        try simp only [Act.put, List.setIfInBounds_toArray, List.set_cons_zero, List.set_cons_succ]
        refine wpAnyH_ready (rs := [28]) (by kernel_rfl) (by simp) ?_
        refine AllReadyH.cons (by simp only [List.getElem?_toArray, List.getElem?_cons_succ, List.getElem?_cons_zero]; exact rfl) (fun K hK => ?_) AllReadyH.nil
        rw [if_pos (by rfl)]
        refine opWp_append2 elRows _ _ rfl hown rfl rfl rfl rfl rfl (by omega) hBd ?_
        intro o5 w5 hown5 hkept hmv
        have hq5 := hkept.below hqd hBd (fun x hx => (hown.lt x hx).1)
        have d0 := (World.cell?_of_block (a := ⟨b, off + k, none⟩) (hkept.2.2.2.2 b hSbd.1 (fun e => hSbd.2 e.symm))).trans ‹World.cell? wd ⟨b, off + k, none⟩ = _›
        have d1 := (World.cell?_of_block (a := ⟨rb, ro, none⟩) (hkept.2.2.2.2 rb hSrd.1 (fun e => hSrd.2 e.symm))).trans ‹World.cell? wd ⟨rb, ro, none⟩ = _›
        have d2 := (World.cell?_of_block (a := ⟨rb, ro + 1, none⟩) (hkept.2.2.2.2 rb hSrd.1 (fun e => hSrd.2 e.symm))).trans ‹World.cell? wd ⟨rb, ro + 1, none⟩ = _›
        have hu5 : OwnS w5 B 26 o5 (F ++ [[(y : Int), (z : Int)], [(z : Int), (y : Int)]]) := OwnS.app (news := [.slice (some ⟨n1, 0, none⟩) 2 2, .slice (some ⟨n2, 0, none⟩) 2 2]) hvl rfl hrows (fun i hi hi2 => by (match i, hi with | 0, _ => exact hn1.low3S.weak (fun x hx => ⟨Nat.le_trans hBN hx.1, hx.2, fun e => by have := hob x e; have := hx.1; omega⟩) | 1, _ => exact hn2.low3S.weak (fun x hx => ⟨Nat.le_trans hBN hx.1, hx.2, fun e => by have := hob x e; have := hx.1; omega⟩))) hown5 hkept hmv (by simp)
        have hs5 := hsd.offApp hkept hmv (by simp)
        have hv5 : OwnB w5 B 2 (.slice va (bitsI M).length vc) M := Own.kept hvd hkept (fun x hx e => own_typeS hvd hown (by decide) x hx e)
        try dsimp only
        refine hK.out _ _ ?h33 (fun hHeld => ?_)
        case h33 => first | exact ⟨‹_›, ‹_›, ‹_›⟩ | assumption | (simp [*, go_sem])
        clear hK K
        try simp only [Act.put, List.setIfInBounds_toArray, List.set_cons_zero, List.set_cons_succ]
        refine wpAnyH_take (i := 29) (v := ?v34) (by simp only [List.getElem?_toArray, List.getElem?_cons_succ, List.getElem?_cons_zero]; exact rfl) (by kernel_rfl) (by kernel_rfl) (by kernel_rfl) (by intro _ _ _ h; exact h) (Or.inl ⟨by rfl, ?y34⟩) hHeld ?_
        case y34 => (intro w hSw; (try dsimp only at hSw); go_simp; try (with_reducible rfl))
        try simp only [Act.put, List.setIfInBounds_toArray, List.set_cons_zero, List.set_cons_succ]
        refine wpAnyH_done (by kernel_rfl) ?_ _
        go_wp2
        go_roundw
        case rel => exact ⟨k + 1, by omega, by go_num, by rw [HT.out]; exact hu5, hs5, hv5, hq5⟩
        case measure => simp [intOf]; omega
      case b26_26 =>
        go_simp
        obtain ⟨hbx, hn2⟩ := lit2 wd 2 (z : Int) (y : Int) hNl
        generalize hW : wd.alloc (.cells #[.int .i64 (z : Int), .int .i64 (y : Int)] 2) = wn at hbx hn2 ⊢
        clear hW
        obtain ⟨n2, hn2e⟩ : ∃ n, n = wd.heap.size := ⟨_, rfl⟩
        rw [← hn2e] at hn2 ⊢
        have hqd := hqd.trans (hbx.mono hBd)
        have hud := hud.below hbx (Nat.le_refl _)
        have hsd := hsd.offBelow hbx
        have hvd := hvd.below hbx (Nat.le_refl _)
        have hSbd : Off1 wn (.slice oa F.length oc) b := ⟨Nat.lt_of_lt_of_le hSbd.1 hbx.size, hSbd.2⟩
        have hSrd : Off1 wn (.slice oa F.length oc) rb := ⟨Nat.lt_of_lt_of_le hSrd.1 hbx.size, hSrd.2⟩
        have hBd := Nat.le_trans hBd hbx.size
        have hNl := Nat.le_trans hNl hbx.size
        have d0 := (hbx.cell (cell_lt d0)).trans d0
        have d1 := (hbx.cell (cell_lt d1)).trans d1
        have d2 := (hbx.cell (cell_lt d2)).trans d2
        try (have hn1 := hn1.below hbx (Nat.le_refl _))
        clear hn2e
        obtain ⟨wd, rfl⟩ : ∃ wx : World, wx = wn := ⟨_, rfl⟩
        try dsimp only
        refine hK.out _ _ ?h35 (fun hHeld => ?_)
        case h35 => first | exact ⟨‹_›, ‹_›, ‹_›⟩ | assumption | (simp [*, go_sem])
        clear hK K
        try simp only [Act.put, List.setIfInBounds_toArray, List.set_cons_zero, List.set_cons_succ]
        refine wpAnyH_ready (rs := [13]) (by kernel_rfl) (by simp) ?_
        refine AllReadyH.cons (by simp only [List.getElem?_toArray, List.getElem?_cons_succ, List.getElem?_cons_zero]; exact rfl) (fun K hK => ?_) AllReadyH.nil
        go_simp
        obtain ⟨hbx, hn1⟩ := lit2 wd 2 (y : Int) (z : Int) hNl
        generalize hW : wd.alloc (.cells #[.int .i64 (y : Int), .int .i64 (z : Int)] 2) = wn at hbx hn1 ⊢
        clear hW
        obtain ⟨n1, hn1e⟩ : ∃ n, n = wd.heap.size := ⟨_, rfl⟩
        rw [← hn1e] at hn1 ⊢
        have hqd := hqd.trans (hbx.mono hBd)
        have hud := hud.below hbx (Nat.le_refl _)
        have hsd := hsd.offBelow hbx
        have hvd := hvd.below hbx (Nat.le_refl _)
        have hSbd : Off1 wn (.slice oa F.length oc) b := ⟨Nat.lt_of_lt_of_le hSbd.1 hbx.size, hSbd.2⟩
        have hSrd : Off1 wn (.slice oa F.length oc) rb := ⟨Nat.lt_of_lt_of_le hSrd.1 hbx.size, hSrd.2⟩
        have hBd := Nat.le_trans hBd hbx.size
        have hNl := Nat.le_trans hNl hbx.size
        have d0 := (hbx.cell (cell_lt d0)).trans d0
        have d1 := (hbx.cell (cell_lt d1)).trans d1
        have d2 := (hbx.cell (cell_lt d2)).trans d2
        try (have hn2 := hn2.below hbx (Nat.le_refl _))
        clear hn1e
        obtain ⟨wd, rfl⟩ : ∃ wx : World, wx = wn := ⟨_, rfl⟩
        try dsimp only
        refine hK.out _ _ ?h37 (fun hHeld => ?_)
        case h37 => first | exact ⟨‹_›, ‹_›, ‹_›⟩ | assumption | (simp [*, go_sem])
        clear hK K
        try simp only [Act.put, List.setIfInBounds_toArray, List.set_cons_zero, List.set_cons_succ]
        refine wpAnyH_ready (rs := [27]) (by kernel_rfl) (by simp) ?_
        refine AllReadyH.cons (by simp only [List.getElem?_toArray, List.getElem?_cons_succ, List.getElem?_cons_zero]; exact rfl) (fun K hK => ?_) AllReadyH.nil
        go_simp
        have hbb : Below wd.heap.size wd (wd.alloc (.cells #[.slice (some ⟨n1, 0, none⟩) 2 2, .slice (some ⟨n2, 0, none⟩) 2 2] 26)) := (Below.refl _ _).alloc (Nat.le_refl _) _
        have d0 := (hbb.cell (cell_lt d0)).trans d0
        have d1 := (hbb.cell (cell_lt d1)).trans d1
        have d2 := (hbb.cell (cell_lt d2)).trans d2
        obtain ⟨vs, hvl, hown, hrows⟩ := hud
        try dsimp only
        refine hK.out _ _ ?h39 (fun hHeld => ?_)
        case h39 => first | exact ⟨‹_›, ‹_›, ‹_›⟩ | assumption | (simp [*, go_sem])
        clear hK K
        try simp only [Act.put, List.setIfInBounds_toArray, List.set_cons_zero, List.set_cons_succ]
        refine wpAnyH_ready (rs := [28]) (by kernel_rfl) (by simp) ?_
        refine AllReadyH.cons (by simp only [List.getElem?_toArray, List.getElem?_cons_succ, List.getElem?_cons_zero]; exact rfl) (fun K hK => ?_) AllReadyH.nil
        rw [if_pos (by rfl)]
        refine opWp_append2 elRows _ _ rfl hown rfl rfl rfl rfl rfl (by omega) hBd ?_
        intro o5 w5 hown5 hkept hmv
        have hq5 := hkept.below hqd hBd (fun x hx => (hown.lt x hx).1)
        have d0 := (World.cell?_of_block (a := ⟨b, off + k, none⟩) (hkept.2.2.2.2 b hSbd.1 (fun e => hSbd.2 e.symm))).trans ‹World.cell? wd ⟨b, off + k, none⟩ = _›
        have d1 := (World.cell?_of_block (a := ⟨rb, ro, none⟩) (hkept.2.2.2.2 rb hSrd.1 (fun e => hSrd.2 e.symm))).trans ‹World.cell? wd ⟨rb, ro, none⟩ = _›
        have d2 := (World.cell?_of_block (a := ⟨rb, ro + 1, none⟩) (hkept.2.2.2.2 rb hSrd.1 (fun e => hSrd.2 e.symm))).trans ‹World.cell? wd ⟨rb, ro + 1, none⟩ = _›
        have hu5 : OwnS w5 B 26 o5 (F ++ [[(y : Int), (z : Int)], [(z : Int), (y : Int)]]) := OwnS.app (news := [.slice (some ⟨n1, 0, none⟩) 2 2, .slice (some ⟨n2, 0, none⟩) 2 2]) hvl rfl hrows (fun i hi hi2 => by (match i, hi with | 0, _ => exact hn1.low3S.weak (fun x hx => ⟨Nat.le_trans hBN hx.1, hx.2, fun e => by have := hob x e; have := hx.1; omega⟩) | 1, _ => exact hn2.low3S.weak (fun x hx => ⟨Nat.le_trans hBN hx.1, hx.2, fun e => by have := hob x e; have := hx.1; omega⟩))) hown5 hkept hmv (by simp)
        have hs5 := hsd.offApp hkept hmv (by simp)
        have hv5 : OwnB w5 B 2 (.slice va (bitsI M).length vc) M := Own.kept hvd hkept (fun x hx e => own_typeS hvd hown (by decide) x hx e)
        try dsimp only
        refine hK.out _ _ ?h41 (fun hHeld => ?_)
        case h41 => first | exact ⟨‹_›, ‹_›, ‹_›⟩ | assumption | (simp [*, go_sem])
        clear hK K
        try simp only [Act.put, List.setIfInBounds_toArray, List.set_cons_zero, List.set_cons_succ]
        refine wpAnyH_take (i := 29) (v := ?v42) (by simp only [List.getElem?_toArray, List.getElem?_cons_succ, List.getElem?_cons_zero]; exact rfl) (by kernel_rfl) (by kernel_rfl) (by kernel_rfl) (by intro _ _ _ h; exact h) (Or.inl ⟨by rfl, ?y42⟩) hHeld ?_
        case y42 => (intro w hSw; (try dsimp only at hSw); go_simp; try (with_reducible rfl))
        try simp only [Act.put, List.setIfInBounds_toArray, List.set_cons_zero, List.set_cons_succ]
        refine wpAnyH_done (by kernel_rfl) ?_ _
        go_wp2
        go_roundw
        case rel => exact ⟨k + 1, by omega, by go_num, by rw [HT.out]; exact hu5, hs5, hv5, hq5⟩
        case measure => simp [intOf]; omega
end Go.Proofs.Ytklnjpdpinccoaa
