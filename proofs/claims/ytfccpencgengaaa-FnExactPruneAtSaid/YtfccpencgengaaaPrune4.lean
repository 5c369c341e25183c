/- PrunesOk of the reference and of the program; the law. -/
import Derived.Test.YtfccpencgengaaaPrune2
import Derived.Test.YtfccpencgengaaaPrune3
namespace Go.Proofs.Ytfccpencgengaaa
open Go.RowKit
noncomputable def prunesB (g : List (List Int)) (t : List Tri) : Bool := gokB g && decide (t.length ≤ 16) && pruneB (netsL g) (firstN g.length) t
theorem rangeI_bitsP {n : Nat} (hn : n ≤ 16) : rangeI n = bitsI (firstN n) := by
  have hf : firstN n < 4294967296 := by have := firstN_lt hn; omega
  refine sorted_ext (rangeI_sorted n) (bitsI_sorted _) fun x => ?_
  rw [mem_rangeI, mem_bits_firstN hn]
set_option maxRecDepth 100000 in
set_option maxHeartbeats 4000000 in
theorem specPrunesOk_any {S S' : Nat → Prop} {v u : Value} {g : List (List Int)} {t : List Tri} {w : World} (hv : SlR S w v g) (hu : SlT S' w u t) :
    Calls Try.prog 9 #[.agg #[v], u] w fun e w' => e = .returned (.bool (prunesB g t)) ∧ Below w.heap.size w w' := by
  have hq0 : Below w.heap.size w (w.alloc (.cells #[v] 29)) := (Below.refl _ _).alloc (Nat.le_refl _) _
  obtain ⟨va, vc, rfl⟩ := hv.slice
  obtain ⟨ua, ub, uo, uc, rfl, hul, hua, hut⟩ := hu
  have hgo := specGraphOk_any _ _ _ (hv.below hq0 (Nat.le_refl _))
  by_cases hgg : gokB g = true
  case neg =>
    have hgg' : gokB g = false := by simpa using hgg
    rw [hgg'] at hgo
    have HE := Lib.hid (show prunesB g t = false by simp [prunesB, hgg'])
    clear hgg hgg'
    go_enter Try.func9, Try.ntmps9
    go_wp2_with (go_at_call 30; refine hgo.mono ?_; rintro e w1 ⟨rfl, hb1⟩)
    go_ret
    exact ⟨ret_bool HE.out.symm, hq0.trans (hb1.mono hq0.size)⟩
  rw [hgg] at hgo
  have hg := gokB_iff.1 hgg
  have h16 := hg.hi
  by_cases hlen : t.length ≤ 16
  case neg =>
    have HE := Lib.hid (show prunesB g t = false by simp [prunesB, hlen])
    have hd : decide ((16 : Int) < (t.length : Int)) = true := by simp; omega
    have hd2 : decide (16 < t.length) = true := by simp; omega
    clear hgg hlen
    go_enter Try.func9, Try.ntmps9
    go_wp2_with (go_at_call 30; refine hgo.mono ?_; rintro e w1 ⟨rfl, hb1⟩)
    go_ret
    exact ⟨ret_bool HE.out.symm, hq0.trans (hb1.mono hq0.size)⟩
  have hE : prunesB g t = pruneB (netsL g) (firstN g.length) t := by simp [prunesB, hgg, hlen]
  rw [hE]
  have hd : decide ((16 : Int) < (t.length : Int)) = false := by simp; omega
  have hd2 : decide (16 < t.length) = false := by simp; omega
  have HI := Lib.hid (PrI.start hg)
  have hnl : (netsL g).length = g.length := netsL_len g
  have HNL := Lib.hid hnl
  clear hgg hE hnl
  go_enter Try.func9, Try.ntmps9
  go_wp2_with (first | (go_at_call 30; refine hgo.mono ?_; rintro e w1 ⟨rfl, hb1⟩; have hq1 := hq0.trans (hb1.mono hq0.size); have cg1 : w1.cell? ⟨w.heap.size, 0, none⟩ = some (.slice va g.length vc) := (hb1.cell (p := ⟨w.heap.size, 0, none⟩) (by simp)).trans (by simp [go_sem])) | (go_at_call 31; refine (l16All_any _ _ _ (hv.below hq1 (Nat.le_refl _)) (by omega)).mono ?_; rintro e w2 ⟨u2, rfl, hu2, hb2⟩; have hq2 := hq1.trans (hb2.mono hq1.size); have cg2 := (hb2.cell (cell_lt cg1)).trans cg1))
  clear hgo
  have hl2 : SlI (fun _ => True) w2 .i64 u2 (bitsI (firstN g.length)) := by
    rw [← rangeI_bitsP h16]
    exact (Own.ints (xs := rangeI g.length) hu2 (by omega)).weak (fun _ _ => trivial)
  go_loopw [5, 6] (fun o i wr => ∃ (k s : Nat), k ≤ t.length ∧ i = .int .i64 k ∧ SlI (fun _ => True) wr .i64 o (bitsI s) ∧ RowKit.Hid (PrI (netsL g) s g.length) ∧ RowKit.Hid (pruneB (netsL g) (firstN g.length) t = pruneB (netsL g) s (t.drop k)) ∧ Below w.heap.size w wr ∧ wr.cell? ⟨w.heap.size, 0, none⟩ = some (.slice va g.length vc)) (fun _ i _ => t.length - (intOf i).toNat)
  case atStart => exact ⟨0, firstN g.length, Nat.zero_le _, rfl, hl2, HI, Lib.hid rfl, hq2, cg2⟩
  case round =>
    clear hl2 hq2 cg2 hu2 hb2 hq1 cg1 hb1
    obtain ⟨k, s, hk, rfl, hl, HS, HP, hq, cg⟩ := hrel
    have hs32 := HS.out.s32
    obtain ⟨la, lc, rfl⟩ := hl.slice
    by_cases hlt : k < t.length
    case neg =>
      obtain rfl : k = t.length := by omega
      go_wp2
      go_ret
      exact ⟨ret_bool (by rw [HP.out, pruneB_end]), hq⟩
    obtain ⟨c0, c1, c2⟩ := hut k hlt
    obtain ⟨rfl, -⟩ := hua (by omega)
    have hmiss := fun h => pruneB_miss (a := netsL g) (s := s) hlt h
    have hstep := fun h => pruneB_step (a := netsL g) (s := s) hlt h
    generalize t[k] = p at c0 c1 c2 hmiss hstep
    obtain ⟨x, y, kk⟩ := p
    simp only at c0 c1 c2 hmiss hstep
    have t0 := (hq.cell (p := ⟨ub, uo + k * 3, none⟩) (cell_lt c0)).trans c0
    have t1 := (hq.cell (p := ⟨ub, uo + k * 3 + 1, none⟩) (cell_lt c1)).trans c1
    have t2 := (hq.cell (p := ⟨ub, uo + k * 3 + 2, none⟩) (cell_lt c2)).trans c2
    have hlc := hl.below ((Below.refl wr.heap.size wr).drew) (Nat.le_refl _)
    have hhas := l1Has_any _ _ x _ hlc
    by_cases hin : x ∈ bitsI s
    case neg =>
      have hB : (inB x 0 (((netsL g).length : Int) - 1) && s.testBit x.toNat && goesB (netsL g) s x.toNat y kk) = false := by
        have h2 := mt (mem_bitsI hs32).2 hin
        by_cases h0 : 0 ≤ x
        · cases h : s.testBit x.toNat
          · simp
          · exact absurd ⟨h0, h⟩ h2
        · have : inB x 0 (((netsL g).length : Int) - 1) = false := by simp [inB, h0]
          rw [this]; simp
      have HM := Lib.hid (hmiss hB)
      rw [decide_eq_false hin] at hhas
      clear hin hB hmiss hstep
      go_wp2
      refine wp_region_held_drew (S := (fun w' => w'.cell? ⟨w.heap.size, 0, none⟩ = some (.slice va g.length vc) ∧ w'.cell? ⟨ub, uo + k * 3, none⟩ = some (.int .i64 x))) (by kernel_rfl) ?_ (fun hHeld => ?_)
      · first | exact ⟨‹_›, ‹_›⟩ | assumption | (simp [*, go_sem])
      have hqc := hq.drew
      generalize wr.drew = wd at hqc hHeld hhas hlc ⊢
      have hHeld2 := hHeld
      obtain ⟨cgd, t0d⟩ := hHeld2
      refine wpAnyH_take (i := 0) (v := ?v1) (by simp only [List.getElem?_toArray, List.getElem?_cons_zero]; exact rfl) (by kernel_rfl) (by kernel_rfl) (by kernel_rfl) (by intro _ _ _ h; exact h) (Or.inl ⟨by rfl, ?y1⟩) hHeld ?_
      case y1 => (intro w hSw; (try dsimp only at hSw); go_simp; try (with_reducible rfl))
      try simp only [Act.put, List.setIfInBounds_toArray, List.set_cons_zero, List.set_cons_succ]
      refine wpAnyH_take (i := 1) (v := ?v2) (by simp only [List.getElem?_toArray, List.getElem?_cons_succ, List.getElem?_cons_zero]; exact rfl) (by kernel_rfl) (by kernel_rfl) (by kernel_rfl) (by intro _ _ _ h; exact h) (Or.inl ⟨by rfl, ?y2⟩) hHeld ?_
      case y2 => (intro w hSw; (try dsimp only at hSw); go_simp; try (with_reducible rfl))
      try simp only [Act.put, List.setIfInBounds_toArray, List.set_cons_zero, List.set_cons_succ]
      refine wpAnyH_take (i := 2) (v := ?v3) (by simp only [List.getElem?_toArray, List.getElem?_cons_succ, List.getElem?_cons_zero]; exact rfl) (by kernel_rfl) (by kernel_rfl) (by kernel_rfl) (by intro _ _ _ h; exact h) (Or.inl ⟨by rfl, ?y3⟩) hHeld ?_
      case y3 => (intro w hSw; (try dsimp only at hSw); go_simp; try (with_reducible rfl))
      try simp only [Act.put, List.setIfInBounds_toArray, List.set_cons_zero, List.set_cons_succ]
      refine wpAnyH_take (i := 3) (v := ?v4) (by simp only [List.getElem?_toArray, List.getElem?_cons_succ, List.getElem?_cons_zero]; exact rfl) (by kernel_rfl) (by kernel_rfl) (by kernel_rfl) (by intro _ _ _ h; exact h) (Or.inl ⟨by rfl, ?y4⟩) hHeld ?_
      case y4 => (intro w hSw; (try dsimp only at hSw); go_simp; try (with_reducible rfl))
      try simp only [Act.put, List.setIfInBounds_toArray, List.set_cons_zero, List.set_cons_succ]
      refine wpAnyH_take (i := 4) (v := ?v5) (by simp only [List.getElem?_toArray, List.getElem?_cons_succ, List.getElem?_cons_zero]; exact rfl) (by kernel_rfl) (by kernel_rfl) (by kernel_rfl) (by intro _ _ _ h; exact h) (Or.inl ⟨by rfl, ?y5⟩) hHeld ?_
      case y5 => (intro w hSw; (try dsimp only at hSw); go_simp; try (with_reducible rfl))
      try simp only [Act.put, List.setIfInBounds_toArray, List.set_cons_zero, List.set_cons_succ]
      refine wpAnyH_take (i := 5) (v := ?v6) (by simp only [List.getElem?_toArray, List.getElem?_cons_succ, List.getElem?_cons_zero]; exact rfl) (by kernel_rfl) (by kernel_rfl) (by kernel_rfl) (by intro _ _ _ h; exact h) (Or.inl ⟨by rfl, ?y6⟩) hHeld ?_
      case y6 => (intro w hSw; (try dsimp only at hSw); go_simp; try (with_reducible rfl))
      try simp only [Act.put, List.setIfInBounds_toArray, List.set_cons_zero, List.set_cons_succ]
      refine wpAnyH_ready (rs := [6]) (by kernel_rfl) (by simp) ?_
      refine AllReadyH.cons (by simp only [List.getElem?_toArray, List.getElem?_cons_succ, List.getElem?_cons_zero]; exact rfl) (fun K hK => ?_) AllReadyH.nil
      go_simp
      refine hhas.mono ?_
      rintro e wn ⟨rfl, rfl⟩
      try dsimp only
      refine hK.out _ _ ?h8 (fun hHeld => ?_)
      case h8 => first | exact ⟨‹_›, ‹_›⟩ | assumption | (simp [*, go_sem])
      clear hK K
      try simp only [Act.put, List.setIfInBounds_toArray, List.set_cons_zero, List.set_cons_succ]
      refine wpAnyH_take (i := 7) (v := ?v9) (by simp only [List.getElem?_toArray, List.getElem?_cons_succ, List.getElem?_cons_zero]; exact rfl) (by kernel_rfl) (by kernel_rfl) (by kernel_rfl) (by intro _ _ _ h; exact h) (Or.inl ⟨by rfl, ?y9⟩) hHeld ?_
      case y9 => (intro w hSw; (try dsimp only at hSw); go_simp; try (with_reducible rfl))
      try simp only [Act.put, List.setIfInBounds_toArray, List.set_cons_zero, List.set_cons_succ]
      refine wpAnyH_take (i := 8) (v := ?v10) (by simp only [List.getElem?_toArray, List.getElem?_cons_succ, List.getElem?_cons_zero]; exact rfl) (by kernel_rfl) (by kernel_rfl) (by kernel_rfl) (by intro _ _ _ h; exact h) (Or.inl ⟨by rfl, ?y10⟩) hHeld ?_
      case y10 => (intro w hSw; (try dsimp only at hSw); go_simp; try (with_reducible rfl))
      try simp only [Act.put, List.setIfInBounds_toArray, List.set_cons_zero, List.set_cons_succ]
      refine wpAnyH_take (i := 9) (by simp only [List.getElem?_toArray, List.getElem?_cons_succ, List.getElem?_cons_zero]; exact rfl) (by kernel_rfl) (by kernel_rfl) (by kernel_rfl) (by intro _ _ _ h; exact h) (Or.inr ⟨by rfl, rfl⟩) hHeld ?_
      try simp only [Act.put, List.setIfInBounds_toArray, List.set_cons_zero, List.set_cons_succ]
      refine wpAnyH_take (i := 10) (by simp only [List.getElem?_toArray, List.getElem?_cons_succ, List.getElem?_cons_zero]; exact rfl) (by kernel_rfl) (by kernel_rfl) (by kernel_rfl) (by intro _ _ _ h; exact h) (Or.inr ⟨by rfl, rfl⟩) hHeld ?_
      try simp only [Act.put, List.setIfInBounds_toArray, List.set_cons_zero, List.set_cons_succ]
      refine wpAnyH_take (i := 11) (by simp only [List.getElem?_toArray, List.getElem?_cons_succ, List.getElem?_cons_zero]; exact rfl) (by kernel_rfl) (by kernel_rfl) (by kernel_rfl) (by intro _ _ _ h; exact h) (Or.inr ⟨by rfl, rfl⟩) hHeld ?_
      try simp only [Act.put, List.setIfInBounds_toArray, List.set_cons_zero, List.set_cons_succ]
      refine wpAnyH_take (i := 12) (by simp only [List.getElem?_toArray, List.getElem?_cons_succ, List.getElem?_cons_zero]; exact rfl) (by kernel_rfl) (by kernel_rfl) (by kernel_rfl) (by intro _ _ _ h; exact h) (Or.inr ⟨by rfl, rfl⟩) hHeld ?_
      try simp only [Act.put, List.setIfInBounds_toArray, List.set_cons_zero, List.set_cons_succ]
      refine wpAnyH_take (i := 13) (by simp only [List.getElem?_toArray, List.getElem?_cons_succ, List.getElem?_cons_zero]; exact rfl) (by kernel_rfl) (by kernel_rfl) (by kernel_rfl) (by intro _ _ _ h; exact h) (Or.inr ⟨by rfl, rfl⟩) hHeld ?_
      try simp only [Act.put, List.setIfInBounds_toArray, List.set_cons_zero, List.set_cons_succ]
      refine wpAnyH_take (i := 14) (by simp only [List.getElem?_toArray, List.getElem?_cons_succ, List.getElem?_cons_zero]; exact rfl) (by kernel_rfl) (by kernel_rfl) (by kernel_rfl) (by intro _ _ _ h; exact h) (Or.inr ⟨by rfl, rfl⟩) hHeld ?_
      try simp only [Act.put, List.setIfInBounds_toArray, List.set_cons_zero, List.set_cons_succ]
      refine wpAnyH_take (i := 15) (by simp only [List.getElem?_toArray, List.getElem?_cons_succ, List.getElem?_cons_zero]; exact rfl) (by kernel_rfl) (by kernel_rfl) (by kernel_rfl) (by intro _ _ _ h; exact h) (Or.inr ⟨by rfl, rfl⟩) hHeld ?_
      try simp only [Act.put, List.setIfInBounds_toArray, List.set_cons_zero, List.set_cons_succ]
      refine wpAnyH_take (i := 16) (by simp only [List.getElem?_toArray, List.getElem?_cons_succ, List.getElem?_cons_zero]; exact rfl) (by kernel_rfl) (by kernel_rfl) (by kernel_rfl) (by intro _ _ _ h; exact h) (Or.inr ⟨by rfl, rfl⟩) hHeld ?_
      try simp only [Act.put, List.setIfInBounds_toArray, List.set_cons_zero, List.set_cons_succ]
      refine wpAnyH_take (i := 17) (v := ?v19) (by simp only [List.getElem?_toArray, List.getElem?_cons_succ, List.getElem?_cons_zero]; exact rfl) (by kernel_rfl) (by kernel_rfl) (by kernel_rfl) (by intro _ _ _ h; exact h) (Or.inl ⟨by rfl, ?y19⟩) hHeld ?_
      case y19 => (intro w hSw; (try dsimp only at hSw); go_simp; try (with_reducible rfl))
      try simp only [Act.put, List.setIfInBounds_toArray, List.set_cons_zero, List.set_cons_succ]
      refine wpAnyH_done (by kernel_rfl) ?_ _
      all_goals
        go_wp2
        go_ret
        exact ⟨ret_bool (by rw [HP.out]; exact HM.out.symm), hqc⟩
    have hin2 := (mem_bitsI hs32).1 hin
    obtain ⟨j, rfl⟩ := Int.eq_ofNat_of_zero_le hin2.1
    rw [Int.toNat_natCast] at hin2
    have hsj := hin2.2
    have hjn := bit_lt_of HS.out.left hsj
    rw [decide_eq_true hin] at hhas
    have hib : inB (j : Int) 0 (((netsL g).length : Int) - 1) = true := by
      have := HNL.out
      simp only [inB, Bool.and_eq_true, decide_eq_true_eq]; omega
    rw [Int.toNat_natCast, hib, hsj, Bool.true_and, Bool.true_and] at hmiss hstep
    have hgoes := fun (W : World) (hb : Below w.heap.size w W) (hl : SlI (fun _ => True) W .i64 (.slice la (bitsI s).length lc) (bitsI s)) => l18Goes_any (y := y) (k := kk) hg (hv.below hb (Nat.le_refl _)) hl HS.out.left hsj
    unfold triV at hgoes
    by_cases hG : goesB (netsL g) s j y kk = true
    case neg =>
      have hG' : goesB (netsL g) s j y kk = false := by simpa using hG
      have HM := Lib.hid (hmiss hG')
      rw [hG'] at hgoes
      clear hin hmiss hstep hG hG' hin2 hsj hib
      go_wp2
      refine wp_region_held_drew (S := (fun w' => w'.cell? ⟨w.heap.size, 0, none⟩ = some (.slice va g.length vc) ∧ w'.cell? ⟨ub, uo + k * 3, none⟩ = some (.int .i64 j) ∧ w'.cell? ⟨ub, uo + k * 3 + 1, none⟩ = some (.int .i64 y) ∧ w'.cell? ⟨ub, uo + k * 3 + 2, none⟩ = some (.int .i64 kk))) (by kernel_rfl) ?_ (fun hHeld => ?_)
      · first | exact ⟨‹_›, ‹_›, ‹_›, ‹_›⟩ | assumption | (simp [*, go_sem])
      have hqc := hq.drew
      generalize wr.drew = wd at hqc hHeld hhas hlc ⊢
      have hHeld2 := hHeld
      obtain ⟨cgd, t0d, t1d, t2d⟩ := hHeld2
      refine wpAnyH_take (i := 0) (v := ?v20) (by simp only [List.getElem?_toArray, List.getElem?_cons_zero]; exact rfl) (by kernel_rfl) (by kernel_rfl) (by kernel_rfl) (by intro _ _ _ h; exact h) (Or.inl ⟨by rfl, ?y20⟩) hHeld ?_
      case y20 => (intro w hSw; (try dsimp only at hSw); go_simp; try (with_reducible rfl))
      try simp only [Act.put, List.setIfInBounds_toArray, List.set_cons_zero, List.set_cons_succ]
      refine wpAnyH_take (i := 1) (v := ?v21) (by simp only [List.getElem?_toArray, List.getElem?_cons_succ, List.getElem?_cons_zero]; exact rfl) (by kernel_rfl) (by kernel_rfl) (by kernel_rfl) (by intro _ _ _ h; exact h) (Or.inl ⟨by rfl, ?y21⟩) hHeld ?_
      case y21 => (intro w hSw; (try dsimp only at hSw); go_simp; try (with_reducible rfl))
      try simp only [Act.put, List.setIfInBounds_toArray, List.set_cons_zero, List.set_cons_succ]
      refine wpAnyH_take (i := 2) (v := ?v22) (by simp only [List.getElem?_toArray, List.getElem?_cons_succ, List.getElem?_cons_zero]; exact rfl) (by kernel_rfl) (by kernel_rfl) (by kernel_rfl) (by intro _ _ _ h; exact h) (Or.inl ⟨by rfl, ?y22⟩) hHeld ?_
      case y22 => (intro w hSw; (try dsimp only at hSw); go_simp; try (with_reducible rfl))
      try simp only [Act.put, List.setIfInBounds_toArray, List.set_cons_zero, List.set_cons_succ]
      refine wpAnyH_take (i := 3) (v := ?v23) (by simp only [List.getElem?_toArray, List.getElem?_cons_succ, List.getElem?_cons_zero]; exact rfl) (by kernel_rfl) (by kernel_rfl) (by kernel_rfl) (by intro _ _ _ h; exact h) (Or.inl ⟨by rfl, ?y23⟩) hHeld ?_
      case y23 => (intro w hSw; (try dsimp only at hSw); go_simp; try (with_reducible rfl))
      try simp only [Act.put, List.setIfInBounds_toArray, List.set_cons_zero, List.set_cons_succ]
      refine wpAnyH_take (i := 4) (v := ?v24) (by simp only [List.getElem?_toArray, List.getElem?_cons_succ, List.getElem?_cons_zero]; exact rfl) (by kernel_rfl) (by kernel_rfl) (by kernel_rfl) (by intro _ _ _ h; exact h) (Or.inl ⟨by rfl, ?y24⟩) hHeld ?_
      case y24 => (intro w hSw; (try dsimp only at hSw); go_simp; try (with_reducible rfl))
      try simp only [Act.put, List.setIfInBounds_toArray, List.set_cons_zero, List.set_cons_succ]
      refine wpAnyH_take (i := 5) (v := ?v25) (by simp only [List.getElem?_toArray, List.getElem?_cons_succ, List.getElem?_cons_zero]; exact rfl) (by kernel_rfl) (by kernel_rfl) (by kernel_rfl) (by intro _ _ _ h; exact h) (Or.inl ⟨by rfl, ?y25⟩) hHeld ?_
      case y25 => (intro w hSw; (try dsimp only at hSw); go_simp; try (with_reducible rfl))
      try simp only [Act.put, List.setIfInBounds_toArray, List.set_cons_zero, List.set_cons_succ]
      refine wpAnyH_ready (rs := [6]) (by kernel_rfl) (by simp) ?_
      refine AllReadyH.cons (by simp only [List.getElem?_toArray, List.getElem?_cons_succ, List.getElem?_cons_zero]; exact rfl) (fun K hK => ?_) AllReadyH.nil
      go_simp
      refine hhas.mono ?_
      rintro e wn ⟨rfl, rfl⟩
      try dsimp only
      refine hK.out _ _ ?h27 (fun hHeld => ?_)
      case h27 => first | exact ⟨‹_›, ‹_›, ‹_›, ‹_›⟩ | assumption | (simp [*, go_sem])
      clear hK K
      try simp only [Act.put, List.setIfInBounds_toArray, List.set_cons_zero, List.set_cons_succ]
      refine wpAnyH_take (i := 7) (v := ?v28) (by simp only [List.getElem?_toArray, List.getElem?_cons_succ, List.getElem?_cons_zero]; exact rfl) (by kernel_rfl) (by kernel_rfl) (by kernel_rfl) (by intro _ _ _ h; exact h) (Or.inl ⟨by rfl, ?y28⟩) hHeld ?_
      case y28 => (intro w hSw; (try dsimp only at hSw); go_simp; try (with_reducible rfl))
      try simp only [Act.put, List.setIfInBounds_toArray, List.set_cons_zero, List.set_cons_succ]
      refine wpAnyH_take (i := 8) (v := ?v29) (by simp only [List.getElem?_toArray, List.getElem?_cons_succ, List.getElem?_cons_zero]; exact rfl) (by kernel_rfl) (by kernel_rfl) (by kernel_rfl) (by intro _ _ _ h; exact h) (Or.inl ⟨by rfl, ?y29⟩) hHeld ?_
      case y29 => (intro w hSw; (try dsimp only at hSw); go_simp; try (with_reducible rfl))
      try simp only [Act.put, List.setIfInBounds_toArray, List.set_cons_zero, List.set_cons_succ]
      refine wpAnyH_take (i := 9) (v := ?v30) (by simp only [List.getElem?_toArray, List.getElem?_cons_succ, List.getElem?_cons_zero]; exact rfl) (by kernel_rfl) (by kernel_rfl) (by kernel_rfl) (by intro _ _ _ h; exact h) (Or.inl ⟨by rfl, ?y30⟩) hHeld ?_
      case y30 => (intro w hSw; (try dsimp only at hSw); go_simp; try (with_reducible rfl))
      try simp only [Act.put, List.setIfInBounds_toArray, List.set_cons_zero, List.set_cons_succ]
      refine wpAnyH_take (i := 10) (v := ?v31) (by simp only [List.getElem?_toArray, List.getElem?_cons_succ, List.getElem?_cons_zero]; exact rfl) (by kernel_rfl) (by kernel_rfl) (by kernel_rfl) (by intro _ _ _ h; exact h) (Or.inl ⟨by rfl, ?y31⟩) hHeld ?_
      case y31 => (intro w hSw; (try dsimp only at hSw); go_simp; try (with_reducible rfl))
      try simp only [Act.put, List.setIfInBounds_toArray, List.set_cons_zero, List.set_cons_succ]
      refine wpAnyH_take (i := 11) (v := ?v32) (by simp only [List.getElem?_toArray, List.getElem?_cons_succ, List.getElem?_cons_zero]; exact rfl) (by kernel_rfl) (by kernel_rfl) (by kernel_rfl) (by intro _ _ _ h; exact h) (Or.inl ⟨by rfl, ?y32⟩) hHeld ?_
      case y32 => (intro w hSw; (try dsimp only at hSw); go_simp; try (with_reducible rfl))
      try simp only [Act.put, List.setIfInBounds_toArray, List.set_cons_zero, List.set_cons_succ]
      refine wpAnyH_take (i := 12) (v := ?v33) (by simp only [List.getElem?_toArray, List.getElem?_cons_succ, List.getElem?_cons_zero]; exact rfl) (by kernel_rfl) (by kernel_rfl) (by kernel_rfl) (by intro _ _ _ h; exact h) (Or.inl ⟨by rfl, ?y33⟩) hHeld ?_
      case y33 => (intro w hSw; (try dsimp only at hSw); go_simp; try (with_reducible rfl))
      try simp only [Act.put, List.setIfInBounds_toArray, List.set_cons_zero, List.set_cons_succ]
      refine wpAnyH_take (i := 13) (v := ?v34) (by simp only [List.getElem?_toArray, List.getElem?_cons_succ, List.getElem?_cons_zero]; exact rfl) (by kernel_rfl) (by kernel_rfl) (by kernel_rfl) (by intro _ _ _ h; exact h) (Or.inl ⟨by rfl, ?y34⟩) hHeld ?_
      case y34 => (intro w hSw; (try dsimp only at hSw); go_simp; try (with_reducible rfl))
      try simp only [Act.put, List.setIfInBounds_toArray, List.set_cons_zero, List.set_cons_succ]
      refine wpAnyH_take (i := 14) (v := ?v35) (by simp only [List.getElem?_toArray, List.getElem?_cons_succ, List.getElem?_cons_zero]; exact rfl) (by kernel_rfl) (by kernel_rfl) (by kernel_rfl) (by intro _ _ _ h; exact h) (Or.inl ⟨by rfl, ?y35⟩) hHeld ?_
      case y35 => (intro w hSw; (try dsimp only at hSw); go_simp; try (with_reducible rfl))
      try simp only [Act.put, List.setIfInBounds_toArray, List.set_cons_zero, List.set_cons_succ]
      refine wpAnyH_ready (rs := [15]) (by kernel_rfl) (by simp) ?_
      refine AllReadyH.cons (by simp only [List.getElem?_toArray, List.getElem?_cons_succ, List.getElem?_cons_zero]; exact rfl) (fun K hK => ?_) AllReadyH.nil
      go_simp
      refine (hgoes _ hqc hlc).mono ?_
      rintro e wn ⟨rfl, hbn⟩
      have hqc := hqc.trans (hbn.mono hqc.size)
      have cgd := (hbn.cell (cell_lt cgd)).trans cgd
      have t0d := (hbn.cell (cell_lt t0d)).trans t0d
      have t1d := (hbn.cell (cell_lt t1d)).trans t1d
      have t2d := (hbn.cell (cell_lt t2d)).trans t2d
      have hlc := hlc.below hbn (Nat.le_refl _)
      obtain ⟨wd, rfl⟩ : ∃ wx : World, wx = wn := ⟨_, rfl⟩
      try dsimp only
      refine hK.out _ _ ?h37 (fun hHeld => ?_)
      case h37 => first | exact ⟨‹_›, ‹_›, ‹_›, ‹_›⟩ | assumption | (simp [*, go_sem])
      clear hK K
      try simp only [Act.put, List.setIfInBounds_toArray, List.set_cons_zero, List.set_cons_succ]
      refine wpAnyH_take (i := 16) (v := ?v38) (by simp only [List.getElem?_toArray, List.getElem?_cons_succ, List.getElem?_cons_zero]; exact rfl) (by kernel_rfl) (by kernel_rfl) (by kernel_rfl) (by intro _ _ _ h; exact h) (Or.inl ⟨by rfl, ?y38⟩) hHeld ?_
      case y38 => (intro w hSw; (try dsimp only at hSw); go_simp; try (with_reducible rfl))
      try simp only [Act.put, List.setIfInBounds_toArray, List.set_cons_zero, List.set_cons_succ]
      refine wpAnyH_take (i := 17) (v := ?v39) (by simp only [List.getElem?_toArray, List.getElem?_cons_succ, List.getElem?_cons_zero]; exact rfl) (by kernel_rfl) (by kernel_rfl) (by kernel_rfl) (by intro _ _ _ h; exact h) (Or.inl ⟨by rfl, ?y39⟩) hHeld ?_
      case y39 => (intro w hSw; (try dsimp only at hSw); go_simp; try (with_reducible rfl))
      try simp only [Act.put, List.setIfInBounds_toArray, List.set_cons_zero, List.set_cons_succ]
      refine wpAnyH_done (by kernel_rfl) ?_ _
      all_goals
        go_wp2
        go_ret
        exact ⟨ret_bool (by rw [HP.out]; exact HM.out.symm), hqc⟩
    have HT := Lib.hid (hstep hG)
    rw [hG] at hgoes
    have hless := fun (W : World) (hl : SlI (fun _ => True) W .i64 (.slice la (bitsI s).length lc) (bitsI s)) => l19LessP_any (w := W) (v := j) hl hs32 (by omega)
    clear hin hmiss hstep hG hin2 hsj hib
    go_wp2
    refine wp_region_held_drew (S := (fun w' => w'.cell? ⟨w.heap.size, 0, none⟩ = some (.slice va g.length vc) ∧ w'.cell? ⟨ub, uo + k * 3, none⟩ = some (.int .i64 j) ∧ w'.cell? ⟨ub, uo + k * 3 + 1, none⟩ = some (.int .i64 y) ∧ w'.cell? ⟨ub, uo + k * 3 + 2, none⟩ = some (.int .i64 kk))) (by kernel_rfl) ?_ (fun hHeld => ?_)
    · first | exact ⟨‹_›, ‹_›, ‹_›, ‹_›⟩ | assumption | (simp [*, go_sem])
    have hqc := hq.drew
    generalize wr.drew = wd at hqc hHeld hhas hlc ⊢
    have hHeld2 := hHeld
    obtain ⟨cgd, t0d, t1d, t2d⟩ := hHeld2
    refine wpAnyH_take (i := 0) (v := ?v40) (by simp only [List.getElem?_toArray, List.getElem?_cons_zero]; exact rfl) (by kernel_rfl) (by kernel_rfl) (by kernel_rfl) (by intro _ _ _ h; exact h) (Or.inl ⟨by rfl, ?y40⟩) hHeld ?_
    case y40 => (intro w hSw; (try dsimp only at hSw); go_simp; try (with_reducible rfl))
    try simp only [Act.put, List.setIfInBounds_toArray, List.set_cons_zero, List.set_cons_succ]
    refine wpAnyH_take (i := 1) (v := ?v41) (by simp only [List.getElem?_toArray, List.getElem?_cons_succ, List.getElem?_cons_zero]; exact rfl) (by kernel_rfl) (by kernel_rfl) (by kernel_rfl) (by intro _ _ _ h; exact h) (Or.inl ⟨by rfl, ?y41⟩) hHeld ?_
    case y41 => (intro w hSw; (try dsimp only at hSw); go_simp; try (with_reducible rfl))
    try simp only [Act.put, List.setIfInBounds_toArray, List.set_cons_zero, List.set_cons_succ]
    refine wpAnyH_take (i := 2) (v := ?v42) (by simp only [List.getElem?_toArray, List.getElem?_cons_succ, List.getElem?_cons_zero]; exact rfl) (by kernel_rfl) (by kernel_rfl) (by kernel_rfl) (by intro _ _ _ h; exact h) (Or.inl ⟨by rfl, ?y42⟩) hHeld ?_
    case y42 => (intro w hSw; (try dsimp only at hSw); go_simp; try (with_reducible rfl))
    try simp only [Act.put, List.setIfInBounds_toArray, List.set_cons_zero, List.set_cons_succ]
    refine wpAnyH_take (i := 3) (v := ?v43) (by simp only [List.getElem?_toArray, List.getElem?_cons_succ, List.getElem?_cons_zero]; exact rfl) (by kernel_rfl) (by kernel_rfl) (by kernel_rfl) (by intro _ _ _ h; exact h) (Or.inl ⟨by rfl, ?y43⟩) hHeld ?_
    case y43 => (intro w hSw; (try dsimp only at hSw); go_simp; try (with_reducible rfl))
    try simp only [Act.put, List.setIfInBounds_toArray, List.set_cons_zero, List.set_cons_succ]
    refine wpAnyH_take (i := 4) (v := ?v44) (by simp only [List.getElem?_toArray, List.getElem?_cons_succ, List.getElem?_cons_zero]; exact rfl) (by kernel_rfl) (by kernel_rfl) (by kernel_rfl) (by intro _ _ _ h; exact h) (Or.inl ⟨by rfl, ?y44⟩) hHeld ?_
    case y44 => (intro w hSw; (try dsimp only at hSw); go_simp; try (with_reducible rfl))
    try simp only [Act.put, List.setIfInBounds_toArray, List.set_cons_zero, List.set_cons_succ]
    refine wpAnyH_take (i := 5) (v := ?v45) (by simp only [List.getElem?_toArray, List.getElem?_cons_succ, List.getElem?_cons_zero]; exact rfl) (by kernel_rfl) (by kernel_rfl) (by kernel_rfl) (by intro _ _ _ h; exact h) (Or.inl ⟨by rfl, ?y45⟩) hHeld ?_
    case y45 => (intro w hSw; (try dsimp only at hSw); go_simp; try (with_reducible rfl))
    try simp only [Act.put, List.setIfInBounds_toArray, List.set_cons_zero, List.set_cons_succ]
    refine wpAnyH_ready (rs := [6]) (by kernel_rfl) (by simp) ?_
    refine AllReadyH.cons (by simp only [List.getElem?_toArray, List.getElem?_cons_succ, List.getElem?_cons_zero]; exact rfl) (fun K hK => ?_) AllReadyH.nil
    go_simp
    refine hhas.mono ?_
    rintro e wn ⟨rfl, rfl⟩
    try dsimp only
    refine hK.out _ _ ?h47 (fun hHeld => ?_)
    case h47 => first | exact ⟨‹_›, ‹_›, ‹_›, ‹_›⟩ | assumption | (simp [*, go_sem])
    clear hK K
    try simp only [Act.put, List.setIfInBounds_toArray, List.set_cons_zero, List.set_cons_succ]
    refine wpAnyH_take (i := 7) (v := ?v48) (by simp only [List.getElem?_toArray, List.getElem?_cons_succ, List.getElem?_cons_zero]; exact rfl) (by kernel_rfl) (by kernel_rfl) (by kernel_rfl) (by intro _ _ _ h; exact h) (Or.inl ⟨by rfl, ?y48⟩) hHeld ?_
    case y48 => (intro w hSw; (try dsimp only at hSw); go_simp; try (with_reducible rfl))
    try simp only [Act.put, List.setIfInBounds_toArray, List.set_cons_zero, List.set_cons_succ]
    refine wpAnyH_take (i := 8) (v := ?v49) (by simp only [List.getElem?_toArray, List.getElem?_cons_succ, List.getElem?_cons_zero]; exact rfl) (by kernel_rfl) (by kernel_rfl) (by kernel_rfl) (by intro _ _ _ h; exact h) (Or.inl ⟨by rfl, ?y49⟩) hHeld ?_
    case y49 => (intro w hSw; (try dsimp only at hSw); go_simp; try (with_reducible rfl))
    try simp only [Act.put, List.setIfInBounds_toArray, List.set_cons_zero, List.set_cons_succ]
    refine wpAnyH_take (i := 9) (v := ?v50) (by simp only [List.getElem?_toArray, List.getElem?_cons_succ, List.getElem?_cons_zero]; exact rfl) (by kernel_rfl) (by kernel_rfl) (by kernel_rfl) (by intro _ _ _ h; exact h) (Or.inl ⟨by rfl, ?y50⟩) hHeld ?_
    case y50 => (intro w hSw; (try dsimp only at hSw); go_simp; try (with_reducible rfl))
    try simp only [Act.put, List.setIfInBounds_toArray, List.set_cons_zero, List.set_cons_succ]
    refine wpAnyH_take (i := 10) (v := ?v51) (by simp only [List.getElem?_toArray, List.getElem?_cons_succ, List.getElem?_cons_zero]; exact rfl) (by kernel_rfl) (by kernel_rfl) (by kernel_rfl) (by intro _ _ _ h; exact h) (Or.inl ⟨by rfl, ?y51⟩) hHeld ?_
    case y51 => (intro w hSw; (try dsimp only at hSw); go_simp; try (with_reducible rfl))
    try simp only [Act.put, List.setIfInBounds_toArray, List.set_cons_zero, List.set_cons_succ]
    refine wpAnyH_take (i := 11) (v := ?v52) (by simp only [List.getElem?_toArray, List.getElem?_cons_succ, List.getElem?_cons_zero]; exact rfl) (by kernel_rfl) (by kernel_rfl) (by kernel_rfl) (by intro _ _ _ h; exact h) (Or.inl ⟨by rfl, ?y52⟩) hHeld ?_
    case y52 => (intro w hSw; (try dsimp only at hSw); go_simp; try (with_reducible rfl))
    try simp only [Act.put, List.setIfInBounds_toArray, List.set_cons_zero, List.set_cons_succ]
    refine wpAnyH_take (i := 12) (v := ?v53) (by simp only [List.getElem?_toArray, List.getElem?_cons_succ, List.getElem?_cons_zero]; exact rfl) (by kernel_rfl) (by kernel_rfl) (by kernel_rfl) (by intro _ _ _ h; exact h) (Or.inl ⟨by rfl, ?y53⟩) hHeld ?_
    case y53 => (intro w hSw; (try dsimp only at hSw); go_simp; try (with_reducible rfl))
    try simp only [Act.put, List.setIfInBounds_toArray, List.set_cons_zero, List.set_cons_succ]
    refine wpAnyH_take (i := 13) (v := ?v54) (by simp only [List.getElem?_toArray, List.getElem?_cons_succ, List.getElem?_cons_zero]; exact rfl) (by kernel_rfl) (by kernel_rfl) (by kernel_rfl) (by intro _ _ _ h; exact h) (Or.inl ⟨by rfl, ?y54⟩) hHeld ?_
    case y54 => (intro w hSw; (try dsimp only at hSw); go_simp; try (with_reducible rfl))
    try simp only [Act.put, List.setIfInBounds_toArray, List.set_cons_zero, List.set_cons_succ]
    refine wpAnyH_take (i := 14) (v := ?v55) (by simp only [List.getElem?_toArray, List.getElem?_cons_succ, List.getElem?_cons_zero]; exact rfl) (by kernel_rfl) (by kernel_rfl) (by kernel_rfl) (by intro _ _ _ h; exact h) (Or.inl ⟨by rfl, ?y55⟩) hHeld ?_
    case y55 => (intro w hSw; (try dsimp only at hSw); go_simp; try (with_reducible rfl))
    try simp only [Act.put, List.setIfInBounds_toArray, List.set_cons_zero, List.set_cons_succ]
    refine wpAnyH_ready (rs := [15]) (by kernel_rfl) (by simp) ?_
    refine AllReadyH.cons (by simp only [List.getElem?_toArray, List.getElem?_cons_succ, List.getElem?_cons_zero]; exact rfl) (fun K hK => ?_) AllReadyH.nil
    go_simp
    refine (hgoes _ hqc hlc).mono ?_
    rintro e wn ⟨rfl, hbn⟩
    have hqc := hqc.trans (hbn.mono hqc.size)
    have cgd := (hbn.cell (cell_lt cgd)).trans cgd
    have t0d := (hbn.cell (cell_lt t0d)).trans t0d
    have t1d := (hbn.cell (cell_lt t1d)).trans t1d
    have t2d := (hbn.cell (cell_lt t2d)).trans t2d
    have hlc := hlc.below hbn (Nat.le_refl _)
    obtain ⟨wd, rfl⟩ : ∃ wx : World, wx = wn := ⟨_, rfl⟩
    try dsimp only
    refine hK.out _ _ ?h57 (fun hHeld => ?_)
    case h57 => first | exact ⟨‹_›, ‹_›, ‹_›, ‹_›⟩ | assumption | (simp [*, go_sem])
    clear hK K
    try simp only [Act.put, List.setIfInBounds_toArray, List.set_cons_zero, List.set_cons_succ]
    refine wpAnyH_take (i := 16) (v := ?v58) (by simp only [List.getElem?_toArray, List.getElem?_cons_succ, List.getElem?_cons_zero]; exact rfl) (by kernel_rfl) (by kernel_rfl) (by kernel_rfl) (by intro _ _ _ h; exact h) (Or.inl ⟨by rfl, ?y58⟩) hHeld ?_
    case y58 => (intro w hSw; (try dsimp only at hSw); go_simp; try (with_reducible rfl))
    try simp only [Act.put, List.setIfInBounds_toArray, List.set_cons_zero, List.set_cons_succ]
    refine wpAnyH_take (i := 17) (v := ?v59) (by simp only [List.getElem?_toArray, List.getElem?_cons_succ, List.getElem?_cons_zero]; exact rfl) (by kernel_rfl) (by kernel_rfl) (by kernel_rfl) (by intro _ _ _ h; exact h) (Or.inl ⟨by rfl, ?y59⟩) hHeld ?_
    case y59 => (intro w hSw; (try dsimp only at hSw); go_simp; try (with_reducible rfl))
    try simp only [Act.put, List.setIfInBounds_toArray, List.set_cons_zero, List.set_cons_succ]
    refine wpAnyH_done (by kernel_rfl) ?_ _
    all_goals
      go_wp2_with (go_at_call 34; refine (hless _ hlc).mono ?_; rintro e w4 ⟨x4, rfl, hx4, hb4⟩)
      go_roundw
      case rel => exact ⟨k + 1, andN s (bit j), by omega, by go_num, (OwnB.ints hx4).weak (fun _ _ => trivial), Lib.hid (HS.out.less _), Lib.hid (HP.out.trans HT.out), hqc.trans (hb4.mono hqc.size), (hb4.cell (cell_lt cgd)).trans cgd⟩
      case measure => simp [intOf]; omega
set_option maxRecDepth 100000 in
set_option maxHeartbeats 4000000 in
theorem implPrunesOk_any {S S' : Nat → Prop} {v u : Value} {g : List (List Int)} {t : List Tri} {w : World} (hv : SlR S w v g) (hu : SlT S' w u t) :
    Calls Try.prog 12 #[.agg #[v], u] w fun e w' => e = .returned (.bool (prunesB g t)) ∧ Below w.heap.size w w' := by
  have hq0 : Below w.heap.size w (w.alloc (.cells #[v] 29)) := (Below.refl _ _).alloc (Nat.le_refl _) _
  obtain ⟨va, vc, rfl⟩ := hv.slice
  obtain ⟨ua, ub, uo, uc, rfl, hul, hua, hut⟩ := hu
  have hgo := implGraphOk_any _ _ _ (hv.below hq0 (Nat.le_refl _))
  by_cases hgg : gokB g = true
  case neg =>
    have hgg' : gokB g = false := by simpa using hgg
    rw [hgg'] at hgo
    have HE := Lib.hid (show prunesB g t = false by simp [prunesB, hgg'])
    clear hgg hgg'
    go_enter Try.func12, Try.ntmps12
    go_wp2_with (go_at_call 36; refine hgo.mono ?_; rintro e w1 ⟨rfl, hb1⟩)
    go_ret
    exact ⟨ret_bool HE.out.symm, hq0.trans (hb1.mono hq0.size)⟩
  rw [hgg] at hgo
  have hg := gokB_iff.1 hgg
  have h16 := hg.hi
  by_cases hlen : t.length ≤ 16
  case neg =>
    have HE := Lib.hid (show prunesB g t = false by simp [prunesB, hlen])
    have hd : decide ((16 : Int) < (t.length : Int)) = true := by simp; omega
    have hd2 : decide (16 < t.length) = true := by simp; omega
    clear hgg hlen
    go_enter Try.func12, Try.ntmps12
    go_wp2_with (go_at_call 36; refine hgo.mono ?_; rintro e w1 ⟨rfl, hb1⟩)
    go_ret
    exact ⟨ret_bool HE.out.symm, hq0.trans (hb1.mono hq0.size)⟩
  have hE : prunesB g t = pruneB (netsL g) (firstN g.length) t := by simp [prunesB, hgg, hlen]
  rw [hE]
  have hd : decide ((16 : Int) < (t.length : Int)) = false := by simp; omega
  have hd2 : decide (16 < t.length) = false := by simp; omega
  have HI := Lib.hid (PrI.start hg)
  have HNL := Lib.hid (netsL_len g)
  clear hgg hE
  go_enter Try.func12, Try.ntmps12
  go_wp2_with (first | (go_at_call 36; refine hgo.mono ?_; rintro e w1 ⟨rfl, hb1⟩; have hq1 := hq0.trans (hb1.mono hq0.size); have cg1 : w1.cell? ⟨w.heap.size, 0, none⟩ = some (.slice va g.length vc) := (hb1.cell (p := ⟨w.heap.size, 0, none⟩) (by simp)).trans (by simp [go_sem])) | (go_at_call 37; refine (netsOf_any _ _ _ (hv.below hq1 (Nat.le_refl _)) hg).mono ?_; rintro e w2 ⟨u2, rfl, hu2, hb2⟩; have hq2 := hq1.trans (hb2.mono hq1.size); obtain ⟨na, nc, rfl⟩ := Own.isSlice hu2) | (go_at_call 38; refine (allOf_any _ _ _ _ h16).mono ?_; rintro e w' ⟨rfl, rfl⟩))
  clear hgo
  have hn2 : SlI (fun _ => True) w2 .u32 (.slice na g.length nc) (natsI (netsL g)) := by
    have hu3 := hu2
    rw [← netsL_len g, ← natsI_len] at hu3
    have := (Own.ints (xs := natsI (netsL g)) hu3 (by rw [natsI_len, netsL_len]; omega)).weak (S' := fun _ => True) (fun _ _ => trivial)
    rw [natsI_len, netsL_len] at this
    exact this
  go_loopw [6, 23] (fun o i wr => ∃ (k s : Nat), k ≤ t.length ∧ i = .int .i64 k ∧ o = .int .u32 (s : Int) ∧ RowKit.Hid (PrI (netsL g) s g.length) ∧ RowKit.Hid (pruneB (netsL g) (firstN g.length) t = pruneB (netsL g) s (t.drop k)) ∧ Below w2.heap.size w2 wr) (fun _ i _ => t.length - (intOf i).toNat)
  case atStart => exact ⟨0, firstN g.length, Nat.zero_le _, rfl, rfl, HI, Lib.hid rfl, Below.refl _ _⟩
  case round =>
    obtain ⟨k, s, hk, rfl, rfl, HS, HP, hqr⟩ := hrel
    have hs32 := HS.out.s32
    have hq := hq2.trans (hqr.mono hq2.size)
    by_cases hlt : k < t.length
    case neg =>
      obtain rfl : k = t.length := by omega
      go_wp2
      go_ret
      exact ⟨ret_bool (by rw [HP.out, pruneB_end]), hq⟩
    obtain ⟨c0, c1, c2⟩ := hut k hlt
    obtain ⟨rfl, -⟩ := hua (by omega)
    have hmiss := fun h => pruneB_miss (a := netsL g) (s := s) hlt h
    have hstep := fun h => pruneB_step (a := netsL g) (s := s) hlt h
    generalize t[k] = p at c0 c1 c2 hmiss hstep
    obtain ⟨x, y, kk⟩ := p
    simp only at c0 c1 c2 hmiss hstep
    have t0 := (hq.cell (p := ⟨ub, uo + k * 3, none⟩) (cell_lt c0)).trans c0
    have t1 := (hq.cell (p := ⟨ub, uo + k * 3 + 1, none⟩) (cell_lt c1)).trans c1
    have t2 := (hq.cell (p := ⟨ub, uo + k * 3 + 2, none⟩) (cell_lt c2)).trans c2
    have hbox : Below wr.heap.size wr (wr.alloc (.cells #[.int .i64 x, .int .i64 y, .int .i64 kk] 38)) := (Below.refl _ _).alloc (Nat.le_refl _) _
    have hqb := hq.trans (hbox.mono hq.size)
    have hnb := hn2.below (hqr.trans (hbox.mono hqr.size)) (Nat.le_refl _)
    have hir := inRange_any x 0 ((g.length : Int) - 1) (wr.alloc (.cells #[.int .i64 x, .int .i64 y, .int .i64 kk] 38))
    rw [HNL.out] at hmiss hstep
    by_cases hin : 0 ≤ x ∧ x < g.length
    case neg =>
      have hib : inB x 0 ((g.length : Int) - 1) = false := by simp only [inB, Bool.and_eq_false_iff, decide_eq_false_iff_not]; omega
      rw [hib] at hir
      have HM := Lib.hid (hmiss (by rw [hib]; simp))
      clear hin hib hmiss hstep
      go_wp2_with (go_at_call 39; refine hir.mono ?_; rintro e w' ⟨rfl, rfl⟩)
      go_ret
      exact ⟨ret_bool (by rw [HP.out]; exact HM.out.symm), hqb⟩
    obtain ⟨j, rfl⟩ := Int.eq_ofNat_of_zero_le hin.1
    have hib : inB (j : Int) 0 ((g.length : Int) - 1) = true := by simp only [inB, Bool.and_eq_true, decide_eq_true_eq]; omega
    rw [hib] at hir
    rw [hib, Int.toNat_natCast, Bool.true_and] at hmiss hstep
    have hjn : j < g.length := by omega
    have hhas := has_any s j (wr.alloc (.cells #[.int .i64 j, .int .i64 y, .int .i64 kk] 38)) hs32 (by omega)
    clear hin hib
    by_cases hsj : s.testBit j = true
    case neg =>
      have hsj' : s.testBit j = false := by simpa using hsj
      rw [hsj'] at hhas
      have HM := Lib.hid (hmiss (by rw [hsj']; simp))
      clear hsj hsj' hmiss hstep
      go_wp2_with (first | (go_at_call 39; refine hir.mono ?_; rintro e w' ⟨rfl, rfl⟩) | (go_at_call 40; refine hhas.mono ?_; rintro e w' ⟨rfl, rfl⟩))
      go_ret
      exact ⟨ret_bool (by rw [HP.out]; exact HM.out.symm), hqb⟩
    rw [hsj] at hhas
    have hcan := canPrune_any (y := y) (k := kk) HS.out hnb hjn hsj
    rw [hsj, Bool.true_and] at hmiss hstep
    by_cases hG : goesB (netsL g) s j y kk = true
    case neg =>
      have hG' : goesB (netsL g) s j y kk = false := by simpa using hG
      rw [hG'] at hcan
      have HM := Lib.hid (hmiss hG')
      clear hG hG' hsj hmiss hstep
      go_wp2_with (first | (go_at_call 39; refine hir.mono ?_; rintro e w' ⟨rfl, rfl⟩) | (go_at_call 40; refine hhas.mono ?_; rintro e w' ⟨rfl, rfl⟩) | (go_at_call 41; refine hcan.mono ?_; rintro e w' ⟨rfl, rfl⟩))
      go_ret
      exact ⟨ret_bool (by rw [HP.out]; exact HM.out.symm), hqb⟩
    have HT := Lib.hid (hstep hG)
    rw [hG] at hcan
    have hone := one_any (j : Int) (wr.alloc (.cells #[.int .i64 j, .int .i64 y, .int .i64 kk] 38)) (by omega) (by omega)
    rw [Int.toNat_natCast] at hone
    have han : bits BinOp.andNot IntKind.u32 (s : Int) (bit j : Int) = (andN s (bit j) : Int) := u32_andNot_nat s (bit j) hs32 (bit_lt (by omega))
    clear hG hsj hmiss hstep
    go_wp2_with (first | (go_at_call 39; refine hir.mono ?_; rintro e w' ⟨rfl, rfl⟩) | (go_at_call 40; refine hhas.mono ?_; rintro e w' ⟨rfl, rfl⟩) | (go_at_call 41; refine hcan.mono ?_; rintro e w' ⟨rfl, rfl⟩) | (go_at_call 42; refine hone.mono ?_; rintro e w' ⟨rfl, rfl⟩))
    go_roundw
    case rel => exact ⟨k + 1, andN s (bit j), by omega, by go_num, rfl, Lib.hid (HS.out.less _), Lib.hid (HP.out.trans HT.out), hqr.trans (hbox.mono hqr.size)⟩
    case measure => simp [intOf]; omega
set_option maxHeartbeats 8000000 in
theorem lawPrunesOk_any {S0 S1 : Nat → Prop} (v0 : Value) (g0 : List (List Int)) (v1 : Value) (t1 : List Tri) (w : World) (hv0 : SlR S0 w v0 g0) (hv1 : SlT S1 w v1 t1) :
    Calls Try.prog 3 #[.agg #[v0], v1] w fun e w' => e = .returned (.bool true) ∧ Below w.heap.size w w' := by
  obtain ⟨a0, c0, rfl⟩ := hv0.slice
  obtain ⟨a1, c1, rfl⟩ := hv1.slice
  have q0 : Below w.heap.size w (w.alloc (.cells #[.slice a0 g0.length c0] 24)) := (Below.refl _ _).alloc (Nat.le_refl _) _
  go_enter Try.func3, Try.ntmps3
  go_wp2_with fail
  refine (szGraph_any _ _ _ _ (hv0.below q0 (Nat.le_refl _)) (by omega) (by omega)).mono ?_
  rintro e w1 ⟨r1, rfl, hr1, hs1, hm1, hb1⟩
  have q1 := q0.trans (hb1.mono q0.size)
  have b0_1 : w1.cell? ⟨w.heap.size, 0, none⟩ = some (.slice a0 g0.length c0) := (hb1.cell (p := ⟨w.heap.size, 0, none⟩) (by simp <;> omega)).trans (by simp [go_sem])
  by_cases hneg1 : r1 < 0
  case pos =>
    go_wp2
    go_ret
    exact ⟨rfl, q1⟩
  have hsm0 : SmallR g0 1048576 := hm1 (by omega)
  go_wp2_with fail
  refine (szPruneS_any _ _ _ _ (hv1.below q1 (Nat.le_refl _)) (by omega) (by omega)).mono ?_
  rintro e w2 ⟨r2, rfl, hr2, hs2, hm2, hb2⟩
  have q2 := q1.trans (hb2.mono q1.size)
  have b0_2 : w2.cell? ⟨w.heap.size, 0, none⟩ = some (.slice a0 g0.length c0) := (hb2.cell (p := ⟨w.heap.size, 0, none⟩) (cell_lt b0_1)).trans b0_1
  by_cases hneg2 : r2 < 0
  case pos =>
    go_wp2
    go_ret
    exact ⟨rfl, q2⟩
  have hsm1 : t1.length ≤ 1048576 := by have := hm2 (by omega); omega
  go_wp2_with fail
  refine (toGraph_any _ _ _ (hv0.below q2 (Nat.le_refl _)) hsm0).mono ?_
  rintro e w3 ⟨x3, rfl, hy3, hb3⟩
  have q3 := q2.trans (hb3.mono q2.size)
  have b0_3 : w3.cell? ⟨w.heap.size, 0, none⟩ = some (.slice a0 g0.length c0) := (hb3.cell (p := ⟨w.heap.size, 0, none⟩) (cell_lt b0_2)).trans b0_2
  have y3_3 := hy3
  go_wp2_with fail
  refine (toPruneS_any _ _ _ (hv1.below q3 (Nat.le_refl _)) hsm1).mono ?_
  rintro e w4 ⟨x4, rfl, hy4, hb4⟩
  have q4 := q3.trans (hb4.mono q3.size)
  have b0_4 : w4.cell? ⟨w.heap.size, 0, none⟩ = some (.slice a0 g0.length c0) := (hb4.cell (p := ⟨w.heap.size, 0, none⟩) (cell_lt b0_3)).trans b0_3
  have y3_4 := y3_3.below hb4 (Nat.le_refl _)
  have y4_4 := hy4
  go_wp2_with fail
  refine (specPrunesOk_any y3_4 y4_4).mono ?_
  rintro e w5 ⟨rfl, hb5⟩
  have q5 := q4.trans (hb5.mono q4.size)
  have b0_5 : w5.cell? ⟨w.heap.size, 0, none⟩ = some (.slice a0 g0.length c0) := (hb5.cell (p := ⟨w.heap.size, 0, none⟩) (cell_lt b0_4)).trans b0_4
  have y3_5 := y3_4.below hb5 (Nat.le_refl _)
  have y4_5 := y4_4.below hb5 (Nat.le_refl _)
  go_wp2_with fail
  refine (toGraph_any _ _ _ (hv0.below q5 (Nat.le_refl _)) hsm0).mono ?_
  rintro e w6 ⟨x6, rfl, hy6, hb6⟩
  have q6 := q5.trans (hb6.mono q5.size)
  have b0_6 : w6.cell? ⟨w.heap.size, 0, none⟩ = some (.slice a0 g0.length c0) := (hb6.cell (p := ⟨w.heap.size, 0, none⟩) (cell_lt b0_5)).trans b0_5
  have y3_6 := y3_5.below hb6 (Nat.le_refl _)
  have y4_6 := y4_5.below hb6 (Nat.le_refl _)
  have y6_6 := hy6
  obtain ⟨xa7, xc7, rfl⟩ := y6_6.slice
  have hb7 : Below w6.heap.size w6 (w6.alloc (.cells #[.slice xa7 g0.length xc7] 29)) := (Below.refl _ _).alloc (Nat.le_refl _) _
  have q7 := q6.trans (hb7.mono q6.size)
  have b0_7 := (hb7.cell (p := ⟨w.heap.size, 0, none⟩) (cell_lt b0_6)).trans b0_6
  have y3_7 := y3_6.below hb7 (Nat.le_refl _)
  have y4_7 := y4_6.below hb7 (Nat.le_refl _)
  have y6_7 := y6_6.below hb7 (Nat.le_refl _)
  go_wp2_with fail
  refine (toPruneS_any _ _ _ (hv1.below q7 (Nat.le_refl _)) hsm1).mono ?_
  rintro e w8 ⟨x8, rfl, hy8, hb8⟩
  have q8 := q7.trans (hb8.mono q7.size)
  have b0_8 : w8.cell? ⟨w.heap.size, 0, none⟩ = some (.slice a0 g0.length c0) := (hb8.cell (p := ⟨w.heap.size, 0, none⟩) (by have := cell_lt b0_7; simp at this ⊢; omega)).trans b0_7
  have l7_8 : w8.cell? ⟨w6.heap.size, 0, none⟩ = some (.slice xa7 g0.length xc7) := (hb8.cell (p := ⟨w6.heap.size, 0, none⟩) (by simp)).trans (by simp [go_sem])
  have y3_8 := y3_7.below hb8 (Nat.le_refl _)
  have y4_8 := y4_7.below hb8 (Nat.le_refl _)
  have y6_8 := y6_7.below hb8 (Nat.le_refl _)
  have y8_8 := hy8
  go_wp2_with fail
  refine (implPrunesOk_any y6_8 y8_8).mono ?_
  rintro e w9 ⟨rfl, hb9⟩
  have q9 := q8.trans (hb9.mono q8.size)
  have b0_9 : w9.cell? ⟨w.heap.size, 0, none⟩ = some (.slice a0 g0.length c0) := (hb9.cell (p := ⟨w.heap.size, 0, none⟩) (cell_lt b0_8)).trans b0_8
  have l7_9 : w9.cell? ⟨w6.heap.size, 0, none⟩ = some (.slice xa7 g0.length xc7) := (hb9.cell (p := ⟨w6.heap.size, 0, none⟩) (cell_lt l7_8)).trans l7_8
  have y3_9 := y3_8.below hb9 (Nat.le_refl _)
  have y4_9 := y4_8.below hb9 (Nat.le_refl _)
  have y6_9 := y6_8.below hb9 (Nat.le_refl _)
  have y8_9 := y8_8.below hb9 (Nat.le_refl _)
  go_wp2
  have _tt : True := trivial
  refine wp_region_held_drew (S := (fun w' => w'.cell? ⟨w.heap.size, 0, none⟩ = some (.slice a0 g0.length c0) ∧ w'.cell? ⟨w6.heap.size, 0, none⟩ = some (.slice xa7 g0.length xc7))) (by kernel_rfl) ?_ (fun hHeld => ?_)
  · first | exact ⟨‹_›, ‹_›⟩ | assumption | (simp [*, go_sem])
  refine wpAnyH_take (i := 0) (v := ?v60) (by simp only [List.getElem?_toArray, List.getElem?_cons_zero]; exact rfl) (by kernel_rfl) (by kernel_rfl) (by kernel_rfl) (by intro _ _ _ h; exact h) (Or.inl ⟨by rfl, ?y60⟩) hHeld ?_
  case y60 => (intro w hSw; (try dsimp only at hSw); go_simp; try (with_reducible rfl))
  try simp only [Act.put, List.setIfInBounds_toArray, List.set_cons_zero, List.set_cons_succ]
  refine wpAnyH_take (i := 1) (v := ?v61) (by simp only [List.getElem?_toArray, List.getElem?_cons_succ, List.getElem?_cons_zero]; exact rfl) (by kernel_rfl) (by kernel_rfl) (by kernel_rfl) (by intro _ _ _ h; exact h) (Or.inl ⟨by rfl, ?y61⟩) hHeld ?_
  case y61 => (intro w hSw; (try dsimp only at hSw); go_simp; try (with_reducible rfl))
  try simp only [Act.put, List.setIfInBounds_toArray, List.set_cons_zero, List.set_cons_succ]
  refine wpAnyH_ready (rs := [2]) (by kernel_rfl) (by simp) ?_
  refine AllReadyH.cons (by simp only [List.getElem?_toArray, List.getElem?_cons_succ, List.getElem?_cons_zero]; exact rfl) (fun K hK => ?_) AllReadyH.nil
  go_simp
  have q9d := q9.drew
  refine (toGraph_any _ _ _ (hv0.below q9d (Nat.le_refl _)) hsm0).mono ?_
  rintro e w10 ⟨x10, rfl, hy10, hb10⟩
  have hb10e : Below w9.heap.size w9 w10 := ⟨hb10.os, hb10.tape, hb10.output, hb10.size, hb10.block⟩
  have q10 := q9.trans (hb10e.mono q9.size)
  have b0_10 : w10.cell? ⟨w.heap.size, 0, none⟩ = some (.slice a0 g0.length c0) := (hb10e.cell (p := ⟨w.heap.size, 0, none⟩) (cell_lt b0_9)).trans b0_9
  have l7_10 : w10.cell? ⟨w6.heap.size, 0, none⟩ = some (.slice xa7 g0.length xc7) := (hb10e.cell (p := ⟨w6.heap.size, 0, none⟩) (cell_lt l7_9)).trans l7_9
  have y3_10 := y3_9.below hb10e (Nat.le_refl _)
  have y4_10 := y4_9.below hb10e (Nat.le_refl _)
  have y6_10 := y6_9.below hb10e (Nat.le_refl _)
  have y8_10 := y8_9.below hb10e (Nat.le_refl _)
  have y10_10 := hy10
  try dsimp only
  refine hK.out _ _ ?h63 (fun hHeld => ?_)
  case h63 => first | exact ⟨‹_›, ‹_›⟩ | assumption | (simp [*, go_sem])
  clear hK K
  try simp only [Act.put, List.setIfInBounds_toArray, List.set_cons_zero, List.set_cons_succ]
  refine wpAnyH_ready (rs := [3]) (by kernel_rfl) (by simp) ?_
  refine AllReadyH.cons (by simp only [List.getElem?_toArray, List.getElem?_cons_succ, List.getElem?_cons_zero]; exact rfl) (fun K hK => ?_) AllReadyH.nil
  go_simp
  refine (eqGraph_any _ _ _ _ _ y6_10 y10_10).mono ?_
  rintro e w11 ⟨rfl, hb11⟩
  have q11 := q10.trans (hb11.mono q10.size)
  have b0_11 : w11.cell? ⟨w.heap.size, 0, none⟩ = some (.slice a0 g0.length c0) := (hb11.cell (p := ⟨w.heap.size, 0, none⟩) (cell_lt b0_10)).trans b0_10
  have l7_11 : w11.cell? ⟨w6.heap.size, 0, none⟩ = some (.slice xa7 g0.length xc7) := (hb11.cell (p := ⟨w6.heap.size, 0, none⟩) (cell_lt l7_10)).trans l7_10
  have y3_11 := y3_10.below hb11 (Nat.le_refl _)
  have y4_11 := y4_10.below hb11 (Nat.le_refl _)
  have y6_11 := y6_10.below hb11 (Nat.le_refl _)
  have y8_11 := y8_10.below hb11 (Nat.le_refl _)
  have y10_11 := y10_10.below hb11 (Nat.le_refl _)
  try dsimp only
  refine hK.out _ _ ?h65 (fun hHeld => ?_)
  case h65 => first | exact ⟨‹_›, ‹_›⟩ | assumption | (simp [*, go_sem])
  clear hK K
  try simp only [Act.put, List.setIfInBounds_toArray, List.set_cons_zero, List.set_cons_succ]
  refine wpAnyH_take (i := 4) (v := ?v66) (by simp only [List.getElem?_toArray, List.getElem?_cons_succ, List.getElem?_cons_zero]; exact rfl) (by kernel_rfl) (by kernel_rfl) (by kernel_rfl) (by intro _ _ _ h; exact h) (Or.inl ⟨by rfl, ?y66⟩) hHeld ?_
  case y66 => (intro w hSw; (try dsimp only at hSw); go_simp; try (with_reducible rfl))
  try simp only [Act.put, List.setIfInBounds_toArray, List.set_cons_zero, List.set_cons_succ]
  refine wpAnyH_done (by kernel_rfl) ?_ _
  go_wp2_with fail
  refine (toPruneS_any _ _ _ (hv1.below q11 (Nat.le_refl _)) hsm1).mono ?_
  rintro e w12 ⟨x12, rfl, hy12, hb12⟩
  have q12 := q11.trans (hb12.mono q11.size)
  have b0_12 : w12.cell? ⟨w.heap.size, 0, none⟩ = some (.slice a0 g0.length c0) := (hb12.cell (p := ⟨w.heap.size, 0, none⟩) (cell_lt b0_11)).trans b0_11
  have l7_12 : w12.cell? ⟨w6.heap.size, 0, none⟩ = some (.slice xa7 g0.length xc7) := (hb12.cell (p := ⟨w6.heap.size, 0, none⟩) (cell_lt l7_11)).trans l7_11
  have y3_12 := y3_11.below hb12 (Nat.le_refl _)
  have y4_12 := y4_11.below hb12 (Nat.le_refl _)
  have y6_12 := y6_11.below hb12 (Nat.le_refl _)
  have y8_12 := y8_11.below hb12 (Nat.le_refl _)
  have y10_12 := y10_11.below hb12 (Nat.le_refl _)
  have y12_12 := hy12
  go_wp2_with fail
  refine (eqPruneS_any _ _ _ _ _ y8_12 y12_12).mono ?_
  rintro e w13 ⟨rfl, hb13⟩
  have q13 := q12.trans (hb13.mono q12.size)
  have b0_13 : w13.cell? ⟨w.heap.size, 0, none⟩ = some (.slice a0 g0.length c0) := (hb13.cell (p := ⟨w.heap.size, 0, none⟩) (cell_lt b0_12)).trans b0_12
  have l7_13 : w13.cell? ⟨w6.heap.size, 0, none⟩ = some (.slice xa7 g0.length xc7) := (hb13.cell (p := ⟨w6.heap.size, 0, none⟩) (cell_lt l7_12)).trans l7_12
  have y3_13 := y3_12.below hb13 (Nat.le_refl _)
  have y4_13 := y4_12.below hb13 (Nat.le_refl _)
  have y6_13 := y6_12.below hb13 (Nat.le_refl _)
  have y8_13 := y8_12.below hb13 (Nat.le_refl _)
  have y10_13 := y10_12.below hb13 (Nat.le_refl _)
  have y12_13 := y12_12.below hb13 (Nat.le_refl _)
  go_wp2
  go_ret
  exact ⟨rfl, q13⟩
end Go.Proofs.Ytfccpencgengaaa
