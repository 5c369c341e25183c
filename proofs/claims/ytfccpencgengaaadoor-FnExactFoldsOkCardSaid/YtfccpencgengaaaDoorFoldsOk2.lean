/- A list of foldings is right: the reference; the law. -/
import Derived.Test.YtfccpencgengaaaDoorFold6
import Derived.Test.YtfccpencgengaaaDoorFoldsOk
namespace Go.Proofs.YtfccpencgengaaaDoor
open Go.RowKit
set_option maxRecDepth 100000 in
set_option maxHeartbeats 8000000 in
theorem specFoldsOk_any {S S' : Nat → Prop} {v u : Value} {g : List (List Int)} {t : List Tri} {w : World} (hv : SlR S w v g) (hu : SlT S' w u t) :
    Calls Tryd.prog 23 #[.agg #[v], u] w fun e w' => e = .returned (.bool (foldsOkB g t)) ∧ Below w.heap.size w w' := by
  have hq0 : Below w.heap.size w (w.alloc (.cells #[v] 27)) := (Below.refl _ _).alloc (Nat.le_refl _) _
  have hbx0 : Own (w.alloc (.cells #[v] 27)) w.heap.size 27 1 (.slice (some ⟨w.heap.size, 0, none⟩) 1 1) 1 [v] := by
    have := World.ownsRow_lit (base := w.heap.size) (e := 27) (size := 1) w #[v] 1 (Nat.le_refl _) (by unfold maxLen; omega) rfl
    simpa [Own] using this
  have hvl := hv.low3
  obtain ⟨va, vc, rfl⟩ := hv.slice
  obtain ⟨ua, ub, uo, uc, rfl, hul, hua, hut⟩ := hu
  have hgo := specGraphOk_any _ _ _ (hv.below hq0 (Nat.le_refl _))
  by_cases hgg : gokB g = true
  case neg =>
    have hgg' : gokB g = false := by simpa using hgg
    rw [hgg'] at hgo
    have HE := Lib.hid (show foldsOkB g t = false by simp [foldsOkB, hgg'])
    clear hgg hgg'
    go_enter Tryd.func23, Tryd.ntmps23
    go_wp2_with (go_at_call 47; refine hgo.mono ?_; rintro e w1 ⟨rfl, hb1⟩)
    go_ret
    exact ⟨ret_bool HE.out.symm, hq0.trans (hb1.mono hq0.size)⟩
  rw [hgg] at hgo
  have hg := gokB_iff.1 hgg
  have h16 := hg.hi
  by_cases hlen : t.length ≤ 16
  case neg =>
    have HE := Lib.hid (show foldsOkB g t = false by simp [foldsOkB, hlen])
    have hd : decide ((16 : Int) < (t.length : Int)) = true := by simp; omega
    have hd2 : decide (16 < t.length) = true := by simp; omega
    clear hgg hlen
    go_enter Tryd.func23, Tryd.ntmps23
    go_wp2_with (go_at_call 47; refine hgo.mono ?_; rintro e w1 ⟨rfl, hb1⟩)
    go_ret
    exact ⟨ret_bool HE.out.symm, hq0.trans (hb1.mono hq0.size)⟩
  have hE : foldsOkB g t = foldsB g.length (netsL g) (firstN g.length) t := by simp [foldsOkB, hgg, hlen]
  rw [hE]
  have hd : decide ((16 : Int) < (t.length : Int)) = false := by simp; omega
  have hd2 : decide (16 < t.length) = false := by simp; omega
  have HI := Lib.hid (FoldI.start hg)
  clear hgg hE
  go_enter Tryd.func23, Tryd.ntmps23
  go_wp2_with (first | (go_at_call 47; refine hgo.mono ?_; rintro e w1 ⟨rfl, hb1⟩; have hq1 := hq0.trans (hb1.mono hq0.size); have cg1 : w1.cell? ⟨w.heap.size, 0, none⟩ = some (.slice va g.length vc) := (hb1.cell (p := ⟨w.heap.size, 0, none⟩) (by simp)).trans (by simp [go_sem])) | (go_at_call 49; refine (l16All_any _ _ _ (hv.below hq1 (Nat.le_refl _)) (by omega)).mono ?_; rintro e w2 ⟨u2, rfl, hu2, hb2⟩; have hq2 := hq1.trans (hb2.mono hq1.size); have cg2 := (hb2.cell (cell_lt cg1)).trans cg1))
  clear hgo
  have hl2 : SlI (fun b => b ≠ w.heap.size) w2 .i64 u2 (bitsI (firstN g.length)) := by
    rw [← rangeI_bits h16]
    have hlt := fun b hb => Own.lt hu2 b hb
    have hz1 := hb1.size
    simp at hz1
    exact (Own.ints (xs := rangeI g.length) hu2 (by omega)).weak (fun b hb => by have := (hlt b hb).1; omega)
  have hbx2 := (hbx0.below hb1 (Nat.le_refl _)).below hb2 (Nat.le_refl _)
  have hgv2 : SlR (fun b => b ≠ w.heap.size) w2 (.slice va g.length vc) (rowsN (netsL g) (firstN g.length) g.length) := by
    rw [rows_start hg]
    exact (hvl.below hq2 (Nat.le_refl _)).weak (fun b hb => by omega)
  go_loopw [5, 6] (fun o i wr => ∃ (k : Nat) (a : List Nat) (s : Nat) (gv : Value), k ≤ t.length ∧ i = .int .i64 k ∧ RowKit.Hid (FoldI a s g.length) ∧ RowKit.Hid (foldsB g.length (netsL g) (firstN g.length) t = foldsB g.length a s (t.drop k)) ∧ SlI (fun b => b ≠ w.heap.size) wr .i64 o (bitsI s) ∧ Own wr w.heap.size 27 1 (.slice (some ⟨w.heap.size, 0, none⟩) 1 1) 1 [gv] ∧ SlR (fun b => b ≠ w.heap.size) wr gv (rowsN a s g.length) ∧ Below w.heap.size w wr) (fun _ i _ => t.length - (intOf i).toNat)
  case atStart => exact ⟨0, netsL g, firstN g.length, _, Nat.zero_le _, rfl, HI, Lib.hid rfl, hl2, hbx2, hgv2, hq2⟩
  case round =>
    clear hl2 hq2 cg2 hu2 hb2 hq1 cg1 hb1 hbx0 hbx2 hgv2 hvl
    obtain ⟨k, a, s, gv, hk, rfl, HS, HP, hl, hbx, hgv, hq⟩ := hrel
    have hs32 := HS.out.left32
    obtain ⟨la, lc, rfl⟩ := hl.slice
    obtain ⟨gva, gvc, rfl⟩ := hgv.slice
    have cG := (World.ownsRow.cellAt hbx 0 (by omega)).trans (show _ = some (Value.slice gva (rowsN a s g.length).length gvc) from rfl)
    by_cases hlt : k < t.length
    case neg =>
      obtain rfl : k = t.length := by omega
      go_wp2
      go_ret
      exact ⟨ret_bool (by rw [HP.out, foldsB_end]), hq⟩
    obtain ⟨c0, c1, c2⟩ := hut k hlt
    obtain ⟨rfl, -⟩ := hua (by omega)
    have hmiss := fun h => foldsB_miss (n := g.length) (a := a) (s := s) hlt h
    have hstep := fun h => foldsB_step (n := g.length) (a := a) (s := s) hlt h
    generalize t[k] = p at c0 c1 c2 hmiss hstep
    obtain ⟨x, y, z⟩ := p
    unfold foldOkB at hmiss hstep
    simp only at c0 c1 c2 hmiss hstep
    have t0 := (hq.cell (p := ⟨ub, uo + k * 3, none⟩) (cell_lt c0)).trans c0
    have t1 := (hq.cell (p := ⟨ub, uo + k * 3 + 1, none⟩) (cell_lt c1)).trans c1
    have t2 := (hq.cell (p := ⟨ub, uo + k * 3 + 2, none⟩) (cell_lt c2)).trans c2
    have hubw : ub < w.heap.size := cell_lt c0
    have hhas := l1Has_any _ _ x _ hl
    by_cases hin : x ∈ bitsI s
    case neg =>
      have hB : (inB x 0 ((g.length : Int) - 1) && s.testBit x.toNat && decide (foldF a s x.toNat = some ⟨x, y, z⟩)) = false := by
        have h2 := mt (mem_bitsI hs32).2 hin
        by_cases h0 : 0 ≤ x
        · cases h : s.testBit x.toNat
          · simp
          · exact absurd ⟨h0, h⟩ h2
        · have : inB x 0 ((g.length : Int) - 1) = false := by simp [inB, h0]
          rw [this]; simp
      have HM := Lib.hid (hmiss hB)
      rw [decide_eq_false hin] at hhas
      clear hin hB hmiss hstep
      go_wp2_with (go_at_call 67; refine hhas.mono ?_; rintro e w' ⟨rfl, rfl⟩)
      go_ret
      exact ⟨ret_bool (by rw [HP.out]; exact HM.out.symm), hq⟩
    have hin2 := (mem_bitsI hs32).1 hin
    obtain ⟨j, rfl⟩ := Int.eq_ofNat_of_zero_le hin2.1
    rw [Int.toNat_natCast] at hin2
    have hsj := hin2.2
    have hjn := bit_lt_of HS.out.left hsj
    rw [decide_eq_true hin] at hhas
    have hib : inB (j : Int) 0 ((g.length : Int) - 1) = true := by
      simp only [inB, Bool.and_eq_true, decide_eq_true_eq]; omega
    rw [Int.toNat_natCast, hib, hsj, Bool.true_and, Bool.true_and] at hmiss hstep
    have hrow : (rowsN a s g.length)[j]'(by rw [rowsN_len]; exact hjn) = natsI (nearN a s j) := by rw [rowsN_get, if_pos hsj]; rfl
    have hnl : (nearN a s j).length ≤ 32 := by unfold nearN; exact bitsN_len _
    have hat := fun (w1 : World) (hd : Below wr.heap.size wr w1) => l20At_any (hgv.below hd (Nat.le_refl _)) (by rw [rowsN_len]; exact hjn) hrow hnl
    have hfr : rowF j (nearN a s j) = foldF a s j := rfl
    rw [hfr] at hat
    clear hrow hnl hfr hin hib hin2 hsj
    unfold TriP at hat
    have hwz : w.heap.size < wr.heap.size := (hbx.lt _ rfl).2
    have hlb2 : ub < wr.heap.size := by omega
    cases hf : foldF a s j with
    | none =>
      rw [hf] at hat hmiss
      simp only [Option.getD_none, Option.isSome_none, triV] at hat
      have HM := Lib.hid (hmiss (by simp))
      clear hmiss hstep hf
      go_wp2_with (go_at_call 67; refine hhas.mono ?_; rintro e w' ⟨rfl, rfl⟩)
      apply meet2 (H := fun (nb : Nat) (wn : World) => Below wr.heap.size wr wn ∧ wr.heap.size ≤ nb ∧ wn.cell? ⟨nb, 0, none⟩ = some (.int .i64 0) ∧ wn.cell? ⟨nb, 1, none⟩ = some (.int .i64 0) ∧ wn.cell? ⟨nb, 2, none⟩ = some (.int .i64 0))
      case orders =>
        intro rest
        refine wp_region_held_drew (S := (fun w' => w'.cell? ⟨w.heap.size, 0, none⟩ = some (Value.slice gva (rowsN a s g.length).length gvc) ∧ w'.cell? ⟨ub, uo + k * 3, none⟩ = some (.int .i64 (j : Int)))) (by kernel_rfl) ?_ (fun hHeld => ?_)
        · first | exact ⟨cG, t0⟩ | exact ⟨cg, cl⟩ | exact ⟨hcg, hcl⟩
        have hd : Below wr.heap.size wr wr.drew := (Below.refl _ _).drew
        generalize wr.drew = wd at hd hHeld ⊢
        obtain ⟨cg, cl⟩ := hHeld
        have hHeld : (fun w' => w'.cell? ⟨w.heap.size, 0, none⟩ = some (Value.slice gva (rowsN a s g.length).length gvc) ∧ w'.cell? ⟨ub, uo + k * 3, none⟩ = some (.int .i64 (j : Int))) wd := ⟨cg, cl⟩
        refine wpAnyH_take (i := 0) (v := ?v1) (by simp only [List.getElem?_toArray, List.getElem?_cons_zero]; exact rfl) (by kernel_rfl) (by kernel_rfl) (by kernel_rfl) (by intro _ _ _ h; exact h) (Or.inl ⟨by rfl, ?y1⟩) hHeld ?_
        case y1 => (intro w hSw; (try dsimp only at hSw); go_simp; try (with_reducible rfl))
        try simp only [Act.put, List.setIfInBounds_toArray, List.set_cons_zero, List.set_cons_succ]
        refine wpAnyH_take (i := 1) (v := ?v2) (by simp only [List.getElem?_toArray, List.getElem?_cons_succ, List.getElem?_cons_zero]; exact rfl) (by kernel_rfl) (by kernel_rfl) (by kernel_rfl) (by intro _ _ _ h; exact h) (Or.inl ⟨by rfl, ?y2⟩) hHeld ?_
        case y2 => (intro w hSw; (try dsimp only at hSw); go_simp; try (with_reducible rfl))
        try simp only [Act.put, List.setIfInBounds_toArray, List.set_cons_zero, List.set_cons_succ]
        refine wpAnyH_take (i := 2) (v := ?v3) (by simp only [List.getElem?_toArray, List.getElem?_cons_succ, List.getElem?_cons_zero]; exact rfl) (by kernel_rfl) (by kernel_rfl) (by kernel_rfl) (by intro _ _ _ h; exact h) (Or.inl ⟨by rfl, ?y3⟩) hHeld ?_
        case y3 => (intro w hSw; (try dsimp only at hSw); go_simp; try (with_reducible rfl))
        try simp only [Act.put, List.setIfInBounds_toArray, List.set_cons_zero, List.set_cons_succ]
        refine wpAnyH_take (i := 3) (v := ?v4) (by simp only [List.getElem?_toArray, List.getElem?_cons_succ, List.getElem?_cons_zero]; exact rfl) (by kernel_rfl) (by kernel_rfl) (by kernel_rfl) (by intro _ _ _ h; exact h) (Or.inl ⟨by rfl, ?y4⟩) hHeld ?_
        case y4 => (intro w hSw; (try dsimp only at hSw); go_simp; try (with_reducible rfl))
        try simp only [Act.put, List.setIfInBounds_toArray, List.set_cons_zero, List.set_cons_succ]
        refine wpAnyH_take (i := 4) (v := ?v5) (by simp only [List.getElem?_toArray, List.getElem?_cons_succ, List.getElem?_cons_zero]; exact rfl) (by kernel_rfl) (by kernel_rfl) (by kernel_rfl) (by intro _ _ _ h; exact h) (Or.inl ⟨by rfl, ?y5⟩) hHeld ?_
        case y5 => (intro w hSw; (try dsimp only at hSw); go_simp; try (with_reducible rfl))
        try simp only [Act.put, List.setIfInBounds_toArray, List.set_cons_zero, List.set_cons_succ]
        refine wpAnyH_take (i := 5) (v := ?v6) (by simp only [List.getElem?_toArray, List.getElem?_cons_succ, List.getElem?_cons_zero]; exact rfl) (by kernel_rfl) (by kernel_rfl) (by kernel_rfl) (by intro _ _ _ h; exact h) (Or.inl ⟨by rfl, ?y6⟩) hHeld ?_
        case y6 => (intro w hSw; (try dsimp only at hSw); go_simp; try (with_reducible rfl))
        try simp only [Act.put, List.setIfInBounds_toArray, List.set_cons_zero, List.set_cons_succ]
        refine wpAnyH_ready (rs := [6, 10]) (by kernel_rfl) (by simp) ?_
        refine (AllReadyH.cons (by simp only [List.getElem?_toArray, List.getElem?_cons_succ, List.getElem?_cons_zero]; exact rfl) (fun K hK => ?b7_6) (AllReadyH.cons (by simp only [List.getElem?_toArray, List.getElem?_cons_succ, List.getElem?_cons_zero]; exact rfl) (fun K hK => ?b7_10) AllReadyH.nil))
        case b7_6 =>
          go_simp
          refine (hat wd hd).mono ?_
          rintro e wn ⟨rfl, hbn⟩
          try (have n0 := (hbn.cell (cell_lt n0)).trans n0)
          try (have n1 := (hbn.cell (cell_lt n1)).trans n1)
          try (have n2 := (hbn.cell (cell_lt n2)).trans n2)
          try (have g0 := (hbn.frozen (p := ⟨nb, 0, none⟩) hnl).trans g0)
          try (have g1 := (hbn.frozen (p := ⟨nb, 1, none⟩) hnl).trans g1)
          try (have g2 := (hbn.frozen (p := ⟨nb, 2, none⟩) hnl).trans g2)
          try (have hnl := Nat.lt_of_lt_of_le hnl hbn.size)
          have cg := (hbn.cell (cell_lt cg)).trans cg
          have cl := (hbn.cell (cell_lt cl)).trans cl
          have hd := hd.trans (hbn.mono hd.size)
          obtain ⟨wd, rfl⟩ : ∃ wx : World, wx = wn := ⟨_, rfl⟩
          try dsimp only
          refine hK.out _ _ ?h8 (fun hHeld => ?_)
          case h8 => first | exact ⟨cG, t0⟩ | exact ⟨cg, cl⟩ | exact ⟨hcg, hcl⟩
          clear hK K
          try simp only [Act.put, List.setIfInBounds_toArray, List.set_cons_zero, List.set_cons_succ]
          refine wpAnyH_take (i := 7) (v := ?v9) (by simp only [List.getElem?_toArray, List.getElem?_cons_succ, List.getElem?_cons_zero]; exact rfl) (by kernel_rfl) (by kernel_rfl) (by kernel_rfl) (by intro _ _ _ h; exact h) (Or.inl ⟨by rfl, ?y9⟩) hHeld ?_
          case y9 => (intro w hSw; (try dsimp only at hSw); go_simp; try (with_reducible rfl))
          try simp only [Act.put, List.setIfInBounds_toArray, List.set_cons_zero, List.set_cons_succ]
          refine wpAnyH_take (i := 8) (v := ?v10) (by simp only [List.getElem?_toArray, List.getElem?_cons_succ, List.getElem?_cons_zero]; exact rfl) (by kernel_rfl) (by kernel_rfl) (by kernel_rfl) (by intro _ _ _ h; exact h) (Or.inl ⟨by rfl, ?y10⟩) hHeld ?_
          case y10 => (intro w hSw; (try dsimp only at hSw); go_simp; try (with_reducible rfl))
          try simp only [Act.put, List.setIfInBounds_toArray, List.set_cons_zero, List.set_cons_succ]
          refine wpAnyH_take (i := 9) (v := ?v11) (by simp only [List.getElem?_toArray, List.getElem?_cons_succ, List.getElem?_cons_zero]; exact rfl) (by kernel_rfl) (by kernel_rfl) (by kernel_rfl) (by intro _ _ _ h; exact h) (Or.inl ⟨by rfl, ?y11⟩) hHeld ?_
          case y11 => (intro w hSw; (try dsimp only at hSw); go_simp; try (with_reducible rfl))
          try simp only [Act.put, List.setIfInBounds_toArray, List.set_cons_zero, List.set_cons_succ]
          refine wpAnyH_ready (rs := [10]) (by kernel_rfl) (by simp) ?_
          refine AllReadyH.cons (by simp only [List.getElem?_toArray, List.getElem?_cons_succ, List.getElem?_cons_zero]; exact rfl) (fun K hK => ?_) AllReadyH.nil
          go_simp
          have hbn : Below wd.heap.size wd (wd.alloc (.cells #[.int .i64 0, .int .i64 0, .int .i64 0] 86)) := (Below.refl _ _).alloc (Nat.le_refl _) _
          have n0 : (wd.alloc (.cells #[.int .i64 0, .int .i64 0, .int .i64 0] 86)).cell? ⟨wd.heap.size, 0, none⟩ = some (.int .i64 0) := (by simp [go_sem])
          have n1 : (wd.alloc (.cells #[.int .i64 0, .int .i64 0, .int .i64 0] 86)).cell? ⟨wd.heap.size, 1, none⟩ = some (.int .i64 0) := (by simp [go_sem])
          have n2 : (wd.alloc (.cells #[.int .i64 0, .int .i64 0, .int .i64 0] 86)).cell? ⟨wd.heap.size, 2, none⟩ = some (.int .i64 0) := (by simp [go_sem])
          have g0 : (wd.alloc (.cells #[.int .i64 0, .int .i64 0, .int .i64 0] 86)).frozen? ⟨wd.heap.size, 0, none⟩ = false := (by simp [go_sem])
          have g1 : (wd.alloc (.cells #[.int .i64 0, .int .i64 0, .int .i64 0] 86)).frozen? ⟨wd.heap.size, 1, none⟩ = false := (by simp [go_sem])
          have g2 : (wd.alloc (.cells #[.int .i64 0, .int .i64 0, .int .i64 0] 86)).frozen? ⟨wd.heap.size, 2, none⟩ = false := (by simp [go_sem])
          have hnl : wd.heap.size < (wd.alloc (.cells #[.int .i64 0, .int .i64 0, .int .i64 0] 86)).heap.size := (by simp)
          have hnb : wr.heap.size ≤ wd.heap.size := hd.size
          have cg := (hbn.cell (cell_lt cg)).trans cg
          have cl := (hbn.cell (cell_lt cl)).trans cl
          have hd := hd.trans (hbn.mono hd.size)
          generalize (wd.alloc (.cells #[.int .i64 0, .int .i64 0, .int .i64 0] 86)) = wn at *
          generalize wd.heap.size = nb at n0 n1 n2 g0 g1 g2 hnl hnb ⊢
          obtain ⟨wd, rfl⟩ : ∃ wx : World, wx = wn := ⟨_, rfl⟩
          try dsimp only
          refine hK.out _ _ ?h13 (fun hHeld => ?_)
          case h13 => first | exact ⟨cG, t0⟩ | exact ⟨cg, cl⟩ | exact ⟨hcg, hcl⟩
          clear hK K
          try simp only [Act.put, List.setIfInBounds_toArray, List.set_cons_zero, List.set_cons_succ]
          refine wpAnyH_ready (rs := [11]) (by kernel_rfl) (by simp) ?_
          refine AllReadyH.cons (by simp only [List.getElem?_toArray, List.getElem?_cons_succ, List.getElem?_cons_zero]; exact rfl) (fun K hK => ?_) AllReadyH.nil
          go_simp
          have hcg : (((wd.setCell ⟨nb, 0, none⟩ (.int .i64 0)).setCell ⟨nb, 1, none⟩ (.int .i64 0)).setCell ⟨nb, 2, none⟩ (.int .i64 0)).cell? ⟨w.heap.size, 0, none⟩ = some (Value.slice gva (rowsN a s g.length).length gvc) := (World.cell?_of_block (a := ⟨w.heap.size, 0, none⟩) ((Below.heap_setCell _ _ _ _ (by simp; omega)).trans ((Below.heap_setCell _ _ _ _ (by simp; omega)).trans (Below.heap_setCell _ _ _ _ (by simp; omega))))).trans cg
          have hcl : (((wd.setCell ⟨nb, 0, none⟩ (.int .i64 0)).setCell ⟨nb, 1, none⟩ (.int .i64 0)).setCell ⟨nb, 2, none⟩ (.int .i64 0)).cell? ⟨ub, uo + k * 3, none⟩ = some (.int .i64 (j : Int)) := (World.cell?_of_block (a := ⟨ub, uo + k * 3, none⟩) ((Below.heap_setCell _ _ _ _ (by simp; omega)).trans ((Below.heap_setCell _ _ _ _ (by simp; omega)).trans (Below.heap_setCell _ _ _ _ (by simp; omega))))).trans cl
          try dsimp only
          refine hK.out _ _ ?h15 (fun hHeld => ?_)
          case h15 => first | exact ⟨cG, t0⟩ | exact ⟨cg, cl⟩ | exact ⟨hcg, hcl⟩
          clear hK K
          try simp only [Act.put, List.setIfInBounds_toArray, List.set_cons_zero, List.set_cons_succ]
          refine wpAnyH_take (i := 12) (v := ?v16) (by simp only [List.getElem?_toArray, List.getElem?_cons_succ, List.getElem?_cons_zero]; exact rfl) (by kernel_rfl) (by kernel_rfl) (by kernel_rfl) (by intro _ _ _ h; exact h) (Or.inl ⟨by rfl, ?y16⟩) hHeld ?_
          case y16 => (intro w hSw; (try dsimp only at hSw); go_simp; try (with_reducible rfl))
          try simp only [Act.put, List.setIfInBounds_toArray, List.set_cons_zero, List.set_cons_succ]
          refine wpAnyH_done (by kernel_rfl) ?_ _
          exact rest nb _ ⟨((hd.setCell hnb _).setCell hnb _).setCell hnb _, hnb, by (simp [go_sem, n0, n1, n2]), by (simp [go_sem, n0, n1, n2]), by (simp [go_sem, n0, n1, n2])⟩
        case b7_10 =>
          go_simp
          have hbn : Below wd.heap.size wd (wd.alloc (.cells #[.int .i64 0, .int .i64 0, .int .i64 0] 86)) := (Below.refl _ _).alloc (Nat.le_refl _) _
          have n0 : (wd.alloc (.cells #[.int .i64 0, .int .i64 0, .int .i64 0] 86)).cell? ⟨wd.heap.size, 0, none⟩ = some (.int .i64 0) := (by simp [go_sem])
          have n1 : (wd.alloc (.cells #[.int .i64 0, .int .i64 0, .int .i64 0] 86)).cell? ⟨wd.heap.size, 1, none⟩ = some (.int .i64 0) := (by simp [go_sem])
          have n2 : (wd.alloc (.cells #[.int .i64 0, .int .i64 0, .int .i64 0] 86)).cell? ⟨wd.heap.size, 2, none⟩ = some (.int .i64 0) := (by simp [go_sem])
          have g0 : (wd.alloc (.cells #[.int .i64 0, .int .i64 0, .int .i64 0] 86)).frozen? ⟨wd.heap.size, 0, none⟩ = false := (by simp [go_sem])
          have g1 : (wd.alloc (.cells #[.int .i64 0, .int .i64 0, .int .i64 0] 86)).frozen? ⟨wd.heap.size, 1, none⟩ = false := (by simp [go_sem])
          have g2 : (wd.alloc (.cells #[.int .i64 0, .int .i64 0, .int .i64 0] 86)).frozen? ⟨wd.heap.size, 2, none⟩ = false := (by simp [go_sem])
          have hnl : wd.heap.size < (wd.alloc (.cells #[.int .i64 0, .int .i64 0, .int .i64 0] 86)).heap.size := (by simp)
          have hnb : wr.heap.size ≤ wd.heap.size := hd.size
          have cg := (hbn.cell (cell_lt cg)).trans cg
          have cl := (hbn.cell (cell_lt cl)).trans cl
          have hd := hd.trans (hbn.mono hd.size)
          generalize (wd.alloc (.cells #[.int .i64 0, .int .i64 0, .int .i64 0] 86)) = wn at *
          generalize wd.heap.size = nb at n0 n1 n2 g0 g1 g2 hnl hnb ⊢
          obtain ⟨wd, rfl⟩ : ∃ wx : World, wx = wn := ⟨_, rfl⟩
          try dsimp only
          refine hK.out _ _ ?h17 (fun hHeld => ?_)
          case h17 => first | exact ⟨cG, t0⟩ | exact ⟨cg, cl⟩ | exact ⟨hcg, hcl⟩
          clear hK K
          try simp only [Act.put, List.setIfInBounds_toArray, List.set_cons_zero, List.set_cons_succ]
          refine wpAnyH_ready (rs := [6]) (by kernel_rfl) (by simp) ?_
          refine AllReadyH.cons (by simp only [List.getElem?_toArray, List.getElem?_cons_succ, List.getElem?_cons_zero]; exact rfl) (fun K hK => ?_) AllReadyH.nil
          go_simp
          refine (hat wd hd).mono ?_
          rintro e wn ⟨rfl, hbn⟩
          try (have n0 := (hbn.cell (cell_lt n0)).trans n0)
          try (have n1 := (hbn.cell (cell_lt n1)).trans n1)
          try (have n2 := (hbn.cell (cell_lt n2)).trans n2)
          try (have g0 := (hbn.frozen (p := ⟨nb, 0, none⟩) hnl).trans g0)
          try (have g1 := (hbn.frozen (p := ⟨nb, 1, none⟩) hnl).trans g1)
          try (have g2 := (hbn.frozen (p := ⟨nb, 2, none⟩) hnl).trans g2)
          try (have hnl := Nat.lt_of_lt_of_le hnl hbn.size)
          have cg := (hbn.cell (cell_lt cg)).trans cg
          have cl := (hbn.cell (cell_lt cl)).trans cl
          have hd := hd.trans (hbn.mono hd.size)
          obtain ⟨wd, rfl⟩ : ∃ wx : World, wx = wn := ⟨_, rfl⟩
          try dsimp only
          refine hK.out _ _ ?h19 (fun hHeld => ?_)
          case h19 => first | exact ⟨cG, t0⟩ | exact ⟨cg, cl⟩ | exact ⟨hcg, hcl⟩
          clear hK K
          try simp only [Act.put, List.setIfInBounds_toArray, List.set_cons_zero, List.set_cons_succ]
          refine wpAnyH_take (i := 7) (v := ?v20) (by simp only [List.getElem?_toArray, List.getElem?_cons_succ, List.getElem?_cons_zero]; exact rfl) (by kernel_rfl) (by kernel_rfl) (by kernel_rfl) (by intro _ _ _ h; exact h) (Or.inl ⟨by rfl, ?y20⟩) hHeld ?_
          case y20 => (intro w hSw; (try dsimp only at hSw); go_simp; try (with_reducible rfl))
          try simp only [Act.put, List.setIfInBounds_toArray, List.set_cons_zero, List.set_cons_succ]
          refine wpAnyH_take (i := 8) (v := ?v21) (by simp only [List.getElem?_toArray, List.getElem?_cons_succ, List.getElem?_cons_zero]; exact rfl) (by kernel_rfl) (by kernel_rfl) (by kernel_rfl) (by intro _ _ _ h; exact h) (Or.inl ⟨by rfl, ?y21⟩) hHeld ?_
          case y21 => (intro w hSw; (try dsimp only at hSw); go_simp; try (with_reducible rfl))
          try simp only [Act.put, List.setIfInBounds_toArray, List.set_cons_zero, List.set_cons_succ]
          refine wpAnyH_take (i := 9) (v := ?v22) (by simp only [List.getElem?_toArray, List.getElem?_cons_succ, List.getElem?_cons_zero]; exact rfl) (by kernel_rfl) (by kernel_rfl) (by kernel_rfl) (by intro _ _ _ h; exact h) (Or.inl ⟨by rfl, ?y22⟩) hHeld ?_
          case y22 => (intro w hSw; (try dsimp only at hSw); go_simp; try (with_reducible rfl))
          try simp only [Act.put, List.setIfInBounds_toArray, List.set_cons_zero, List.set_cons_succ]
          refine wpAnyH_ready (rs := [11]) (by kernel_rfl) (by simp) ?_
          refine AllReadyH.cons (by simp only [List.getElem?_toArray, List.getElem?_cons_succ, List.getElem?_cons_zero]; exact rfl) (fun K hK => ?_) AllReadyH.nil
          go_simp
          have hcg : (((wd.setCell ⟨nb, 0, none⟩ (.int .i64 0)).setCell ⟨nb, 1, none⟩ (.int .i64 0)).setCell ⟨nb, 2, none⟩ (.int .i64 0)).cell? ⟨w.heap.size, 0, none⟩ = some (Value.slice gva (rowsN a s g.length).length gvc) := (World.cell?_of_block (a := ⟨w.heap.size, 0, none⟩) ((Below.heap_setCell _ _ _ _ (by simp; omega)).trans ((Below.heap_setCell _ _ _ _ (by simp; omega)).trans (Below.heap_setCell _ _ _ _ (by simp; omega))))).trans cg
          have hcl : (((wd.setCell ⟨nb, 0, none⟩ (.int .i64 0)).setCell ⟨nb, 1, none⟩ (.int .i64 0)).setCell ⟨nb, 2, none⟩ (.int .i64 0)).cell? ⟨ub, uo + k * 3, none⟩ = some (.int .i64 (j : Int)) := (World.cell?_of_block (a := ⟨ub, uo + k * 3, none⟩) ((Below.heap_setCell _ _ _ _ (by simp; omega)).trans ((Below.heap_setCell _ _ _ _ (by simp; omega)).trans (Below.heap_setCell _ _ _ _ (by simp; omega))))).trans cl
          try dsimp only
          refine hK.out _ _ ?h24 (fun hHeld => ?_)
          case h24 => first | exact ⟨cG, t0⟩ | exact ⟨cg, cl⟩ | exact ⟨hcg, hcl⟩
          clear hK K
          try simp only [Act.put, List.setIfInBounds_toArray, List.set_cons_zero, List.set_cons_succ]
          refine wpAnyH_take (i := 12) (v := ?v25) (by simp only [List.getElem?_toArray, List.getElem?_cons_succ, List.getElem?_cons_zero]; exact rfl) (by kernel_rfl) (by kernel_rfl) (by kernel_rfl) (by intro _ _ _ h; exact h) (Or.inl ⟨by rfl, ?y25⟩) hHeld ?_
          case y25 => (intro w hSw; (try dsimp only at hSw); go_simp; try (with_reducible rfl))
          try simp only [Act.put, List.setIfInBounds_toArray, List.set_cons_zero, List.set_cons_succ]
          refine wpAnyH_done (by kernel_rfl) ?_ _
          exact rest nb _ ⟨((hd.setCell hnb _).setCell hnb _).setCell hnb _, hnb, by (simp [go_sem, n0, n1, n2]), by (simp [go_sem, n0, n1, n2]), by (simp [go_sem, n0, n1, n2])⟩
      case rest =>
        intro nb wn ⟨hd, hnb, n0, n1, n2⟩
        clear hat hhas
        have hqn := hq.trans (hd.mono hq.size)
        go_wp2
        refine wp_region_held_drew (S := (fun _ => True)) (by kernel_rfl) ?_ (fun hHeld => ?_)
        · trivial
        have hqc := hqn.drew
        generalize wn.drew = wd at hqc hHeld ⊢
        refine wpAnyH_take (i := 0) (v := ?v26) (by simp only [List.getElem?_toArray, List.getElem?_cons_zero]; exact rfl) (by kernel_rfl) (by kernel_rfl) (by kernel_rfl) (by intro _ _ _ h; exact h) (Or.inl ⟨by rfl, ?y26⟩) hHeld ?_
        case y26 => (intro w hSw; (try dsimp only at hSw); go_simp; try (with_reducible rfl))
        try simp only [Act.put, List.setIfInBounds_toArray, List.set_cons_zero, List.set_cons_succ]
        refine wpAnyH_take (i := 1) (v := ?v27) (by simp only [List.getElem?_toArray, List.getElem?_cons_succ, List.getElem?_cons_zero]; exact rfl) (by kernel_rfl) (by kernel_rfl) (by kernel_rfl) (by intro _ _ _ h; exact h) (Or.inl ⟨by rfl, ?y27⟩) hHeld ?_
        case y27 => (intro w hSw; (try dsimp only at hSw); go_simp; try (with_reducible rfl))
        try simp only [Act.put, List.setIfInBounds_toArray, List.set_cons_zero, List.set_cons_succ]
        refine wpAnyH_take (i := 2) (v := ?v28) (by simp only [List.getElem?_toArray, List.getElem?_cons_succ, List.getElem?_cons_zero]; exact rfl) (by kernel_rfl) (by kernel_rfl) (by kernel_rfl) (by intro _ _ _ h; exact h) (Or.inl ⟨by rfl, ?y28⟩) hHeld ?_
        case y28 => (intro w hSw; (try dsimp only at hSw); go_simp; try (with_reducible rfl))
        try simp only [Act.put, List.setIfInBounds_toArray, List.set_cons_zero, List.set_cons_succ]
        refine wpAnyH_take (i := 3) (by simp only [List.getElem?_toArray, List.getElem?_cons_succ, List.getElem?_cons_zero]; exact rfl) (by kernel_rfl) (by kernel_rfl) (by kernel_rfl) (by intro _ _ _ h; exact h) (Or.inr ⟨by rfl, rfl⟩) hHeld ?_
        try simp only [Act.put, List.setIfInBounds_toArray, List.set_cons_zero, List.set_cons_succ]
        refine wpAnyH_take (i := 4) (by simp only [List.getElem?_toArray, List.getElem?_cons_succ, List.getElem?_cons_zero]; exact rfl) (by kernel_rfl) (by kernel_rfl) (by kernel_rfl) (by intro _ _ _ h; exact h) (Or.inr ⟨by rfl, rfl⟩) hHeld ?_
        try simp only [Act.put, List.setIfInBounds_toArray, List.set_cons_zero, List.set_cons_succ]
        refine wpAnyH_take (i := 5) (by simp only [List.getElem?_toArray, List.getElem?_cons_succ, List.getElem?_cons_zero]; exact rfl) (by kernel_rfl) (by kernel_rfl) (by kernel_rfl) (by intro _ _ _ h; exact h) (Or.inr ⟨by rfl, rfl⟩) hHeld ?_
        try simp only [Act.put, List.setIfInBounds_toArray, List.set_cons_zero, List.set_cons_succ]
        refine wpAnyH_take (i := 6) (by simp only [List.getElem?_toArray, List.getElem?_cons_succ, List.getElem?_cons_zero]; exact rfl) (by kernel_rfl) (by kernel_rfl) (by kernel_rfl) (by intro _ _ _ h; exact h) (Or.inr ⟨by rfl, rfl⟩) hHeld ?_
        try simp only [Act.put, List.setIfInBounds_toArray, List.set_cons_zero, List.set_cons_succ]
        refine wpAnyH_take (i := 7) (by simp only [List.getElem?_toArray, List.getElem?_cons_succ, List.getElem?_cons_zero]; exact rfl) (by kernel_rfl) (by kernel_rfl) (by kernel_rfl) (by intro _ _ _ h; exact h) (Or.inr ⟨by rfl, rfl⟩) hHeld ?_
        try simp only [Act.put, List.setIfInBounds_toArray, List.set_cons_zero, List.set_cons_succ]
        refine wpAnyH_take (i := 8) (by simp only [List.getElem?_toArray, List.getElem?_cons_succ, List.getElem?_cons_zero]; exact rfl) (by kernel_rfl) (by kernel_rfl) (by kernel_rfl) (by intro _ _ _ h; exact h) (Or.inr ⟨by rfl, rfl⟩) hHeld ?_
        try simp only [Act.put, List.setIfInBounds_toArray, List.set_cons_zero, List.set_cons_succ]
        refine wpAnyH_take (i := 9) (v := ?v35) (by simp only [List.getElem?_toArray, List.getElem?_cons_succ, List.getElem?_cons_zero]; exact rfl) (by kernel_rfl) (by kernel_rfl) (by kernel_rfl) (by intro _ _ _ h; exact h) (Or.inl ⟨by rfl, ?y35⟩) hHeld ?_
        case y35 => (intro w hSw; (try dsimp only at hSw); go_simp; try (with_reducible rfl))
        try simp only [Act.put, List.setIfInBounds_toArray, List.set_cons_zero, List.set_cons_succ]
        refine wpAnyH_done (by kernel_rfl) ?_ _
        all_goals
          go_wp2
          go_ret
          exact ⟨ret_bool (by rw [HP.out]; exact HM.out.symm), hqc⟩
    | some f =>
      have hfa := (fold_names HS.out hf).1
      have HF := Lib.hid hf
      rw [hf] at hat hmiss hstep
      obtain ⟨fa, fb, fc⟩ := f
      simp only at hfa
      subst hfa
      simp only [Option.getD_some, Option.isSome_some, triV] at hat
      clear hf
      go_wp2_with (go_at_call 67; refine hhas.mono ?_; rintro e w' ⟨rfl, rfl⟩)
      apply meet2 (H := fun (nb : Nat) (wn : World) => Below wr.heap.size wr wn ∧ wr.heap.size ≤ nb ∧ wn.cell? ⟨nb, 0, none⟩ = some (.int .i64 (j : Int)) ∧ wn.cell? ⟨nb, 1, none⟩ = some (.int .i64 fb) ∧ wn.cell? ⟨nb, 2, none⟩ = some (.int .i64 fc))
      case orders =>
        intro rest
        refine wp_region_held_drew (S := (fun w' => w'.cell? ⟨w.heap.size, 0, none⟩ = some (Value.slice gva (rowsN a s g.length).length gvc) ∧ w'.cell? ⟨ub, uo + k * 3, none⟩ = some (.int .i64 (j : Int)))) (by kernel_rfl) ?_ (fun hHeld => ?_)
        · first | exact ⟨cG, t0⟩ | exact ⟨cg, cl⟩ | exact ⟨hcg, hcl⟩
        have hd : Below wr.heap.size wr wr.drew := (Below.refl _ _).drew
        generalize wr.drew = wd at hd hHeld ⊢
        obtain ⟨cg, cl⟩ := hHeld
        have hHeld : (fun w' => w'.cell? ⟨w.heap.size, 0, none⟩ = some (Value.slice gva (rowsN a s g.length).length gvc) ∧ w'.cell? ⟨ub, uo + k * 3, none⟩ = some (.int .i64 (j : Int))) wd := ⟨cg, cl⟩
        refine wpAnyH_take (i := 0) (v := ?v36) (by simp only [List.getElem?_toArray, List.getElem?_cons_zero]; exact rfl) (by kernel_rfl) (by kernel_rfl) (by kernel_rfl) (by intro _ _ _ h; exact h) (Or.inl ⟨by rfl, ?y36⟩) hHeld ?_
        case y36 => (intro w hSw; (try dsimp only at hSw); go_simp; try (with_reducible rfl))
        try simp only [Act.put, List.setIfInBounds_toArray, List.set_cons_zero, List.set_cons_succ]
        refine wpAnyH_take (i := 1) (v := ?v37) (by simp only [List.getElem?_toArray, List.getElem?_cons_succ, List.getElem?_cons_zero]; exact rfl) (by kernel_rfl) (by kernel_rfl) (by kernel_rfl) (by intro _ _ _ h; exact h) (Or.inl ⟨by rfl, ?y37⟩) hHeld ?_
        case y37 => (intro w hSw; (try dsimp only at hSw); go_simp; try (with_reducible rfl))
        try simp only [Act.put, List.setIfInBounds_toArray, List.set_cons_zero, List.set_cons_succ]
        refine wpAnyH_take (i := 2) (v := ?v38) (by simp only [List.getElem?_toArray, List.getElem?_cons_succ, List.getElem?_cons_zero]; exact rfl) (by kernel_rfl) (by kernel_rfl) (by kernel_rfl) (by intro _ _ _ h; exact h) (Or.inl ⟨by rfl, ?y38⟩) hHeld ?_
        case y38 => (intro w hSw; (try dsimp only at hSw); go_simp; try (with_reducible rfl))
        try simp only [Act.put, List.setIfInBounds_toArray, List.set_cons_zero, List.set_cons_succ]
        refine wpAnyH_take (i := 3) (v := ?v39) (by simp only [List.getElem?_toArray, List.getElem?_cons_succ, List.getElem?_cons_zero]; exact rfl) (by kernel_rfl) (by kernel_rfl) (by kernel_rfl) (by intro _ _ _ h; exact h) (Or.inl ⟨by rfl, ?y39⟩) hHeld ?_
        case y39 => (intro w hSw; (try dsimp only at hSw); go_simp; try (with_reducible rfl))
        try simp only [Act.put, List.setIfInBounds_toArray, List.set_cons_zero, List.set_cons_succ]
        refine wpAnyH_take (i := 4) (v := ?v40) (by simp only [List.getElem?_toArray, List.getElem?_cons_succ, List.getElem?_cons_zero]; exact rfl) (by kernel_rfl) (by kernel_rfl) (by kernel_rfl) (by intro _ _ _ h; exact h) (Or.inl ⟨by rfl, ?y40⟩) hHeld ?_
        case y40 => (intro w hSw; (try dsimp only at hSw); go_simp; try (with_reducible rfl))
        try simp only [Act.put, List.setIfInBounds_toArray, List.set_cons_zero, List.set_cons_succ]
        refine wpAnyH_take (i := 5) (v := ?v41) (by simp only [List.getElem?_toArray, List.getElem?_cons_succ, List.getElem?_cons_zero]; exact rfl) (by kernel_rfl) (by kernel_rfl) (by kernel_rfl) (by intro _ _ _ h; exact h) (Or.inl ⟨by rfl, ?y41⟩) hHeld ?_
        case y41 => (intro w hSw; (try dsimp only at hSw); go_simp; try (with_reducible rfl))
        try simp only [Act.put, List.setIfInBounds_toArray, List.set_cons_zero, List.set_cons_succ]
        refine wpAnyH_ready (rs := [6, 10]) (by kernel_rfl) (by simp) ?_
        refine (AllReadyH.cons (by simp only [List.getElem?_toArray, List.getElem?_cons_succ, List.getElem?_cons_zero]; exact rfl) (fun K hK => ?b42_6) (AllReadyH.cons (by simp only [List.getElem?_toArray, List.getElem?_cons_succ, List.getElem?_cons_zero]; exact rfl) (fun K hK => ?b42_10) AllReadyH.nil))
        case b42_6 =>
          go_simp
          refine (hat wd hd).mono ?_
          rintro e wn ⟨rfl, hbn⟩
          try (have n0 := (hbn.cell (cell_lt n0)).trans n0)
          try (have n1 := (hbn.cell (cell_lt n1)).trans n1)
          try (have n2 := (hbn.cell (cell_lt n2)).trans n2)
          try (have g0 := (hbn.frozen (p := ⟨nb, 0, none⟩) hnl).trans g0)
          try (have g1 := (hbn.frozen (p := ⟨nb, 1, none⟩) hnl).trans g1)
          try (have g2 := (hbn.frozen (p := ⟨nb, 2, none⟩) hnl).trans g2)
          try (have hnl := Nat.lt_of_lt_of_le hnl hbn.size)
          have cg := (hbn.cell (cell_lt cg)).trans cg
          have cl := (hbn.cell (cell_lt cl)).trans cl
          have hd := hd.trans (hbn.mono hd.size)
          obtain ⟨wd, rfl⟩ : ∃ wx : World, wx = wn := ⟨_, rfl⟩
          try dsimp only
          refine hK.out _ _ ?h43 (fun hHeld => ?_)
          case h43 => first | exact ⟨cG, t0⟩ | exact ⟨cg, cl⟩ | exact ⟨hcg, hcl⟩
          clear hK K
          try simp only [Act.put, List.setIfInBounds_toArray, List.set_cons_zero, List.set_cons_succ]
          refine wpAnyH_take (i := 7) (v := ?v44) (by simp only [List.getElem?_toArray, List.getElem?_cons_succ, List.getElem?_cons_zero]; exact rfl) (by kernel_rfl) (by kernel_rfl) (by kernel_rfl) (by intro _ _ _ h; exact h) (Or.inl ⟨by rfl, ?y44⟩) hHeld ?_
          case y44 => (intro w hSw; (try dsimp only at hSw); go_simp; try (with_reducible rfl))
          try simp only [Act.put, List.setIfInBounds_toArray, List.set_cons_zero, List.set_cons_succ]
          refine wpAnyH_take (i := 8) (v := ?v45) (by simp only [List.getElem?_toArray, List.getElem?_cons_succ, List.getElem?_cons_zero]; exact rfl) (by kernel_rfl) (by kernel_rfl) (by kernel_rfl) (by intro _ _ _ h; exact h) (Or.inl ⟨by rfl, ?y45⟩) hHeld ?_
          case y45 => (intro w hSw; (try dsimp only at hSw); go_simp; try (with_reducible rfl))
          try simp only [Act.put, List.setIfInBounds_toArray, List.set_cons_zero, List.set_cons_succ]
          refine wpAnyH_take (i := 9) (v := ?v46) (by simp only [List.getElem?_toArray, List.getElem?_cons_succ, List.getElem?_cons_zero]; exact rfl) (by kernel_rfl) (by kernel_rfl) (by kernel_rfl) (by intro _ _ _ h; exact h) (Or.inl ⟨by rfl, ?y46⟩) hHeld ?_
          case y46 => (intro w hSw; (try dsimp only at hSw); go_simp; try (with_reducible rfl))
          try simp only [Act.put, List.setIfInBounds_toArray, List.set_cons_zero, List.set_cons_succ]
          refine wpAnyH_ready (rs := [10]) (by kernel_rfl) (by simp) ?_
          refine AllReadyH.cons (by simp only [List.getElem?_toArray, List.getElem?_cons_succ, List.getElem?_cons_zero]; exact rfl) (fun K hK => ?_) AllReadyH.nil
          go_simp
          have hbn : Below wd.heap.size wd (wd.alloc (.cells #[.int .i64 0, .int .i64 0, .int .i64 0] 86)) := (Below.refl _ _).alloc (Nat.le_refl _) _
          have n0 : (wd.alloc (.cells #[.int .i64 0, .int .i64 0, .int .i64 0] 86)).cell? ⟨wd.heap.size, 0, none⟩ = some (.int .i64 0) := (by simp [go_sem])
          have n1 : (wd.alloc (.cells #[.int .i64 0, .int .i64 0, .int .i64 0] 86)).cell? ⟨wd.heap.size, 1, none⟩ = some (.int .i64 0) := (by simp [go_sem])
          have n2 : (wd.alloc (.cells #[.int .i64 0, .int .i64 0, .int .i64 0] 86)).cell? ⟨wd.heap.size, 2, none⟩ = some (.int .i64 0) := (by simp [go_sem])
          have g0 : (wd.alloc (.cells #[.int .i64 0, .int .i64 0, .int .i64 0] 86)).frozen? ⟨wd.heap.size, 0, none⟩ = false := (by simp [go_sem])
          have g1 : (wd.alloc (.cells #[.int .i64 0, .int .i64 0, .int .i64 0] 86)).frozen? ⟨wd.heap.size, 1, none⟩ = false := (by simp [go_sem])
          have g2 : (wd.alloc (.cells #[.int .i64 0, .int .i64 0, .int .i64 0] 86)).frozen? ⟨wd.heap.size, 2, none⟩ = false := (by simp [go_sem])
          have hnl : wd.heap.size < (wd.alloc (.cells #[.int .i64 0, .int .i64 0, .int .i64 0] 86)).heap.size := (by simp)
          have hnb : wr.heap.size ≤ wd.heap.size := hd.size
          have cg := (hbn.cell (cell_lt cg)).trans cg
          have cl := (hbn.cell (cell_lt cl)).trans cl
          have hd := hd.trans (hbn.mono hd.size)
          generalize (wd.alloc (.cells #[.int .i64 0, .int .i64 0, .int .i64 0] 86)) = wn at *
          generalize wd.heap.size = nb at n0 n1 n2 g0 g1 g2 hnl hnb ⊢
          obtain ⟨wd, rfl⟩ : ∃ wx : World, wx = wn := ⟨_, rfl⟩
          try dsimp only
          refine hK.out _ _ ?h48 (fun hHeld => ?_)
          case h48 => first | exact ⟨cG, t0⟩ | exact ⟨cg, cl⟩ | exact ⟨hcg, hcl⟩
          clear hK K
          try simp only [Act.put, List.setIfInBounds_toArray, List.set_cons_zero, List.set_cons_succ]
          refine wpAnyH_ready (rs := [11]) (by kernel_rfl) (by simp) ?_
          refine AllReadyH.cons (by simp only [List.getElem?_toArray, List.getElem?_cons_succ, List.getElem?_cons_zero]; exact rfl) (fun K hK => ?_) AllReadyH.nil
          go_simp
          have hcg : (((wd.setCell ⟨nb, 0, none⟩ (.int .i64 (j : Int))).setCell ⟨nb, 1, none⟩ (.int .i64 fb)).setCell ⟨nb, 2, none⟩ (.int .i64 fc)).cell? ⟨w.heap.size, 0, none⟩ = some (Value.slice gva (rowsN a s g.length).length gvc) := (World.cell?_of_block (a := ⟨w.heap.size, 0, none⟩) ((Below.heap_setCell _ _ _ _ (by simp; omega)).trans ((Below.heap_setCell _ _ _ _ (by simp; omega)).trans (Below.heap_setCell _ _ _ _ (by simp; omega))))).trans cg
          have hcl : (((wd.setCell ⟨nb, 0, none⟩ (.int .i64 (j : Int))).setCell ⟨nb, 1, none⟩ (.int .i64 fb)).setCell ⟨nb, 2, none⟩ (.int .i64 fc)).cell? ⟨ub, uo + k * 3, none⟩ = some (.int .i64 (j : Int)) := (World.cell?_of_block (a := ⟨ub, uo + k * 3, none⟩) ((Below.heap_setCell _ _ _ _ (by simp; omega)).trans ((Below.heap_setCell _ _ _ _ (by simp; omega)).trans (Below.heap_setCell _ _ _ _ (by simp; omega))))).trans cl
          try dsimp only
          refine hK.out _ _ ?h50 (fun hHeld => ?_)
          case h50 => first | exact ⟨cG, t0⟩ | exact ⟨cg, cl⟩ | exact ⟨hcg, hcl⟩
          clear hK K
          try simp only [Act.put, List.setIfInBounds_toArray, List.set_cons_zero, List.set_cons_succ]
          refine wpAnyH_take (i := 12) (v := ?v51) (by simp only [List.getElem?_toArray, List.getElem?_cons_succ, List.getElem?_cons_zero]; exact rfl) (by kernel_rfl) (by kernel_rfl) (by kernel_rfl) (by intro _ _ _ h; exact h) (Or.inl ⟨by rfl, ?y51⟩) hHeld ?_
          case y51 => (intro w hSw; (try dsimp only at hSw); go_simp; try (with_reducible rfl))
          try simp only [Act.put, List.setIfInBounds_toArray, List.set_cons_zero, List.set_cons_succ]
          refine wpAnyH_done (by kernel_rfl) ?_ _
          exact rest nb _ ⟨((hd.setCell hnb _).setCell hnb _).setCell hnb _, hnb, by (simp [go_sem, n0, n1, n2]), by (simp [go_sem, n0, n1, n2]), by (simp [go_sem, n0, n1, n2])⟩
        case b42_10 =>
          go_simp
          have hbn : Below wd.heap.size wd (wd.alloc (.cells #[.int .i64 0, .int .i64 0, .int .i64 0] 86)) := (Below.refl _ _).alloc (Nat.le_refl _) _
          have n0 : (wd.alloc (.cells #[.int .i64 0, .int .i64 0, .int .i64 0] 86)).cell? ⟨wd.heap.size, 0, none⟩ = some (.int .i64 0) := (by simp [go_sem])
          have n1 : (wd.alloc (.cells #[.int .i64 0, .int .i64 0, .int .i64 0] 86)).cell? ⟨wd.heap.size, 1, none⟩ = some (.int .i64 0) := (by simp [go_sem])
          have n2 : (wd.alloc (.cells #[.int .i64 0, .int .i64 0, .int .i64 0] 86)).cell? ⟨wd.heap.size, 2, none⟩ = some (.int .i64 0) := (by simp [go_sem])
          have g0 : (wd.alloc (.cells #[.int .i64 0, .int .i64 0, .int .i64 0] 86)).frozen? ⟨wd.heap.size, 0, none⟩ = false := (by simp [go_sem])
          have g1 : (wd.alloc (.cells #[.int .i64 0, .int .i64 0, .int .i64 0] 86)).frozen? ⟨wd.heap.size, 1, none⟩ = false := (by simp [go_sem])
          have g2 : (wd.alloc (.cells #[.int .i64 0, .int .i64 0, .int .i64 0] 86)).frozen? ⟨wd.heap.size, 2, none⟩ = false := (by simp [go_sem])
          have hnl : wd.heap.size < (wd.alloc (.cells #[.int .i64 0, .int .i64 0, .int .i64 0] 86)).heap.size := (by simp)
          have hnb : wr.heap.size ≤ wd.heap.size := hd.size
          have cg := (hbn.cell (cell_lt cg)).trans cg
          have cl := (hbn.cell (cell_lt cl)).trans cl
          have hd := hd.trans (hbn.mono hd.size)
          generalize (wd.alloc (.cells #[.int .i64 0, .int .i64 0, .int .i64 0] 86)) = wn at *
          generalize wd.heap.size = nb at n0 n1 n2 g0 g1 g2 hnl hnb ⊢
          obtain ⟨wd, rfl⟩ : ∃ wx : World, wx = wn := ⟨_, rfl⟩
          try dsimp only
          refine hK.out _ _ ?h52 (fun hHeld => ?_)
          case h52 => first | exact ⟨cG, t0⟩ | exact ⟨cg, cl⟩ | exact ⟨hcg, hcl⟩
          clear hK K
          try simp only [Act.put, List.setIfInBounds_toArray, List.set_cons_zero, List.set_cons_succ]
          refine wpAnyH_ready (rs := [6]) (by kernel_rfl) (by simp) ?_
          refine AllReadyH.cons (by simp only [List.getElem?_toArray, List.getElem?_cons_succ, List.getElem?_cons_zero]; exact rfl) (fun K hK => ?_) AllReadyH.nil
          go_simp
          refine (hat wd hd).mono ?_
          rintro e wn ⟨rfl, hbn⟩
          try (have n0 := (hbn.cell (cell_lt n0)).trans n0)
          try (have n1 := (hbn.cell (cell_lt n1)).trans n1)
          try (have n2 := (hbn.cell (cell_lt n2)).trans n2)
          try (have g0 := (hbn.frozen (p := ⟨nb, 0, none⟩) hnl).trans g0)
          try (have g1 := (hbn.frozen (p := ⟨nb, 1, none⟩) hnl).trans g1)
          try (have g2 := (hbn.frozen (p := ⟨nb, 2, none⟩) hnl).trans g2)
          try (have hnl := Nat.lt_of_lt_of_le hnl hbn.size)
          have cg := (hbn.cell (cell_lt cg)).trans cg
          have cl := (hbn.cell (cell_lt cl)).trans cl
          have hd := hd.trans (hbn.mono hd.size)
          obtain ⟨wd, rfl⟩ : ∃ wx : World, wx = wn := ⟨_, rfl⟩
          try dsimp only
          refine hK.out _ _ ?h54 (fun hHeld => ?_)
          case h54 => first | exact ⟨cG, t0⟩ | exact ⟨cg, cl⟩ | exact ⟨hcg, hcl⟩
          clear hK K
          try simp only [Act.put, List.setIfInBounds_toArray, List.set_cons_zero, List.set_cons_succ]
          refine wpAnyH_take (i := 7) (v := ?v55) (by simp only [List.getElem?_toArray, List.getElem?_cons_succ, List.getElem?_cons_zero]; exact rfl) (by kernel_rfl) (by kernel_rfl) (by kernel_rfl) (by intro _ _ _ h; exact h) (Or.inl ⟨by rfl, ?y55⟩) hHeld ?_
          case y55 => (intro w hSw; (try dsimp only at hSw); go_simp; try (with_reducible rfl))
          try simp only [Act.put, List.setIfInBounds_toArray, List.set_cons_zero, List.set_cons_succ]
          refine wpAnyH_take (i := 8) (v := ?v56) (by simp only [List.getElem?_toArray, List.getElem?_cons_succ, List.getElem?_cons_zero]; exact rfl) (by kernel_rfl) (by kernel_rfl) (by kernel_rfl) (by intro _ _ _ h; exact h) (Or.inl ⟨by rfl, ?y56⟩) hHeld ?_
          case y56 => (intro w hSw; (try dsimp only at hSw); go_simp; try (with_reducible rfl))
          try simp only [Act.put, List.setIfInBounds_toArray, List.set_cons_zero, List.set_cons_succ]
          refine wpAnyH_take (i := 9) (v := ?v57) (by simp only [List.getElem?_toArray, List.getElem?_cons_succ, List.getElem?_cons_zero]; exact rfl) (by kernel_rfl) (by kernel_rfl) (by kernel_rfl) (by intro _ _ _ h; exact h) (Or.inl ⟨by rfl, ?y57⟩) hHeld ?_
          case y57 => (intro w hSw; (try dsimp only at hSw); go_simp; try (with_reducible rfl))
          try simp only [Act.put, List.setIfInBounds_toArray, List.set_cons_zero, List.set_cons_succ]
          refine wpAnyH_ready (rs := [11]) (by kernel_rfl) (by simp) ?_
          refine AllReadyH.cons (by simp only [List.getElem?_toArray, List.getElem?_cons_succ, List.getElem?_cons_zero]; exact rfl) (fun K hK => ?_) AllReadyH.nil
          go_simp
          have hcg : (((wd.setCell ⟨nb, 0, none⟩ (.int .i64 (j : Int))).setCell ⟨nb, 1, none⟩ (.int .i64 fb)).setCell ⟨nb, 2, none⟩ (.int .i64 fc)).cell? ⟨w.heap.size, 0, none⟩ = some (Value.slice gva (rowsN a s g.length).length gvc) := (World.cell?_of_block (a := ⟨w.heap.size, 0, none⟩) ((Below.heap_setCell _ _ _ _ (by simp; omega)).trans ((Below.heap_setCell _ _ _ _ (by simp; omega)).trans (Below.heap_setCell _ _ _ _ (by simp; omega))))).trans cg
          have hcl : (((wd.setCell ⟨nb, 0, none⟩ (.int .i64 (j : Int))).setCell ⟨nb, 1, none⟩ (.int .i64 fb)).setCell ⟨nb, 2, none⟩ (.int .i64 fc)).cell? ⟨ub, uo + k * 3, none⟩ = some (.int .i64 (j : Int)) := (World.cell?_of_block (a := ⟨ub, uo + k * 3, none⟩) ((Below.heap_setCell _ _ _ _ (by simp; omega)).trans ((Below.heap_setCell _ _ _ _ (by simp; omega)).trans (Below.heap_setCell _ _ _ _ (by simp; omega))))).trans cl
          try dsimp only
          refine hK.out _ _ ?h59 (fun hHeld => ?_)
          case h59 => first | exact ⟨cG, t0⟩ | exact ⟨cg, cl⟩ | exact ⟨hcg, hcl⟩
          clear hK K
          try simp only [Act.put, List.setIfInBounds_toArray, List.set_cons_zero, List.set_cons_succ]
          refine wpAnyH_take (i := 12) (v := ?v60) (by simp only [List.getElem?_toArray, List.getElem?_cons_succ, List.getElem?_cons_zero]; exact rfl) (by kernel_rfl) (by kernel_rfl) (by kernel_rfl) (by intro _ _ _ h; exact h) (Or.inl ⟨by rfl, ?y60⟩) hHeld ?_
          case y60 => (intro w hSw; (try dsimp only at hSw); go_simp; try (with_reducible rfl))
          try simp only [Act.put, List.setIfInBounds_toArray, List.set_cons_zero, List.set_cons_succ]
          refine wpAnyH_done (by kernel_rfl) ?_ _
          exact rest nb _ ⟨((hd.setCell hnb _).setCell hnb _).setCell hnb _, hnb, by (simp [go_sem, n0, n1, n2]), by (simp [go_sem, n0, n1, n2]), by (simp [go_sem, n0, n1, n2])⟩
      case rest =>
        intro nb wn ⟨hd, hnb, n0, n1, n2⟩
        clear hat hhas
        have hqn := hq.trans (hd.mono hq.size)
        have u0 := (hd.cell (cell_lt t0)).trans t0
        have u1 := (hd.cell (cell_lt t1)).trans t1
        have u2' := (hd.cell (cell_lt t2)).trans t2
        have hgd := fun (p q : Operand) (W : World) => eqGuard_fold p q ⟨(j : Int), fb, fc⟩ ⟨(j : Int), y, z⟩ W
        simp only at hgd
        by_cases he : (⟨(j : Int), fb, fc⟩ : Tri) = ⟨(j : Int), y, z⟩
        case neg =>
          have hne : ∀ W : World, (binOp .neq 86 (.agg #[.int .i64 (j : Int), .int .i64 fb, .int .i64 fc]) (.agg #[.int .i64 (j : Int), .int .i64 y, .int .i64 z])).run Tryd.prog W = .ok (.bool true) W := fun W => (neq_fold ⟨(j : Int), fb, fc⟩ ⟨(j : Int), y, z⟩ W).trans (by rw [decide_eq_false he]; rfl)
          have HM := Lib.hid (hmiss (by rw [decide_eq_false_iff_not]; intro h; exact he (Option.some.inj h)))
          clear hmiss hstep he t0 t1 t2 c0 c1 c2
          go_wp2
          refine wp_region_held_drew (S := (fun w' => w'.cell? ⟨nb, 0, none⟩ = some (.int .i64 (j : Int)) ∧ w'.cell? ⟨nb, 1, none⟩ = some (.int .i64 fb) ∧ w'.cell? ⟨nb, 2, none⟩ = some (.int .i64 fc) ∧ w'.cell? ⟨ub, uo + k * 3, none⟩ = some (.int .i64 (j : Int)) ∧ w'.cell? ⟨ub, uo + k * 3 + 1, none⟩ = some (.int .i64 y) ∧ w'.cell? ⟨ub, uo + k * 3 + 2, none⟩ = some (.int .i64 z))) (by kernel_rfl) ?_ (fun hHeld => ?_)
          · first | exact ⟨n0, n1, n2, u0, u1, u2'⟩ | assumption | (simp [*, go_sem])
          have hqc := hqn.drew
          generalize wn.drew = wd at hqc hHeld ⊢
          have hHeld2 := hHeld
          obtain ⟨n0d, n1d, n2d, u0d, u1d, u2d⟩ := hHeld2
          refine wpAnyH_take (i := 0) (v := ?v61) (by simp only [List.getElem?_toArray, List.getElem?_cons_zero]; exact rfl) (by kernel_rfl) (by kernel_rfl) (by kernel_rfl) (by intro _ _ _ h; exact h) (Or.inl ⟨by rfl, ?y61⟩) hHeld ?_
          case y61 => (intro w hSw; (try dsimp only at hSw); go_simp; try (with_reducible rfl))
          try simp only [Act.put, List.setIfInBounds_toArray, List.set_cons_zero, List.set_cons_succ]
          refine wpAnyH_take (i := 1) (v := ?v62) (by simp only [List.getElem?_toArray, List.getElem?_cons_succ, List.getElem?_cons_zero]; exact rfl) (by kernel_rfl) (by kernel_rfl) (by kernel_rfl) (by intro _ _ _ h; exact h) (Or.inl ⟨by rfl, ?y62⟩) hHeld ?_
          case y62 => (intro w hSw; (try dsimp only at hSw); go_simp; try (with_reducible rfl))
          try simp only [Act.put, List.setIfInBounds_toArray, List.set_cons_zero, List.set_cons_succ]
          refine wpAnyH_take (i := 2) (v := ?v63) (by simp only [List.getElem?_toArray, List.getElem?_cons_succ, List.getElem?_cons_zero]; exact rfl) (by kernel_rfl) (by kernel_rfl) (by kernel_rfl) (by intro _ _ _ h; exact h) (Or.inl ⟨by rfl, ?y63⟩) hHeld ?_
          case y63 => (intro w hSw; (try dsimp only at hSw); go_simp; try (with_reducible rfl))
          try simp only [Act.put, List.setIfInBounds_toArray, List.set_cons_zero, List.set_cons_succ]
          refine wpAnyH_take (i := 3) (v := ?v64) (by simp only [List.getElem?_toArray, List.getElem?_cons_succ, List.getElem?_cons_zero]; exact rfl) (by kernel_rfl) (by kernel_rfl) (by kernel_rfl) (by intro _ _ _ h; exact h) (Or.inl ⟨by rfl, ?y64⟩) hHeld ?_
          case y64 => (intro w hSw; (try dsimp only at hSw); go_simp; try (with_reducible rfl))
          try simp only [Act.put, List.setIfInBounds_toArray, List.set_cons_zero, List.set_cons_succ]
          refine wpAnyH_take (i := 4) (v := ?v65) (by simp only [List.getElem?_toArray, List.getElem?_cons_succ, List.getElem?_cons_zero]; exact rfl) (by kernel_rfl) (by kernel_rfl) (by kernel_rfl) (by intro _ _ _ h; exact h) (Or.inl ⟨by rfl, ?y65⟩) hHeld ?_
          case y65 => (intro w hSw; (try dsimp only at hSw); go_simp; try (with_reducible rfl))
          try simp only [Act.put, List.setIfInBounds_toArray, List.set_cons_zero, List.set_cons_succ]
          refine wpAnyH_take (i := 5) (v := ?v66) (by simp only [List.getElem?_toArray, List.getElem?_cons_succ, List.getElem?_cons_zero]; exact rfl) (by kernel_rfl) (by kernel_rfl) (by kernel_rfl) (by intro _ _ _ h; exact h) (Or.inl ⟨by rfl, ?y66⟩) hHeld ?_
          case y66 => (intro w hSw; (try dsimp only at hSw); go_simp; try (with_reducible rfl))
          try simp only [Act.put, List.setIfInBounds_toArray, List.set_cons_zero, List.set_cons_succ]
          refine wpAnyH_take (i := 6) (v := ?v67) (by simp only [List.getElem?_toArray, List.getElem?_cons_succ, List.getElem?_cons_zero]; exact rfl) (by kernel_rfl) (by kernel_rfl) (by kernel_rfl) (by intro _ _ _ h; exact h) (Or.inl ⟨by rfl, ?y67⟩) hHeld ?_
          case y67 => (intro w hSw; (try dsimp only at hSw); go_simp; try (with_reducible rfl))
          try simp only [Act.put, List.setIfInBounds_toArray, List.set_cons_zero, List.set_cons_succ]
          refine wpAnyH_take (i := 7) (v := ?v68) (by simp only [List.getElem?_toArray, List.getElem?_cons_succ, List.getElem?_cons_zero]; exact rfl) (by kernel_rfl) (by kernel_rfl) (by kernel_rfl) (by intro _ _ _ h; exact h) (Or.inl ⟨by rfl, ?y68⟩) hHeld ?_
          case y68 => (intro w hSw; (try dsimp only at hSw); go_simp; try (with_reducible rfl))
          try simp only [Act.put, List.setIfInBounds_toArray, List.set_cons_zero, List.set_cons_succ]
          refine wpAnyH_take (i := 8) (v := ?v69) (by simp only [List.getElem?_toArray, List.getElem?_cons_succ, List.getElem?_cons_zero]; exact rfl) (by kernel_rfl) (by kernel_rfl) (by kernel_rfl) (by intro _ _ _ h; exact h) (Or.inl ⟨by rfl, ?y69⟩) hHeld ?_
          case y69 => (intro w hSw; (try dsimp only at hSw); go_simp; try (with_reducible rfl))
          try simp only [Act.put, List.setIfInBounds_toArray, List.set_cons_zero, List.set_cons_succ]
          refine wpAnyH_take (i := 9) (v := ?v70) (by simp only [List.getElem?_toArray, List.getElem?_cons_succ, List.getElem?_cons_zero]; exact rfl) (by kernel_rfl) (by kernel_rfl) (by kernel_rfl) (by intro _ _ _ h; exact h) (Or.inl ⟨by rfl, ?y70⟩) hHeld ?_
          case y70 => (intro w hSw; (try dsimp only at hSw); go_simp; try (with_reducible rfl))
          try simp only [Act.put, List.setIfInBounds_toArray, List.set_cons_zero, List.set_cons_succ]
          refine wpAnyH_done (by kernel_rfl) ?_ _
          all_goals
            go_wp2
            go_ret
            exact ⟨ret_bool (by rw [HP.out]; exact HM.out.symm), hqc⟩
        obtain ⟨rfl, rfl⟩ : fb = y ∧ fc = z := by simpa using he
        have hne : ∀ W : World, (binOp .neq 86 (.agg #[.int .i64 (j : Int), .int .i64 fb, .int .i64 fc]) (.agg #[.int .i64 (j : Int), .int .i64 fb, .int .i64 fc])).run Tryd.prog W = .ok (.bool false) W := fun W => (neq_fold ⟨(j : Int), fb, fc⟩ ⟨(j : Int), fb, fc⟩ W).trans (by simp)
        have HT := Lib.hid (hstep (by simp))
        have hJ2 := HS.out.next hjn HF.out
        have hfo := fun (w5 : World) (S2 : Nat → Prop) (gv : Value) (h : SlR S2 w5 gv (rowsN a s g.length)) => l20Fold_any HS.out hjn HF.out h
        simp only [triV] at hfo
        have hbxn := hbx.below hd (Nat.le_refl _)
        have hgvn := hgv.below hd (Nat.le_refl _)
        have hln := hl.below hd (Nat.le_refl _)
        have cGn := (hd.cell (cell_lt cG)).trans cG
        have hzn := hd.size
        have hnl4 := cell_lt n0
        simp only at hnl4
        clear hmiss hstep he t0 t1 t2 c0 c1 c2 hbx hgv hl cG hd
        go_wp2
        refine wp_region_held_drew (S := (fun w' => w'.cell? ⟨nb, 0, none⟩ = some (.int .i64 (j : Int)) ∧ w'.cell? ⟨nb, 1, none⟩ = some (.int .i64 fb) ∧ w'.cell? ⟨nb, 2, none⟩ = some (.int .i64 fc) ∧ w'.cell? ⟨ub, uo + k * 3, none⟩ = some (.int .i64 (j : Int)) ∧ w'.cell? ⟨ub, uo + k * 3 + 1, none⟩ = some (.int .i64 fb) ∧ w'.cell? ⟨ub, uo + k * 3 + 2, none⟩ = some (.int .i64 fc))) (by kernel_rfl) ?_ (fun hHeld => ?_)
        · first | exact ⟨n0, n1, n2, u0, u1, u2'⟩ | assumption | (simp [*, go_sem])
        have hqc := hqn.drew
        have hbxc : Own wn.drew w.heap.size 27 1 (.slice (some ⟨w.heap.size, 0, none⟩) 1 1) 1 [.slice gva (rowsN a s g.length).length gvc] := hbxn
        have hgvc := hgvn.drew
        have hlc := hln.drew
        have cGc : wn.drew.cell? ⟨w.heap.size, 0, none⟩ = some (Value.slice gva (rowsN a s g.length).length gvc) := cGn
        have hzc : wr.heap.size ≤ wn.drew.heap.size := hzn
        have hnlc : nb < wn.drew.heap.size := hnl4
        generalize wn.drew = wd at hqc hbxc hgvc hlc cGc hzc hnlc hHeld ⊢
        have hHeld2 := hHeld
        obtain ⟨n0d, n1d, n2d, u0d, u1d, u2d⟩ := hHeld2
        refine wpAnyH_take (i := 0) (v := ?v71) (by simp only [List.getElem?_toArray, List.getElem?_cons_zero]; exact rfl) (by kernel_rfl) (by kernel_rfl) (by kernel_rfl) (by intro _ _ _ h; exact h) (Or.inl ⟨by rfl, ?y71⟩) hHeld ?_
        case y71 => (intro w hSw; (try dsimp only at hSw); go_simp; try (with_reducible rfl))
        try simp only [Act.put, List.setIfInBounds_toArray, List.set_cons_zero, List.set_cons_succ]
        refine wpAnyH_take (i := 1) (v := ?v72) (by simp only [List.getElem?_toArray, List.getElem?_cons_succ, List.getElem?_cons_zero]; exact rfl) (by kernel_rfl) (by kernel_rfl) (by kernel_rfl) (by intro _ _ _ h; exact h) (Or.inl ⟨by rfl, ?y72⟩) hHeld ?_
        case y72 => (intro w hSw; (try dsimp only at hSw); go_simp; try (with_reducible rfl))
        try simp only [Act.put, List.setIfInBounds_toArray, List.set_cons_zero, List.set_cons_succ]
        refine wpAnyH_take (i := 2) (v := ?v73) (by simp only [List.getElem?_toArray, List.getElem?_cons_succ, List.getElem?_cons_zero]; exact rfl) (by kernel_rfl) (by kernel_rfl) (by kernel_rfl) (by intro _ _ _ h; exact h) (Or.inl ⟨by rfl, ?y73⟩) hHeld ?_
        case y73 => (intro w hSw; (try dsimp only at hSw); go_simp; try (with_reducible rfl))
        try simp only [Act.put, List.setIfInBounds_toArray, List.set_cons_zero, List.set_cons_succ]
        refine wpAnyH_take (i := 3) (v := ?v74) (by simp only [List.getElem?_toArray, List.getElem?_cons_succ, List.getElem?_cons_zero]; exact rfl) (by kernel_rfl) (by kernel_rfl) (by kernel_rfl) (by intro _ _ _ h; exact h) (Or.inl ⟨by rfl, ?y74⟩) hHeld ?_
        case y74 => (intro w hSw; (try dsimp only at hSw); go_simp; try (with_reducible rfl))
        try simp only [Act.put, List.setIfInBounds_toArray, List.set_cons_zero, List.set_cons_succ]
        refine wpAnyH_take (i := 4) (v := ?v75) (by simp only [List.getElem?_toArray, List.getElem?_cons_succ, List.getElem?_cons_zero]; exact rfl) (by kernel_rfl) (by kernel_rfl) (by kernel_rfl) (by intro _ _ _ h; exact h) (Or.inl ⟨by rfl, ?y75⟩) hHeld ?_
        case y75 => (intro w hSw; (try dsimp only at hSw); go_simp; try (with_reducible rfl))
        try simp only [Act.put, List.setIfInBounds_toArray, List.set_cons_zero, List.set_cons_succ]
        refine wpAnyH_take (i := 5) (v := ?v76) (by simp only [List.getElem?_toArray, List.getElem?_cons_succ, List.getElem?_cons_zero]; exact rfl) (by kernel_rfl) (by kernel_rfl) (by kernel_rfl) (by intro _ _ _ h; exact h) (Or.inl ⟨by rfl, ?y76⟩) hHeld ?_
        case y76 => (intro w hSw; (try dsimp only at hSw); go_simp; try (with_reducible rfl))
        try simp only [Act.put, List.setIfInBounds_toArray, List.set_cons_zero, List.set_cons_succ]
        refine wpAnyH_take (i := 6) (v := ?v77) (by simp only [List.getElem?_toArray, List.getElem?_cons_succ, List.getElem?_cons_zero]; exact rfl) (by kernel_rfl) (by kernel_rfl) (by kernel_rfl) (by intro _ _ _ h; exact h) (Or.inl ⟨by rfl, ?y77⟩) hHeld ?_
        case y77 => (intro w hSw; (try dsimp only at hSw); go_simp; try (with_reducible rfl))
        try simp only [Act.put, List.setIfInBounds_toArray, List.set_cons_zero, List.set_cons_succ]
        refine wpAnyH_take (i := 7) (v := ?v78) (by simp only [List.getElem?_toArray, List.getElem?_cons_succ, List.getElem?_cons_zero]; exact rfl) (by kernel_rfl) (by kernel_rfl) (by kernel_rfl) (by intro _ _ _ h; exact h) (Or.inl ⟨by rfl, ?y78⟩) hHeld ?_
        case y78 => (intro w hSw; (try dsimp only at hSw); go_simp; try (with_reducible rfl))
        try simp only [Act.put, List.setIfInBounds_toArray, List.set_cons_zero, List.set_cons_succ]
        refine wpAnyH_take (i := 8) (v := ?v79) (by simp only [List.getElem?_toArray, List.getElem?_cons_succ, List.getElem?_cons_zero]; exact rfl) (by kernel_rfl) (by kernel_rfl) (by kernel_rfl) (by intro _ _ _ h; exact h) (Or.inl ⟨by rfl, ?y79⟩) hHeld ?_
        case y79 => (intro w hSw; (try dsimp only at hSw); go_simp; try (with_reducible rfl))
        try simp only [Act.put, List.setIfInBounds_toArray, List.set_cons_zero, List.set_cons_succ]
        refine wpAnyH_take (i := 9) (v := ?v80) (by simp only [List.getElem?_toArray, List.getElem?_cons_succ, List.getElem?_cons_zero]; exact rfl) (by kernel_rfl) (by kernel_rfl) (by kernel_rfl) (by intro _ _ _ h; exact h) (Or.inl ⟨by rfl, ?y80⟩) hHeld ?_
        case y80 => (intro w hSw; (try dsimp only at hSw); go_simp; try (with_reducible rfl))
        try simp only [Act.put, List.setIfInBounds_toArray, List.set_cons_zero, List.set_cons_succ]
        refine wpAnyH_done (by kernel_rfl) ?_ _
        all_goals
          go_wp2_with fail
          refine (hfo wd _ _ hgvc).mono ?_
          rintro e w6 ⟨gv6, rfl, hgv6, hb6⟩
          have hbx6 := hbxc.below hb6 (Nat.le_refl _)
          have hl6 := hlc.below hb6 (Nat.le_refl _)
          have hq6 := hqc.trans (hb6.mono hqc.size)
          have n06 := (hb6.cell (cell_lt n0d)).trans n0d
          have fG6 := World.ownsRow.frozenAt hbx6 0
          have cG6 := (hb6.cell (cell_lt cGc)).trans cGc
          obtain ⟨ga6, gc6, rfl⟩ := hgv6.slice
          have hgO := hgv6.weak (S' := fun b => b ≠ w.heap.size) (fun b hb => by omega)
          have hk7 : ∀ b, b ≠ w.heap.size → (w6.setCell ⟨w.heap.size, 0, none⟩ (.slice ga6 (rowsN (foldN a ⟨(j : Int), fb, fc⟩) (andN s (bit j)) g.length).length gc6)).heap[b]? = w6.heap[b]? := fun b hb => Below.heap_setCell _ _ _ _ (by simpa using hb)
          have hgO7 := hgO.keep (w' := w6.setCell ⟨w.heap.size, 0, none⟩ (.slice ga6 (rowsN (foldN a ⟨(j : Int), fb, fc⟩) (andN s (bit j)) g.length).length gc6)) (fun b hb => hk7 b hb)
          have hl7 := hl6.keep (w' := w6.setCell ⟨w.heap.size, 0, none⟩ (.slice ga6 (rowsN (foldN a ⟨(j : Int), fb, fc⟩) (andN s (bit j)) g.length).length gc6)) (fun b hb => hk7 b hb)
          have hbx7 := hbx6.stored 0 (.slice ga6 (rowsN (foldN a ⟨(j : Int), fb, fc⟩) (andN s (bit j)) g.length).length gc6)
          have hq7 := hq6.setCell (p := ⟨w.heap.size, 0, none⟩) (by simp) (.slice ga6 (rowsN (foldN a ⟨(j : Int), fb, fc⟩) (andN s (bit j)) g.length).length gc6)
          have hnb7 : nb ≠ w.heap.size := by omega
          have n07 := (World.cell?_of_block (a := ⟨nb, 0, none⟩) (hk7 nb hnb7)).trans n06
          have hz6 := hb6.size
          clear hgO hgv6 hbx6 hl6 hq6 hk7
          go_wp2_with fail
          refine (l19Less_any hl7 hs32 (by omega)).mono ?_
          rintro e w8 ⟨l8, rfl, hl8, hb8⟩
          have hlt8 := fun b hb => Own.lt hl8 b hb
          have hl8i := hl8.ints
          go_wp2
          go_roundw
          case rel => exact ⟨k + 1, foldN a ⟨(j : Int), fb, fc⟩, andN s (bit j), _, by omega, by go_num, Lib.hid hJ2, Lib.hid (HP.out.trans HT.out), hl8i.weak (fun b hb => by have h1 := (hlt8 b hb).1; simp at h1; omega), hbx7.below hb8 (Nat.le_refl _), hgO7.below hb8 (Nat.le_refl _), hq7.trans (hb8.mono hq7.size)⟩
          case measure => simp [intOf]; omega
set_option maxHeartbeats 8000000 in
theorem lawFoldsOk_any {S0 S1 : Nat → Prop} (v0 : Value) (g0 : List (List Int)) (v1 : Value) (t1 : List Tri) (w : World) (ht : Tab w) (hv0 : SlR S0 w v0 g0) (hv1 : SlT S1 w v1 t1) :
    Calls Tryd.prog 7 #[.agg #[v0], v1] w fun e w' => e = .returned (.bool true) ∧ Below w.heap.size w w' := by
  obtain ⟨a0, c0, rfl⟩ := hv0.slice
  obtain ⟨a1, c1, rfl⟩ := hv1.slice
  have q0 : Below w.heap.size w (w.alloc (.cells #[.slice a0 g0.length c0] 24)) := (Below.refl _ _).alloc (Nat.le_refl _) _
  go_enter Tryd.func7, Tryd.ntmps7
  go_wp2_with fail
  refine (szGraph_any _ _ _ _ (hv0.below q0 (Nat.le_refl _)) (by omega) (by omega)).mono ?_
  rintro e w1 ⟨r1, rfl, hr1, hs1, hm1, hb1⟩
  have q1 := q0.trans (hb1.mono q0.size)
  have b0_1 : w1.cell? ⟨w.heap.size, 0, none⟩ = some (.slice a0 g0.length c0) := (hb1.cell (p := ⟨w.heap.size, 0, none⟩) (by simp <;> omega)).trans (by simp [go_sem])
  by_cases hneg1 : r1 < 0
  case pos =>
    go_wp2
    go_ret
    exact ⟨rfl, q1⟩
  have hsm0 : SmallR g0 1048576 := hm1 (by omega)
  go_wp2_with fail
  refine (szFoldS_any _ _ _ _ (hv1.below q1 (Nat.le_refl _)) (by omega) (by omega)).mono ?_
  rintro e w2 ⟨r2, rfl, hr2, hs2, hm2, hb2⟩
  have q2 := q1.trans (hb2.mono q1.size)
  have b0_2 : w2.cell? ⟨w.heap.size, 0, none⟩ = some (.slice a0 g0.length c0) := (hb2.cell (p := ⟨w.heap.size, 0, none⟩) (cell_lt b0_1)).trans b0_1
  by_cases hneg2 : r2 < 0
  case pos =>
    go_wp2
    go_ret
    exact ⟨rfl, q2⟩
  have hsm1 : t1.length ≤ 1048576 := by have := hm2 (by omega); omega
  go_wp2_with fail
  refine (toGraph_any _ _ _ (hv0.below q2 (Nat.le_refl _)) hsm0).mono ?_
  rintro e w3 ⟨x3, rfl, hy3, hb3⟩
  have q3 := q2.trans (hb3.mono q2.size)
  have b0_3 : w3.cell? ⟨w.heap.size, 0, none⟩ = some (.slice a0 g0.length c0) := (hb3.cell (p := ⟨w.heap.size, 0, none⟩) (cell_lt b0_2)).trans b0_2
  have y3_3 := hy3
  go_wp2_with fail
  refine (toFoldS_any _ _ _ (hv1.below q3 (Nat.le_refl _)) hsm1).mono ?_
  rintro e w4 ⟨x4, rfl, hy4, hb4⟩
  have q4 := q3.trans (hb4.mono q3.size)
  have b0_4 : w4.cell? ⟨w.heap.size, 0, none⟩ = some (.slice a0 g0.length c0) := (hb4.cell (p := ⟨w.heap.size, 0, none⟩) (cell_lt b0_3)).trans b0_3
  have y3_4 := y3_3.below hb4 (Nat.le_refl _)
  have y4_4 := hy4
  go_wp2_with fail
  refine (specFoldsOk_any y3_4 y4_4).mono ?_
  rintro e w5 ⟨rfl, hb5⟩
  have q5 := q4.trans (hb5.mono q4.size)
  have b0_5 : w5.cell? ⟨w.heap.size, 0, none⟩ = some (.slice a0 g0.length c0) := (hb5.cell (p := ⟨w.heap.size, 0, none⟩) (cell_lt b0_4)).trans b0_4
  have y3_5 := y3_4.below hb5 (Nat.le_refl _)
  have y4_5 := y4_4.below hb5 (Nat.le_refl _)
  go_wp2_with fail
  refine (toGraph_any _ _ _ (hv0.below q5 (Nat.le_refl _)) hsm0).mono ?_
  rintro e w6 ⟨x6, rfl, hy6, hb6⟩
  have q6 := q5.trans (hb6.mono q5.size)
  have b0_6 : w6.cell? ⟨w.heap.size, 0, none⟩ = some (.slice a0 g0.length c0) := (hb6.cell (p := ⟨w.heap.size, 0, none⟩) (cell_lt b0_5)).trans b0_5
  have y3_6 := y3_5.below hb6 (Nat.le_refl _)
  have y4_6 := y4_5.below hb6 (Nat.le_refl _)
  have y6_6 := hy6
  obtain ⟨xa7, xc7, rfl⟩ := y6_6.slice
  have hb7 : Below w6.heap.size w6 (w6.alloc (.cells #[.slice xa7 g0.length xc7] 27)) := (Below.refl _ _).alloc (Nat.le_refl _) _
  have q7 := q6.trans (hb7.mono q6.size)
  have b0_7 := (hb7.cell (p := ⟨w.heap.size, 0, none⟩) (cell_lt b0_6)).trans b0_6
  have y3_7 := y3_6.below hb7 (Nat.le_refl _)
  have y4_7 := y4_6.below hb7 (Nat.le_refl _)
  have y6_7 := y6_6.below hb7 (Nat.le_refl _)
  go_wp2_with fail
  refine (toFoldS_any _ _ _ (hv1.below q7 (Nat.le_refl _)) hsm1).mono ?_
  rintro e w8 ⟨x8, rfl, hy8, hb8⟩
  have q8 := q7.trans (hb8.mono q7.size)
  have b0_8 : w8.cell? ⟨w.heap.size, 0, none⟩ = some (.slice a0 g0.length c0) := (hb8.cell (p := ⟨w.heap.size, 0, none⟩) (by have := cell_lt b0_7; simp at this ⊢; omega)).trans b0_7
  have l7_8 : w8.cell? ⟨w6.heap.size, 0, none⟩ = some (.slice xa7 g0.length xc7) := (hb8.cell (p := ⟨w6.heap.size, 0, none⟩) (by simp)).trans (by simp [go_sem])
  have y3_8 := y3_7.below hb8 (Nat.le_refl _)
  have y4_8 := y4_7.below hb8 (Nat.le_refl _)
  have y6_8 := y6_7.below hb8 (Nat.le_refl _)
  have y8_8 := hy8
  go_wp2_with fail
  refine (implFoldsOk_any (ht.below q8 (Nat.le_refl _)) y6_8 y8_8).mono ?_
  rintro e w9 ⟨rfl, hb9⟩
  have q9 := q8.trans (hb9.mono q8.size)
  have b0_9 : w9.cell? ⟨w.heap.size, 0, none⟩ = some (.slice a0 g0.length c0) := (hb9.cell (p := ⟨w.heap.size, 0, none⟩) (cell_lt b0_8)).trans b0_8
  have l7_9 : w9.cell? ⟨w6.heap.size, 0, none⟩ = some (.slice xa7 g0.length xc7) := (hb9.cell (p := ⟨w6.heap.size, 0, none⟩) (cell_lt l7_8)).trans l7_8
  have y3_9 := y3_8.below hb9 (Nat.le_refl _)
  have y4_9 := y4_8.below hb9 (Nat.le_refl _)
  have y6_9 := y6_8.below hb9 (Nat.le_refl _)
  have y8_9 := y8_8.below hb9 (Nat.le_refl _)
  go_wp2
  have _tt : True := trivial
  refine wp_region_held_drew (S := (fun w' => w'.cell? ⟨w.heap.size, 0, none⟩ = some (.slice a0 g0.length c0) ∧ w'.cell? ⟨w6.heap.size, 0, none⟩ = some (.slice xa7 g0.length xc7))) (by kernel_rfl) ?_ (fun hHeld => ?_)
  · first | exact ⟨‹_›, ‹_›⟩ | assumption | (simp [*, go_sem])
  refine wpAnyH_take (i := 0) (v := ?v81) (by simp only [List.getElem?_toArray, List.getElem?_cons_zero]; exact rfl) (by kernel_rfl) (by kernel_rfl) (by kernel_rfl) (by intro _ _ _ h; exact h) (Or.inl ⟨by rfl, ?y81⟩) hHeld ?_
  case y81 => (intro w hSw; (try dsimp only at hSw); go_simp; try (with_reducible rfl))
  try simp only [Act.put, List.setIfInBounds_toArray, List.set_cons_zero, List.set_cons_succ]
  refine wpAnyH_take (i := 1) (v := ?v82) (by simp only [List.getElem?_toArray, List.getElem?_cons_succ, List.getElem?_cons_zero]; exact rfl) (by kernel_rfl) (by kernel_rfl) (by kernel_rfl) (by intro _ _ _ h; exact h) (Or.inl ⟨by rfl, ?y82⟩) hHeld ?_
  case y82 => (intro w hSw; (try dsimp only at hSw); go_simp; try (with_reducible rfl))
  try simp only [Act.put, List.setIfInBounds_toArray, List.set_cons_zero, List.set_cons_succ]
  refine wpAnyH_ready (rs := [2]) (by kernel_rfl) (by simp) ?_
  refine AllReadyH.cons (by simp only [List.getElem?_toArray, List.getElem?_cons_succ, List.getElem?_cons_zero]; exact rfl) (fun K hK => ?_) AllReadyH.nil
  go_simp
  have q9d := q9.drew
  refine (toGraph_any _ _ _ (hv0.below q9d (Nat.le_refl _)) hsm0).mono ?_
  rintro e w10 ⟨x10, rfl, hy10, hb10⟩
  have hb10e : Below w9.heap.size w9 w10 := ⟨hb10.os, hb10.tape, hb10.output, hb10.size, hb10.block⟩
  have q10 := q9.trans (hb10e.mono q9.size)
  have b0_10 : w10.cell? ⟨w.heap.size, 0, none⟩ = some (.slice a0 g0.length c0) := (hb10e.cell (p := ⟨w.heap.size, 0, none⟩) (cell_lt b0_9)).trans b0_9
  have l7_10 : w10.cell? ⟨w6.heap.size, 0, none⟩ = some (.slice xa7 g0.length xc7) := (hb10e.cell (p := ⟨w6.heap.size, 0, none⟩) (cell_lt l7_9)).trans l7_9
  have y3_10 := y3_9.below hb10e (Nat.le_refl _)
  have y4_10 := y4_9.below hb10e (Nat.le_refl _)
  have y6_10 := y6_9.below hb10e (Nat.le_refl _)
  have y8_10 := y8_9.below hb10e (Nat.le_refl _)
  have y10_10 := hy10
  try dsimp only
  refine hK.out _ _ ?h84 (fun hHeld => ?_)
  case h84 => first | exact ⟨‹_›, ‹_›⟩ | assumption | (simp [*, go_sem])
  clear hK K
  try simp only [Act.put, List.setIfInBounds_toArray, List.set_cons_zero, List.set_cons_succ]
  refine wpAnyH_ready (rs := [3]) (by kernel_rfl) (by simp) ?_
  refine AllReadyH.cons (by simp only [List.getElem?_toArray, List.getElem?_cons_succ, List.getElem?_cons_zero]; exact rfl) (fun K hK => ?_) AllReadyH.nil
  go_simp
  refine (eqGraph_any _ _ _ _ _ y6_10 y10_10).mono ?_
  rintro e w11 ⟨rfl, hb11⟩
  have q11 := q10.trans (hb11.mono q10.size)
  have b0_11 : w11.cell? ⟨w.heap.size, 0, none⟩ = some (.slice a0 g0.length c0) := (hb11.cell (p := ⟨w.heap.size, 0, none⟩) (cell_lt b0_10)).trans b0_10
  have l7_11 : w11.cell? ⟨w6.heap.size, 0, none⟩ = some (.slice xa7 g0.length xc7) := (hb11.cell (p := ⟨w6.heap.size, 0, none⟩) (cell_lt l7_10)).trans l7_10
  have y3_11 := y3_10.below hb11 (Nat.le_refl _)
  have y4_11 := y4_10.below hb11 (Nat.le_refl _)
  have y6_11 := y6_10.below hb11 (Nat.le_refl _)
  have y8_11 := y8_10.below hb11 (Nat.le_refl _)
  have y10_11 := y10_10.below hb11 (Nat.le_refl _)
  try dsimp only
  refine hK.out _ _ ?h86 (fun hHeld => ?_)
  case h86 => first | exact ⟨‹_›, ‹_›⟩ | assumption | (simp [*, go_sem])
  clear hK K
  try simp only [Act.put, List.setIfInBounds_toArray, List.set_cons_zero, List.set_cons_succ]
  refine wpAnyH_take (i := 4) (v := ?v87) (by simp only [List.getElem?_toArray, List.getElem?_cons_succ, List.getElem?_cons_zero]; exact rfl) (by kernel_rfl) (by kernel_rfl) (by kernel_rfl) (by intro _ _ _ h; exact h) (Or.inl ⟨by rfl, ?y87⟩) hHeld ?_
  case y87 => (intro w hSw; (try dsimp only at hSw); go_simp; try (with_reducible rfl))
  try simp only [Act.put, List.setIfInBounds_toArray, List.set_cons_zero, List.set_cons_succ]
  refine wpAnyH_done (by kernel_rfl) ?_ _
  go_wp2_with fail
  refine (toFoldS_any _ _ _ (hv1.below q11 (Nat.le_refl _)) hsm1).mono ?_
  rintro e w12 ⟨x12, rfl, hy12, hb12⟩
  have q12 := q11.trans (hb12.mono q11.size)
  have b0_12 : w12.cell? ⟨w.heap.size, 0, none⟩ = some (.slice a0 g0.length c0) := (hb12.cell (p := ⟨w.heap.size, 0, none⟩) (cell_lt b0_11)).trans b0_11
  have l7_12 : w12.cell? ⟨w6.heap.size, 0, none⟩ = some (.slice xa7 g0.length xc7) := (hb12.cell (p := ⟨w6.heap.size, 0, none⟩) (cell_lt l7_11)).trans l7_11
  have y3_12 := y3_11.below hb12 (Nat.le_refl _)
  have y4_12 := y4_11.below hb12 (Nat.le_refl _)
  have y6_12 := y6_11.below hb12 (Nat.le_refl _)
  have y8_12 := y8_11.below hb12 (Nat.le_refl _)
  have y10_12 := y10_11.below hb12 (Nat.le_refl _)
  have y12_12 := hy12
  go_wp2_with fail
  refine (eqFoldS_any _ _ _ _ _ y8_12 y12_12).mono ?_
  rintro e w13 ⟨rfl, hb13⟩
  have q13 := q12.trans (hb13.mono q12.size)
  have b0_13 : w13.cell? ⟨w.heap.size, 0, none⟩ = some (.slice a0 g0.length c0) := (hb13.cell (p := ⟨w.heap.size, 0, none⟩) (cell_lt b0_12)).trans b0_12
  have l7_13 : w13.cell? ⟨w6.heap.size, 0, none⟩ = some (.slice xa7 g0.length xc7) := (hb13.cell (p := ⟨w6.heap.size, 0, none⟩) (cell_lt l7_12)).trans l7_12
  have y3_13 := y3_12.below hb13 (Nat.le_refl _)
  have y4_13 := y4_12.below hb13 (Nat.le_refl _)
  have y6_13 := y6_12.below hb13 (Nat.le_refl _)
  have y8_13 := y8_12.below hb13 (Nat.le_refl _)
  have y10_13 := y10_12.below hb13 (Nat.le_refl _)
  have y12_13 := y12_12.below hb13 (Nat.le_refl _)
  go_wp2
  go_ret
  exact ⟨rfl, q13⟩
end Go.Proofs.YtfccpencgengaaaDoor
