/- A list of foldings is right: the program. -/
import Derived.Test.YtfccpencgengaaaDoorFoldsM
import Derived.Test.YtfccpencgengaaaDoorTriFold
namespace Go.Proofs.YtfccpencgengaaaDoor
open Go.RowKit
set_option maxRecDepth 100000 in
set_option maxHeartbeats 4000000 in
theorem implFoldsOk_any {S S' : Nat → Prop} {v u : Value} {g : List (List Int)} {t : List Tri} {w : World} (ht : Tab w) (hv : SlR S w v g) (hu : SlT S' w u t) :
    Calls Tryd.prog 25 #[.agg #[v], u] w fun e w' => e = .returned (.bool (foldsOkB g t)) ∧ Below w.heap.size w w' := by
  have hq0 : Below w.heap.size w (w.alloc (.cells #[v] 27)) := (Below.refl _ _).alloc (Nat.le_refl _) _
  obtain ⟨va, vc, rfl⟩ := hv.slice
  obtain ⟨ua, ub, uo, uc, rfl, hul, hua, hut⟩ := hu
  have hgo := implGraphOk_any _ _ _ (hv.below hq0 (Nat.le_refl _))
  by_cases hgg : gokB g = true
  case neg =>
    have hgg' : gokB g = false := by simpa using hgg
    rw [hgg'] at hgo
    have HE := Lib.hid (show foldsOkB g t = false by simp [foldsOkB, hgg'])
    clear hgg hgg'
    go_enter Tryd.func25, Tryd.ntmps25
    go_wp2_with (go_at_call 52; refine hgo.mono ?_; rintro e w1 ⟨rfl, hb1⟩)
    go_ret
    exact ⟨ret_bool HE.out.symm, hq0.trans (hb1.mono hq0.size)⟩
  rw [hgg] at hgo
  have hg := gokB_iff.1 hgg
  have h16 := hg.hi
  by_cases hlen : t.length ≤ 16
  case neg =>
    have HE := Lib.hid (show foldsOkB g t = false by simp [foldsOkB, hlen])
    have hd : decide ((16 : Int) < (t.length : Int)) = true := by simp; omega
    have hd2 : decide (16 < t.length) = true := by simp; omega
    clear hgg hlen
    go_enter Tryd.func25, Tryd.ntmps25
    go_wp2_with (go_at_call 52; refine hgo.mono ?_; rintro e w1 ⟨rfl, hb1⟩)
    go_ret
    exact ⟨ret_bool HE.out.symm, hq0.trans (hb1.mono hq0.size)⟩
  have hE : foldsOkB g t = foldsB g.length (netsL g) (firstN g.length) t := by simp [foldsOkB, hgg, hlen]
  rw [hE]
  have hd : decide ((16 : Int) < (t.length : Int)) = false := by simp; omega
  have hd2 : decide (16 < t.length) = false := by simp; omega
  have HI := Lib.hid (FoldI.start hg)
  have HNL := Lib.hid (netsL_len g)
  clear hgg hE
  go_enter Tryd.func25, Tryd.ntmps25
  go_wp2_with (first | (go_at_call 52; refine hgo.mono ?_; rintro e w1 ⟨rfl, hb1⟩; have hq1 := hq0.trans (hb1.mono hq0.size); have cg1 : w1.cell? ⟨w.heap.size, 0, none⟩ = some (.slice va g.length vc) := (hb1.cell (p := ⟨w.heap.size, 0, none⟩) (by simp)).trans (by simp [go_sem])) | (go_at_call 53; refine (netsOf_any _ _ _ (hv.below hq1 (Nat.le_refl _)) hg).mono ?_; rintro e w2 ⟨u2, rfl, hu2, hb2⟩; have hq2 := hq1.trans (hb2.mono hq1.size); obtain ⟨ng, nc, rfl⟩ := own_some hu2 (by have := hg.lo; omega)) | (go_at_call 55; refine (allOf_any _ _ _ _ h16).mono ?_; rintro e w' ⟨rfl, rfl⟩))
  clear hgo
  have hngl := hu2.lt ng rfl
  have hng : w.heap.size ≤ ng := Nat.le_trans hq1.size hngl.1
  go_loopw [6, 25] (fun o i wr => ∃ (k : Nat) (a : List Nat) (s : Nat), k ≤ t.length ∧ i = .int .i64 k ∧ o = .int .u32 (s : Int) ∧ RowKit.Hid (FoldI a s g.length) ∧ RowKit.Hid (foldsB g.length (netsL g) (firstN g.length) t = foldsB g.length a s (t.drop k)) ∧ Own wr w1.heap.size 71 1 (.slice (some ⟨ng, 0, none⟩) g.length nc) g.length ((natsI a).map (.int .u32)) ∧ Below w.heap.size w wr) (fun _ i _ => t.length - (intOf i).toNat)
  case atStart => exact ⟨0, netsL g, firstN g.length, Nat.zero_le _, rfl, rfl, HI, Lib.hid rfl, hu2, hq2⟩
  case round =>
    clear hu2 hq2 hb2 hb1 cg1 hngl
    obtain ⟨k, a, s, hk, rfl, rfl, HS, HP, hn, hq⟩ := hrel
    have hs32 := HS.out.left32
    by_cases hlt : k < t.length
    case neg =>
      obtain rfl : k = t.length := by omega
      go_wp2
      go_ret
      exact ⟨ret_bool (by rw [HP.out, foldsB_end]), hq⟩
    obtain ⟨c0, c1, c2⟩ := hut k hlt
    obtain ⟨rfl, -⟩ := hua (by omega)
    have hmiss := fun h => foldsB_miss (n := g.length) (a := a) (s := s) hlt h
    have hstep := fun h => foldsB_step (n := g.length) (a := a) (s := s) hlt h
    generalize t[k] = p at c0 c1 c2 hmiss hstep
    obtain ⟨x, y, z⟩ := p
    unfold foldOkB at hmiss hstep
    simp only at c0 c1 c2 hmiss hstep
    have t0 := (hq.cell (p := ⟨ub, uo + k * 3, none⟩) (cell_lt c0)).trans c0
    have t1 := (hq.cell (p := ⟨ub, uo + k * 3 + 1, none⟩) (cell_lt c1)).trans c1
    have t2 := (hq.cell (p := ⟨ub, uo + k * 3 + 2, none⟩) (cell_lt c2)).trans c2
    have hbox : Below wr.heap.size wr (wr.alloc (.cells #[.int .i64 x, .int .i64 y, .int .i64 z] 86)) := (Below.refl _ _).alloc (Nat.le_refl _) _
    have hqb := hq.trans (hbox.mono hq.size)
    have hnb := hn.alloc (.cells #[.int .i64 x, .int .i64 y, .int .i64 z] 86)
    have hir := inRange_any x 0 ((g.length : Int) - 1) (wr.alloc (.cells #[.int .i64 x, .int .i64 y, .int .i64 z] 86))
    by_cases hin : 0 ≤ x ∧ x < g.length
    case neg =>
      have hib : inB x 0 ((g.length : Int) - 1) = false := by simp only [inB, Bool.and_eq_false_iff, decide_eq_false_iff_not]; omega
      rw [hib] at hir
      have HM := Lib.hid (hmiss (by rw [hib]; simp))
      clear hin hib hmiss hstep
      go_wp2_with (go_at_call 72; refine hir.mono ?_; rintro e w' ⟨rfl, rfl⟩)
      go_ret
      exact ⟨ret_bool (by rw [HP.out]; exact HM.out.symm), hqb⟩
    obtain ⟨j, rfl⟩ := Int.eq_ofNat_of_zero_le hin.1
    have hib : inB (j : Int) 0 ((g.length : Int) - 1) = true := by simp only [inB, Bool.and_eq_true, decide_eq_true_eq]; omega
    rw [hib] at hir
    rw [hib, Int.toNat_natCast, Bool.true_and] at hmiss hstep
    have hjn : j < g.length := by omega
    have hhas := has_any s j (wr.alloc (.cells #[.int .i64 j, .int .i64 y, .int .i64 z] 86)) hs32 (by omega)
    clear hin hib
    by_cases hsj : s.testBit j = true
    case neg =>
      have hsj' : s.testBit j = false := by simpa using hsj
      rw [hsj'] at hhas
      have HM := Lib.hid (hmiss (by rw [hsj']; simp))
      clear hsj hsj' hmiss hstep
      go_wp2_with (first | (go_at_call 72; refine hir.mono ?_; rintro e w' ⟨rfl, rfl⟩) | (go_at_call 73; refine hhas.mono ?_; rintro e w' ⟨rfl, rfl⟩))
      go_ret
      exact ⟨ret_bool (by rw [HP.out]; exact HM.out.symm), hqb⟩
    rw [hsj] at hhas
    rw [hsj, Bool.true_and] at hmiss hstep
    have hni : SlI (fun b => (Value.slice (some ⟨ng, 0, none⟩) g.length nc).ownBlock = some b) (wr.alloc (.cells #[.int .i64 j, .int .i64 y, .int .i64 z] 86)) .u32 (.slice (some ⟨ng, 0, none⟩) g.length nc) (natsI a) := Own.ints hnb (by omega)
    have hfo := foldOf_any (ht.below hqb (Nat.le_refl _)) HS.out hni hjn
    unfold TriP at hfo
    clear hni hsj
    cases hf : foldF a s j with
    | none =>
      rw [hf] at hfo hmiss
      simp only [Option.getD_none, Option.isSome_none, triV] at hfo
      have HM := Lib.hid (hmiss (by simp))
      clear hmiss hstep hf
      go_wp2_with (first | (go_at_call 72; refine hir.mono ?_; rintro e w' ⟨rfl, rfl⟩) | (go_at_call 73; refine hhas.mono ?_; rintro e w' ⟨rfl, rfl⟩) | (go_at_call 74; refine hfo.mono ?_; rintro e w3 ⟨rfl, hb3⟩))
      go_ret
      exact ⟨ret_bool (by rw [HP.out]; exact HM.out.symm), (hqb.trans (hb3.mono hqb.size)).alloc (by have h1 := hqb.size; have h2 := hb3.size; omega) _⟩
    | some f =>
      have hfa := (fold_names HS.out hf).1
      have HF := Lib.hid hf
      rw [hf] at hfo hmiss hstep
      obtain ⟨fa, fb, fc⟩ := f
      simp only at hfa
      subst hfa
      simp only [Option.getD_some, Option.isSome_some, triV] at hfo
      clear hf
      have hgd := fun (p q : Operand) (W : World) => eqGuard_fold p q ⟨(j : Int), y, z⟩ ⟨(j : Int), fb, fc⟩ W
      simp only at hgd
      by_cases he : (⟨(j : Int), y, z⟩ : Tri) = ⟨(j : Int), fb, fc⟩
      case neg =>
        have hne : ∀ W : World, (binOp .neq 86 (.agg #[.int .i64 (j : Int), .int .i64 y, .int .i64 z]) (.agg #[.int .i64 (j : Int), .int .i64 fb, .int .i64 fc])).run Tryd.prog W = .ok (.bool true) W := fun W => (neq_fold ⟨(j : Int), y, z⟩ ⟨(j : Int), fb, fc⟩ W).trans (by rw [decide_eq_false he]; rfl)
        have HM := Lib.hid (hmiss (by rw [decide_eq_false_iff_not]; intro h; exact he (Option.some.inj h).symm))
        clear hmiss hstep he
        go_wp2_with (first | (go_at_call 72; refine hir.mono ?_; rintro e w' ⟨rfl, rfl⟩) | (go_at_call 73; refine hhas.mono ?_; rintro e w' ⟨rfl, rfl⟩))
        refine hfo.mono ?_
        rintro e w3 ⟨rfl, hb3⟩
        have k0 := (hb3.cell (p := ⟨wr.heap.size, 0, none⟩) (by simp)).trans (show _ = some (.int .i64 (j : Int)) by simp [go_sem])
        have k1 := (hb3.cell (p := ⟨wr.heap.size, 1, none⟩) (by simp)).trans (show _ = some (.int .i64 y) by simp [go_sem])
        have k2 := (hb3.cell (p := ⟨wr.heap.size, 2, none⟩) (by simp)).trans (show _ = some (.int .i64 z) by simp [go_sem])
        have m0 := fun o => (World.cell?_alloc_some w3 ⟨wr.heap.size, 0, none⟩ o (by rw [k0]; rfl)).trans k0
        have m1 := fun o => (World.cell?_alloc_some w3 ⟨wr.heap.size, 1, none⟩ o (by rw [k1]; rfl)).trans k1
        have m2 := fun o => (World.cell?_alloc_some w3 ⟨wr.heap.size, 2, none⟩ o (by rw [k2]; rfl)).trans k2
        go_wp2
        go_ret
        exact ⟨ret_bool (by rw [HP.out]; exact HM.out.symm), (hqb.trans (hb3.mono hqb.size)).alloc (by have h1 := hqb.size; have h2 := hb3.size; omega) _⟩
      obtain ⟨rfl, rfl⟩ : y = fb ∧ z = fc := by simpa using he
      have hne : ∀ W : World, (binOp .neq 86 (.agg #[.int .i64 (j : Int), .int .i64 y, .int .i64 z]) (.agg #[.int .i64 (j : Int), .int .i64 y, .int .i64 z])).run Tryd.prog W = .ok (.bool false) W := fun W => (neq_fold ⟨(j : Int), y, z⟩ ⟨(j : Int), y, z⟩ W).trans (by simp)
      have HT := Lib.hid (hstep (by simp))
      have hJ2 := HS.out.next hjn HF.out
      have hone := fun W : World => one_any (j : Int) W (by omega) (by omega)
      rw [Int.toNat_natCast] at hone
      have han : bits BinOp.andNot IntKind.u32 (s : Int) (bit j : Int) = (andN s (bit j) : Int) := u32_andNot_nat s (bit j) hs32 (bit_lt (by omega))
      have hfaw := fun (w4 : World) (h : Own w4 w1.heap.size 71 1 (.slice (some ⟨ng, 0, none⟩) g.length nc) a.length ((natsI a).map (.int .u32))) => foldAway_any HS.out HF.out h
      rw [HS.out.len] at hfaw
      simp only [triV] at hfaw
      clear hmiss hstep he
      go_wp2_with (first | (go_at_call 72; refine hir.mono ?_; rintro e w' ⟨rfl, rfl⟩) | (go_at_call 73; refine hhas.mono ?_; rintro e w' ⟨rfl, rfl⟩))
      refine hfo.mono ?_
      rintro e w3 ⟨rfl, hb3⟩
      have k0 := (hb3.cell (p := ⟨wr.heap.size, 0, none⟩) (by simp)).trans (show _ = some (.int .i64 (j : Int)) by simp [go_sem])
      have k1 := (hb3.cell (p := ⟨wr.heap.size, 1, none⟩) (by simp)).trans (show _ = some (.int .i64 y) by simp [go_sem])
      have k2 := (hb3.cell (p := ⟨wr.heap.size, 2, none⟩) (by simp)).trans (show _ = some (.int .i64 z) by simp [go_sem])
      have m0 := fun o => (World.cell?_alloc_some w3 ⟨wr.heap.size, 0, none⟩ o (by rw [k0]; rfl)).trans k0
      have m1 := fun o => (World.cell?_alloc_some w3 ⟨wr.heap.size, 1, none⟩ o (by rw [k1]; rfl)).trans k1
      have m2 := fun o => (World.cell?_alloc_some w3 ⟨wr.heap.size, 2, none⟩ o (by rw [k2]; rfl)).trans k2
      go_wp2_with fail
      have hq3 := (hqb.trans (hb3.mono hqb.size)).alloc (by have h1 := hqb.size; have h2 := hb3.size; omega) (.cells #[.int .i64 (j : Int), .int .i64 y, .int .i64 z] 86)
      have hn3 := (hnb.below hb3 (Nat.le_refl _)).alloc (.cells #[.int .i64 (j : Int), .int .i64 y, .int .i64 z] 86)
      have hwl := cell_lt k0
      simp only at hwl
      have hngw := (hn.lt ng rfl).2
      (with_reducible refine (hfaw _ hn3).mono ?_)
      rintro e w5 ⟨rfl, hn5, hkp5⟩
      have hq5 := hkp5.below hq3 hq3.size (fun b hb => by simp [Value.ownBlock] at hb; omega)
      have k5 := (World.cell?_of_block (a := ⟨wr.heap.size, 0, none⟩) (hkp5.2.2.2.2 wr.heap.size (by simp; omega) (fun e => by simp [Value.ownBlock] at e; omega))).trans (m0 _)
      clear hfaw hfo hir hhas m0 m1 m2 k0 k1 k2
      go_wp2_with (go_at_call 76; refine (hone _).mono ?_; rintro e w' ⟨rfl, rfl⟩)
      go_roundw
      case rel => exact ⟨k + 1, foldN a ⟨(j : Int), y, z⟩, andN s (bit j), by omega, by go_num, rfl, Lib.hid hJ2, Lib.hid (HP.out.trans HT.out), hn5, hq5⟩
      case measure => simp [intOf]; omega
end Go.Proofs.YtfccpencgengaaaDoor
