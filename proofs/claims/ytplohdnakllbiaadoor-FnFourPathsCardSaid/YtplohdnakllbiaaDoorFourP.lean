/- The law of paths of four: a graph has a tree of union and join, or a path of four. -/
import Derived.Test.YtplohdnakllbiaaDoorCoP4
import Derived.Test.YtplohdnakllbiaaDoorFour
import Derived.Test.YtplohdnakllbiaaDoorDice
import Derived.Test.YtplohdnakllbiaaDoorThere
namespace Go.Proofs.YtplohdnakllbiaaDoor
open Go.RowKit
theorem SlI.lowU {S : Nat → Prop} {w : World} {k : IntKind} {v : Value} {xs : List Int} (h : SlI S w k v xs) : SlI (fun b => b < w.heap.size) w k v xs := by
  obtain ⟨a, b, off, cap, rfl, hl, ha, hc⟩ := h
  exact ⟨a, b, off, cap, rfl, hl, fun h0 => ⟨(ha h0).1, cell_lt (hc 0 h0)⟩, hc⟩
theorem pathP_pair {g : List (List Int)} {r : List Nat} (hg : GOk g) (hp : PathP g r) (hr : ∀ a ∈ r, a < g.length) {i k : Nat} (hki : k < i) (hi : i < r.length) : decide (((r.getD k 0 : Nat) : Int) ∈ g.getD (r.getD i 0) []) = decide (i = k + 1) ∧ r.getD i 0 ≠ r.getD k 0 := by
  have h := hp k i hki hi
  have el : ∀ j, j < r.length → r.getD j 0 < g.length := fun j hj => by
    have : r.getD j 0 = r[j] := by simp [hj]
    rw [this]; exact hr _ (List.getElem_mem _)
  unfold pairB at h
  simp only [Bool.and_eq_true, Bool.not_eq_true', decide_eq_false_iff_not, beq_iff_eq] at h
  refine ⟨?_, fun e => h.1 e.symm⟩
  rw [← h.2, decide_eq_decide]
  exact edge_symm hg (el i hi) (el k (by omega))
theorem big_any {S : Nat → Prop} {v : Value} {bs : List Int} {w : World} (hv : SlI S w .u8 v bs) : Calls Tryd.prog 30 #[v] w fun e w' => e = .returned (.bool (decide (4096 < bs.length))) ∧ w = w' := by
  obtain ⟨a, c, rfl⟩ := hv.slice
  have e : decide ((4096 : Int) < (bs.length : Int)) = decide (4096 < bs.length) := by rw [decide_eq_decide]; omega
  have HE := Lib.hid e
  clear e
  go_enter Tryd.func30, Tryd.ntmps30
  go_wp2
  go_ret
  exact ⟨ret_bool (by first | rfl | exact HE.out), rfl⟩
set_option maxRecDepth 100000 in
set_option maxHeartbeats 8000000 in
theorem lawFourPaths_any {S : Nat → Prop} (v : Value) (bs : List Int) (w : World) (ht : Tab w) (hv0 : SlI S w .u8 v bs) (hr : ∀ x ∈ bs, 0 ≤ x ∧ x < 256) :
    Calls Tryd.prog 7 #[v] w fun e w' => e = .returned (.bool true) ∧ Below w.heap.size w w' := by
  have hv := hv0.lowU
  have hbg := big_any hv
  by_cases hl : bs.length ≤ 4096
  case neg =>
    rw [decide_eq_true (show 4096 < bs.length by omega)] at hbg
    go_enter Tryd.func7, Tryd.ntmps7
    go_wp2_with (go_at_call 30; refine hbg.mono ?_; rintro e w' ⟨rfl, rfl⟩)
    go_ret
    exact ⟨rfl, Below.refl _ _⟩
  rw [decide_eq_false (show ¬ 4096 < bs.length by omega)] at hbg
  have hro := roll_any (sd := 1013) hv hr (fun b hb => hb) hl
  go_enter Tryd.func7, Tryd.ntmps7
  go_wp2_with (go_at_call 30; refine hbg.mono ?_; rintro e w' ⟨rfl, rfl⟩)
  refine hro.mono ?_
  rintro e w1 ⟨rfl, hD, hb1⟩
  have hw9 := w9Graph_any (most := 6) hD hl (by omega) (by omega)
  have hs1 := hb1.size
  have hd1 := hD.lt
  clear hro hbg
  go_wp2_with fail
  refine hw9.mono ?_
  rintro e w2 ⟨u, g, rfl, hR, hg, hg6, hD2, hk2⟩
  have hb2 : Below w.heap.size w w2 := hk2.below hb1 (by omega) (fun b hb => by simp at hb; omega)
  have hgv := hR.rows (gok_small hg)
  clear hw9 hD hD2 hk2
  obtain ⟨ua, uc, rfl⟩ := hgv.slice
  have hb3 : Below w2.heap.size w2 (w2.alloc (.cells #[.slice ua g.length uc] 29)) := (Below.refl _ _).alloc (Nat.le_refl _) _
  have hq3 := hb2.trans (hb3.mono hb2.size)
  have hgv3 := hgv.below hb3 (Nat.le_refl _)
  have hfp := implFourPath_any hgv3
  have hFT := four_or_tree hg
  clear hR
  go_wp2_with fail
  refine hfp.mono ?_
  rintro e w4 ⟨p, rfl, hp, hb4⟩
  have hq4 := hq3.trans (hb4.mono hq3.size)
  have hgv4 := hgv3.below hb4 (Nat.le_refl _)
  have c4 : w4.cell? ⟨w2.heap.size, 0, none⟩ = some (.slice ua g.length uc) := (hb4.cell (p := ⟨w2.heap.size, 0, none⟩) (by simp)).trans (by simp [go_sem])
  have hco := implCographIn_any _ _ _ (ht.below hq4 (Nat.le_refl _)) hgv4
  rw [hFT] at hco
  cases hF : fourF g with
  | none =>
    rw [hF] at hco hp
    simp only [Option.isNone_none, Option.getD_none, natsI, List.map_nil, List.length_nil] at hco hp
    obtain ⟨pa, pc, rfl⟩ := hp.isSlice
    clear hFT hF hfp
    go_wp2_with fail
    refine hco.mono ?_
    rintro e w5 ⟨rfl, hb5⟩
    go_wp2
    go_ret
    exact ⟨rfl, hq4.trans (hb5.mono hq4.size)⟩
  | some r =>
    obtain ⟨hr4, hrl, hpp⟩ := four_path hg hF
    rw [hF] at hco hp
    simp only [Option.isNone_some, Option.getD_some] at hco hp
    have hps := Own.ints (xs := natsI r) hp (by omega)
    obtain ⟨pa, pc, rfl⟩ := hp.isSlice
    clear hFT hF hfp
    have HR4 := Lib.hid hr4
    rw [hr4] at hp ⊢
    clear hr4
    go_wp2_with fail
    refine hco.mono ?_
    rintro e w5 ⟨rfl, hb5⟩
    have hq5 := hq4.trans (hb5.mono hq4.size)
    have c5 := (hb5.cell (cell_lt c4)).trans c4
    have hgv5 := hgv4.below hb5 (Nat.le_refl _)
    obtain ⟨pa', pb, po, pc', hpe, hpl, hpa, hpt⟩ := hps.below hb5 (Nat.le_refl _)
    simp only [Value.slice.injEq] at hpe
    obtain ⟨rfl, -, rfl⟩ := hpe
    have hr4 := HR4.out
    have hnl := natsI_len r
    obtain ⟨rfl, -⟩ := hpa (by omega)
    have hpc : ∀ j, j < 4 → w5.cell? ⟨pb, po + j, none⟩ = some (.int .i64 ((r.getD j 0 : Nat) : Int)) := fun j hj => by
      have := hpt j (by omega)
      rw [this]
      have e : (natsI r)[j]'(by omega) = ((r.getD j 0 : Nat) : Int) := by simp [natsI, show j < r.length by omega]
      rw [e]
    have HPC := Lib.hid hpc
    have HPP := Lib.hid (fun i k (h1 : k < i) (h2 : i < 4) => pathP_pair hg hpp hrl h1 (by omega))
    have HRL := Lib.hid (show ∀ j, j < 4 → r.getD j 0 < g.length from fun j hj => by
      have : r.getD j 0 = r[j]'(by omega) := by simp [show j < r.length by omega]
      rw [this]; exact hrl _ (List.getElem_mem _))
    clear hr4 hpc hpt hpa hps hp hb5 hb4 hco hpp hrl hnl hpl c4
    go_wp2
    go_loopw [7] (fun iv wr => ∃ i : Nat, i ≤ 4 ∧ iv = .int .i64 i ∧ Below w5.heap.size w5 wr) (fun iv _ => 4 - (intOf iv).toNat)
    case atStart => exact ⟨0, by omega, rfl, Below.refl _ _⟩
    case round =>
      obtain ⟨i, hi, rfl, hqi⟩ := hrel
      obtain ⟨wi, rfl⟩ : ∃ wx : World, wx = wr := ⟨_, rfl⟩
      by_cases hi4 : i < 4
      case neg =>
        have hc1 : decide ((i : Int) < 4) = false := decide_eq_false (by omega)
        have hc2 : decide (i < 4) = false := decide_eq_false hi4
        go_wp2
        go_ret
        exact ⟨rfl, hq5.trans (hqi.mono hq5.size)⟩
      have hc1 : decide ((i : Int) < 4) = true := decide_eq_true (by omega)
      have hc2 : decide (i < 4) = true := decide_eq_true hi4
      go_wp2
      clear hc1 hc2
      go_loopw [8] (fun kv wr => ∃ k : Nat, k ≤ i ∧ kv = .int .i64 k ∧ Below w5.heap.size w5 wr) (fun kv _ => i - (intOf kv).toNat)
      case atStart => exact ⟨0, by omega, rfl, hqi⟩
      case round =>
        clear hqi
        obtain ⟨k, hk, rfl, hqi⟩ := hrel
        obtain ⟨wi, rfl⟩ : ∃ wx : World, wx = wr := ⟨_, rfl⟩
        by_cases hki : k < i
        case neg =>
          go_wp2
          go_roundw
          case rel => exact ⟨i + 1, by omega, by go_num, hqi⟩
          case measure => simp [intOf]; omega
        have c6 := (hqi.cell (cell_lt c5)).trans c5
        have d1 := HPC.out i hi4
        have d1 := (hqi.cell (cell_lt d1)).trans d1
        have d2 := HPC.out k (by omega)
        have d2 := (hqi.cell (cell_lt d2)).trans d2
        obtain ⟨hpp1, hpp2⟩ := HPP.out i k hki hi4
        have hxi := HRL.out i hi4
        have hxk := HRL.out k (by omega)
        have hed := fun (W : World) (hb : Below w5.heap.size w5 W) => edgeIn_any hg (hgv5.below hb (Nat.le_refl _)) hxi hxk
        rw [hpp1] at hed
        have he1 : ((i : Int) == (k : Int) + 1) = decide (i = k + 1) := by
          rw [Bool.eq_iff_iff, beq_iff_eq, decide_eq_true_eq]; omega
        have he2 : (i == k + 1) = decide (i = k + 1) := by
          rw [Bool.eq_iff_iff, beq_iff_eq, decide_eq_true_eq]
        have hne1 : (((r.getD i 0 : Nat) : Int) == ((r.getD k 0 : Nat) : Int)) = false := by rw [beq_eq_false_iff_ne]; omega
        have hne2 : ((r.getD i 0 : Nat) == r.getD k 0) = false := by rw [beq_eq_false_iff_ne]; exact hpp2
        have hwk : IntKind.i64.wrap ((k : Int) + 1) = (k : Int) + 1 := IntWalk.i64_in _ (by omega)
        have hk4 : k < 4 := by omega
        have hk5 : (k : Int) < 4 := by omega
        have hi5 : (i : Int) < 4 := by omega
        clear hpp1 hpp2 hxi hxk hgv5
        generalize decide (i = k + 1) = bb at *
        have hbb : (bb != bb) = false := by cases bb <;> rfl
        generalize r.getD i 0 = x at *
        generalize r.getD k 0 = y at *
        go_wp2
        refine wp_region_held_drew (S := (fun w' => w'.cell? ⟨w2.heap.size, 0, none⟩ = some (.slice ua g.length uc) ∧ w'.cell? ⟨pb, po + i, none⟩ = some (.int .i64 (x : Int)) ∧ w'.cell? ⟨pb, po + k, none⟩ = some (.int .i64 (y : Int)))) (by kernel_rfl) ?_ (fun hHeld => ?_)
        · first | exact ⟨‹_›, ‹_›, ‹_›⟩ | assumption | (simp [*, go_sem])
        have hqd := hqi.drew
        generalize wi.drew = wd at hqd hHeld ⊢
        have hHeld2 := hHeld
        obtain ⟨e0, e1, e2⟩ := hHeld2
        refine wpAnyH_take (i := 0) (v := ?v1) (by simp only [List.getElem?_toArray, List.getElem?_cons_zero]; exact rfl) (by kernel_rfl) (by kernel_rfl) (by kernel_rfl) (by intro _ _ _ h; exact h) (Or.inl ⟨by rfl, ?y1⟩) hHeld ?_
        case y1 => (intro w hSw; (try dsimp only at hSw); go_simp; try (with_reducible rfl))
        try simp only [Act.put, List.setIfInBounds_toArray, List.set_cons_zero, List.set_cons_succ]
        refine wpAnyH_take (i := 1) (v := ?v2) (by simp only [List.getElem?_toArray, List.getElem?_cons_succ, List.getElem?_cons_zero]; exact rfl) (by kernel_rfl) (by kernel_rfl) (by kernel_rfl) (by intro _ _ _ h; exact h) (Or.inl ⟨by rfl, ?y2⟩) hHeld ?_
        case y2 => (intro w hSw; (try dsimp only at hSw); go_simp; try (with_reducible rfl))
        try simp only [Act.put, List.setIfInBounds_toArray, List.set_cons_zero, List.set_cons_succ]
        refine wpAnyH_take (i := 2) (v := ?v3) (by simp only [List.getElem?_toArray, List.getElem?_cons_succ, List.getElem?_cons_zero]; exact rfl) (by kernel_rfl) (by kernel_rfl) (by kernel_rfl) (by intro _ _ _ h; exact h) (Or.inl ⟨by rfl, ?y3⟩) hHeld ?_
        case y3 => (intro w hSw; (try dsimp only at hSw); go_simp; try (with_reducible rfl))
        try simp only [Act.put, List.setIfInBounds_toArray, List.set_cons_zero, List.set_cons_succ]
        refine wpAnyH_take (i := 3) (v := ?v4) (by simp only [List.getElem?_toArray, List.getElem?_cons_succ, List.getElem?_cons_zero]; exact rfl) (by kernel_rfl) (by kernel_rfl) (by kernel_rfl) (by intro _ _ _ h; exact h) (Or.inl ⟨by rfl, ?y4⟩) hHeld ?_
        case y4 => (intro w hSw; (try dsimp only at hSw); go_simp; try (with_reducible rfl))
        try simp only [Act.put, List.setIfInBounds_toArray, List.set_cons_zero, List.set_cons_succ]
        refine wpAnyH_take (i := 4) (v := ?v5) (by simp only [List.getElem?_toArray, List.getElem?_cons_succ, List.getElem?_cons_zero]; exact rfl) (by kernel_rfl) (by kernel_rfl) (by kernel_rfl) (by intro _ _ _ h; exact h) (Or.inl ⟨by rfl, ?y5⟩) hHeld ?_
        case y5 => (intro w hSw; (try dsimp only at hSw); go_simp; try (with_reducible rfl))
        try simp only [Act.put, List.setIfInBounds_toArray, List.set_cons_zero, List.set_cons_succ]
        refine wpAnyH_take (i := 5) (v := ?v6) (by simp only [List.getElem?_toArray, List.getElem?_cons_succ, List.getElem?_cons_zero]; exact rfl) (by kernel_rfl) (by kernel_rfl) (by kernel_rfl) (by intro _ _ _ h; exact h) (Or.inl ⟨by rfl, ?y6⟩) hHeld ?_
        case y6 => (intro w hSw; (try dsimp only at hSw); go_simp; try (with_reducible rfl))
        try simp only [Act.put, List.setIfInBounds_toArray, List.set_cons_zero, List.set_cons_succ]
        refine wpAnyH_take (i := 6) (v := ?v7) (by simp only [List.getElem?_toArray, List.getElem?_cons_succ, List.getElem?_cons_zero]; exact rfl) (by kernel_rfl) (by kernel_rfl) (by kernel_rfl) (by intro _ _ _ h; exact h) (Or.inl ⟨by rfl, ?y7⟩) hHeld ?_
        case y7 => (intro w hSw; (try dsimp only at hSw); go_simp; try (with_reducible rfl))
        try simp only [Act.put, List.setIfInBounds_toArray, List.set_cons_zero, List.set_cons_succ]
        refine wpAnyH_take (i := 7) (v := ?v8) (by simp only [List.getElem?_toArray, List.getElem?_cons_succ, List.getElem?_cons_zero]; exact rfl) (by kernel_rfl) (by kernel_rfl) (by kernel_rfl) (by intro _ _ _ h; exact h) (Or.inl ⟨by rfl, ?y8⟩) hHeld ?_
        case y8 => (intro w hSw; (try dsimp only at hSw); go_simp; try (with_reducible rfl))
        try simp only [Act.put, List.setIfInBounds_toArray, List.set_cons_zero, List.set_cons_succ]
        refine wpAnyH_take (i := 8) (v := ?v9) (by simp only [List.getElem?_toArray, List.getElem?_cons_succ, List.getElem?_cons_zero]; exact rfl) (by kernel_rfl) (by kernel_rfl) (by kernel_rfl) (by intro _ _ _ h; exact h) (Or.inl ⟨by rfl, ?y9⟩) hHeld ?_
        case y9 => (intro w hSw; (try dsimp only at hSw); go_simp; try (with_reducible rfl))
        try simp only [Act.put, List.setIfInBounds_toArray, List.set_cons_zero, List.set_cons_succ]
        refine wpAnyH_take (i := 10) (v := ?v10) (by simp only [List.getElem?_toArray, List.getElem?_cons_succ, List.getElem?_cons_zero]; exact rfl) (by kernel_rfl) (by kernel_rfl) (by kernel_rfl) (by intro _ _ _ h; exact h) (Or.inl ⟨by rfl, ?y10⟩) hHeld ?_
        case y10 => (intro w hSw; (try dsimp only at hSw); go_simp; try (with_reducible rfl))
        try simp only [Act.put, List.setIfInBounds_toArray, List.set_cons_zero, List.set_cons_succ]
        refine wpAnyH_take (i := 11) (v := ?v11) (by simp only [List.getElem?_toArray, List.getElem?_cons_succ, List.getElem?_cons_zero]; exact rfl) (by kernel_rfl) (by kernel_rfl) (by kernel_rfl) (by intro _ _ _ h; exact h) (Or.inl ⟨by rfl, ?y11⟩) hHeld ?_
        case y11 => (intro w hSw; (try dsimp only at hSw); go_simp; try (with_reducible rfl))
        try simp only [Act.put, List.setIfInBounds_toArray, List.set_cons_zero, List.set_cons_succ]
        refine wpAnyH_take (i := 12) (v := ?v12) (by simp only [List.getElem?_toArray, List.getElem?_cons_succ, List.getElem?_cons_zero]; exact rfl) (by kernel_rfl) (by kernel_rfl) (by kernel_rfl) (by intro _ _ _ h; exact h) (Or.inl ⟨by rfl, ?y12⟩) hHeld ?_
        case y12 => (intro w hSw; (try dsimp only at hSw); go_simp; try (with_reducible rfl))
        try simp only [Act.put, List.setIfInBounds_toArray, List.set_cons_zero, List.set_cons_succ]
        refine wpAnyH_take (i := 13) (v := ?v13) (by simp only [List.getElem?_toArray, List.getElem?_cons_succ, List.getElem?_cons_zero]; exact rfl) (by kernel_rfl) (by kernel_rfl) (by kernel_rfl) (by intro _ _ _ h; exact h) (Or.inl ⟨by rfl, ?y13⟩) hHeld ?_
        case y13 => (intro w hSw; (try dsimp only at hSw); go_simp; try (with_reducible rfl))
        try simp only [Act.put, List.setIfInBounds_toArray, List.set_cons_zero, List.set_cons_succ]
        refine wpAnyH_ready (rs := [9]) (by kernel_rfl) (by simp) ?_
        refine AllReadyH.cons (by simp only [List.getElem?_toArray, List.getElem?_cons_succ, List.getElem?_cons_zero]; exact rfl) (fun K hK => ?_) AllReadyH.nil
        go_simp
        refine (hed _ hqd).mono ?_
        rintro e wn ⟨rfl, hbn⟩
        have hqd := hqd.trans (hbn.mono hqd.size)
        have e0 := (hbn.cell (cell_lt e0)).trans e0
        have e1 := (hbn.cell (cell_lt e1)).trans e1
        have e2 := (hbn.cell (cell_lt e2)).trans e2
        obtain ⟨wd, rfl⟩ : ∃ wx : World, wx = wn := ⟨_, rfl⟩
        try dsimp only
        refine hK.out _ _ ?h15 (fun hHeld => ?_)
        case h15 => first | exact ⟨‹_›, ‹_›, ‹_›⟩ | assumption | (simp [*, go_sem])
        clear hK K
        try simp only [Act.put, List.setIfInBounds_toArray, List.set_cons_zero, List.set_cons_succ]
        refine wpAnyH_take (i := 14) (v := ?v16) (by simp only [List.getElem?_toArray, List.getElem?_cons_succ, List.getElem?_cons_zero]; exact rfl) (by kernel_rfl) (by kernel_rfl) (by kernel_rfl) (by intro _ _ _ h; exact h) (Or.inl ⟨by rfl, ?y16⟩) hHeld ?_
        case y16 => (intro w hSw; (try dsimp only at hSw); go_simp; try (with_reducible rfl))
        try simp only [Act.put, List.setIfInBounds_toArray, List.set_cons_zero, List.set_cons_succ]
        refine wpAnyH_take (i := 15) (v := ?v17) (by simp only [List.getElem?_toArray, List.getElem?_cons_succ, List.getElem?_cons_zero]; exact rfl) (by kernel_rfl) (by kernel_rfl) (by kernel_rfl) (by intro _ _ _ h; exact h) (Or.inl ⟨by rfl, ?y17⟩) hHeld ?_
        case y17 => (intro w hSw; (try dsimp only at hSw); go_simp; try (with_reducible rfl))
        try simp only [Act.put, List.setIfInBounds_toArray, List.set_cons_zero, List.set_cons_succ]
        refine wpAnyH_take (i := 16) (v := ?v18) (by simp only [List.getElem?_toArray, List.getElem?_cons_succ, List.getElem?_cons_zero]; exact rfl) (by kernel_rfl) (by kernel_rfl) (by kernel_rfl) (by intro _ _ _ h; exact h) (Or.inl ⟨by rfl, ?y18⟩) hHeld ?_
        case y18 => (intro w hSw; (try dsimp only at hSw); go_simp; try (with_reducible rfl))
        try simp only [Act.put, List.setIfInBounds_toArray, List.set_cons_zero, List.set_cons_succ]
        refine wpAnyH_take (i := 17) (v := ?v19) (by simp only [List.getElem?_toArray, List.getElem?_cons_succ, List.getElem?_cons_zero]; exact rfl) (by kernel_rfl) (by kernel_rfl) (by kernel_rfl) (by intro _ _ _ h; exact h) (Or.inl ⟨by rfl, ?y19⟩) hHeld ?_
        case y19 => (intro w hSw; (try dsimp only at hSw); go_simp; try (with_reducible rfl))
        try simp only [Act.put, List.setIfInBounds_toArray, List.set_cons_zero, List.set_cons_succ]
        refine wpAnyH_take (i := 18) (v := ?v20) (by simp only [List.getElem?_toArray, List.getElem?_cons_succ, List.getElem?_cons_zero]; exact rfl) (by kernel_rfl) (by kernel_rfl) (by kernel_rfl) (by intro _ _ _ h; exact h) (Or.inl ⟨by rfl, ?y20⟩) hHeld ?_
        case y20 => (intro w hSw; (try dsimp only at hSw); go_simp; try (with_reducible rfl))
        try simp only [Act.put, List.setIfInBounds_toArray, List.set_cons_zero, List.set_cons_succ]
        refine wpAnyH_take (i := 19) (v := ?v21) (by simp only [List.getElem?_toArray, List.getElem?_cons_succ, List.getElem?_cons_zero]; exact rfl) (by kernel_rfl) (by kernel_rfl) (by kernel_rfl) (by intro _ _ _ h; exact h) (Or.inl ⟨by rfl, ?y21⟩) hHeld ?_
        case y21 => (intro w hSw; (try dsimp only at hSw); go_simp; try (with_reducible rfl))
        try simp only [Act.put, List.setIfInBounds_toArray, List.set_cons_zero, List.set_cons_succ]
        refine wpAnyH_take (i := 20) (v := ?v22) (by simp only [List.getElem?_toArray, List.getElem?_cons_succ, List.getElem?_cons_zero]; exact rfl) (by kernel_rfl) (by kernel_rfl) (by kernel_rfl) (by intro _ _ _ h; exact h) (Or.inl ⟨by rfl, ?y22⟩) hHeld ?_
        case y22 => (intro w hSw; (try dsimp only at hSw); go_simp; try (with_reducible rfl))
        try simp only [Act.put, List.setIfInBounds_toArray, List.set_cons_zero, List.set_cons_succ]
        refine wpAnyH_take (i := 21) (v := ?v23) (by simp only [List.getElem?_toArray, List.getElem?_cons_succ, List.getElem?_cons_zero]; exact rfl) (by kernel_rfl) (by kernel_rfl) (by kernel_rfl) (by intro _ _ _ h; exact h) (Or.inl ⟨by rfl, ?y23⟩) hHeld ?_
        case y23 => (intro w hSw; (try dsimp only at hSw); go_simp; try (with_reducible rfl))
        try simp only [Act.put, List.setIfInBounds_toArray, List.set_cons_zero, List.set_cons_succ]
        refine wpAnyH_take (i := 22) (v := ?v24) (by simp only [List.getElem?_toArray, List.getElem?_cons_succ, List.getElem?_cons_zero]; exact rfl) (by kernel_rfl) (by kernel_rfl) (by kernel_rfl) (by intro _ _ _ h; exact h) (Or.inl ⟨by rfl, ?y24⟩) hHeld ?_
        case y24 => (intro w hSw; (try dsimp only at hSw); go_simp; try (with_reducible rfl))
        try simp only [Act.put, List.setIfInBounds_toArray, List.set_cons_zero, List.set_cons_succ]
        refine wpAnyH_take (i := 23) (v := ?v25) (by simp only [List.getElem?_toArray, List.getElem?_cons_succ, List.getElem?_cons_zero]; exact rfl) (by kernel_rfl) (by kernel_rfl) (by kernel_rfl) (by intro _ _ _ h; exact h) (Or.inl ⟨by rfl, ?y25⟩) hHeld ?_
        case y25 => (intro w hSw; (try dsimp only at hSw); go_simp; try (with_reducible rfl))
        try simp only [Act.put, List.setIfInBounds_toArray, List.set_cons_zero, List.set_cons_succ]
        refine wpAnyH_take (i := 24) (v := ?v26) (by simp only [List.getElem?_toArray, List.getElem?_cons_succ, List.getElem?_cons_zero]; exact rfl) (by kernel_rfl) (by kernel_rfl) (by kernel_rfl) (by intro _ _ _ h; exact h) (Or.inl ⟨by rfl, ?y26⟩) hHeld ?_
        case y26 => (intro w hSw; (try dsimp only at hSw); go_simp; try (with_reducible rfl))
        try simp only [Act.put, List.setIfInBounds_toArray, List.set_cons_zero, List.set_cons_succ]
        refine wpAnyH_take (i := 25) (v := ?v27) (by simp only [List.getElem?_toArray, List.getElem?_cons_succ, List.getElem?_cons_zero]; exact rfl) (by kernel_rfl) (by kernel_rfl) (by kernel_rfl) (by intro _ _ _ h; exact h) (Or.inl ⟨by rfl, ?y27⟩) hHeld ?_
        case y27 => (intro w hSw; (try dsimp only at hSw); go_simp; try (with_reducible rfl))
        try simp only [Act.put, List.setIfInBounds_toArray, List.set_cons_zero, List.set_cons_succ]
        refine wpAnyH_done (by kernel_rfl) ?_ _
        go_wp2
        go_roundw
        case rel => exact ⟨k + 1, by omega, by go_num, hqd⟩
        case measure => simp [intOf]; omega
end Go.Proofs.YtplohdnakllbiaaDoor
