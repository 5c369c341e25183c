/- SeriesIn of the reference; the law. -/
import Derived.Test.YtfccpencgengaaaDoorFold5
namespace Go.Proofs.YtfccpencgengaaaDoor
open Go.RowKit
theorem rows_start {g : List (List Int)} (hg : GOk g) : rowsN (netsL g) (firstN g.length) g.length = g := by
  apply List.ext_getElem
  · simp [rowsN]
  · intro u h1 h2
    rw [rowsN_get, testBit_firstN, decide_eq_true h2, if_pos rfl, netsL_get h2]
    have h3 : maskL g[u] &&& firstN g.length = maskL g[u] := by
      apply nat_ext
      intro i
      rw [Nat.testBit_and, testBit_firstN]
      cases hi : (maskL g[u]).testBit i
      · rfl
      · have := bit_lt_of (maskL_lt (fun x hx => hg.ge h2 x hx)) hi
        simp [this]
    rw [h3]
    exact bitsI_maskL (rise_sorted (hg.rise u h2)) (hg.ge32 h2)
set_option maxRecDepth 100000 in
set_option maxHeartbeats 4000000 in
theorem specSeriesIn_any {S : Nat → Prop} (v : Value) (g : List (List Int)) (w : World) (hv : SlR S w v g) :
    Calls Tryd.prog 20 #[.agg #[v]] w fun e w' => e = .returned (.bool (seriesB g)) ∧ Below w.heap.size w w' := by
  have hq0 : Below w.heap.size w (w.alloc (.cells #[v] 27)) := (Below.refl _ _).alloc (Nat.le_refl _) _
  obtain ⟨va, vc, rfl⟩ := hv.slice
  have hgo := specGraphOk_any _ _ _ (hv.below hq0 (Nat.le_refl _))
  by_cases hgg : gokB g = true
  case neg =>
    have hgg' : gokB g = false := by simpa using hgg
    rw [hgg'] at hgo
    have HE := Lib.hid (show seriesB g = false by simp [seriesB, hgg'])
    clear hgg hgg'
    go_enter Tryd.func20, Tryd.ntmps20
    go_wp2_with fail
    refine hgo.mono ?_
    rintro e w1 ⟨rfl, hb1⟩
    go_wp2
    go_ret
    exact ⟨ret_bool HE.out.symm, hq0.trans (hb1.mono hq0.size)⟩
  rw [hgg] at hgo
  have hg := gokB_iff.1 hgg
  have h16 := hg.hi
  have hE : seriesB g = decide ((foldsF 33 (netsL g) (firstN g.length)).2 = 0) := by simp [seriesB, hgg]
  have hrb := rangeI_bits h16
  have hall := fun (w2 : World) (hb : Below w.heap.size w w2) (S2 : Nat → Prop) (u : Value) (hu : SlI S2 w2 .i64 u (bitsI (firstN g.length))) =>
    l20All_any (FoldI.start hg) (show SlR S w2 (.slice va g.length vc) (rowsN (netsL g) (firstN g.length) g.length) by rw [rows_start hg]; exact hv.below hb (Nat.le_refl _)) hu
  have hR32 : (foldsF 33 (netsL g) (firstN g.length)).2 < 4294967296 := by
    have : ∀ (k : Nat) (a : List Nat) (l n : Nat), FoldI a l n → (foldsF k a l).2 < 4294967296 := by
      intro k
      induction k with
      | zero => intro a l n h; exact h.left32
      | succ k ih =>
        intro a l n h
        cases hv : foldV a l with
        | none => rw [foldsF_stop hv]; exact h.left32
        | some x =>
          have hx : x ∈ bitsN l := List.mem_of_find?_eq_some hv
          have hxl := (mem_bitsN h.left32).1 hx
          cases hf : foldF a l x with
          | none => rw [foldsF, hv]; simp only [hf]; exact h.left32
          | some f => rw [foldsF_step hv hf]; exact ih _ _ _ (h.next (bit_lt_of h.left hxl) hf)
    exact this _ _ _ _ (FoldI.start hg)
  generalize (foldsF 33 (netsL g) (firstN g.length)).2 = R at hall hE hR32
  have hbz : ((bitsI R).length = 0) ↔ R = 0 := by rw [← bitsI_nil hR32]; exact List.length_eq_zero_iff
  have hz : (((bitsI R).length : Int) == 0) = decide (R = 0) := by rw [Bool.eq_iff_iff, beq_iff_eq, decide_eq_true_eq, ← hbz]; omega
  have hz2 : ((bitsI R).length == 0) = decide (R = 0) := by rw [Bool.eq_iff_iff, beq_iff_eq, decide_eq_true_eq, ← hbz]
  rw [← hE] at hz hz2
  have hbl := bitsI_len R
  clear hgg hE hbz hR32
  go_enter Tryd.func20, Tryd.ntmps20
  go_wp2_with fail
  refine hgo.mono ?_
  rintro e w1 ⟨rfl, hb1⟩
  have hq1 := hq0.trans (hb1.mono hq0.size)
  have c3 : w1.cell? ⟨w.heap.size, 0, none⟩ = some (.slice va g.length vc) := (hb1.cell (p := ⟨w.heap.size, 0, none⟩) (by simp; try omega)).trans (by simp [go_sem])
  clear hgo
  go_wp2
  refine wp_region_held_drew (S := (fun w' => w'.cell? ⟨w.heap.size, 0, none⟩ = some (.slice va g.length vc))) (by kernel_rfl) ?_ (fun hHeld => ?_)
  · first | exact c3 | exact cg | exact hcg
  have hqc := hq1.drew
  generalize w1.drew = wd at hqc hHeld ⊢
  have cg := hHeld
  refine wpAnyH_take (i := 0) (v := ?v1) (by simp only [List.getElem?_toArray, List.getElem?_cons_zero]; exact rfl) (by kernel_rfl) (by kernel_rfl) (by kernel_rfl) (by intro _ _ _ h; exact h) (Or.inl ⟨by rfl, ?y1⟩) hHeld ?_
  case y1 => (intro w hSw; (try dsimp only at hSw); go_simp; try (with_reducible rfl))
  try simp only [Act.put, List.setIfInBounds_toArray, List.set_cons_zero, List.set_cons_succ]
  refine wpAnyH_take (i := 1) (v := ?v2) (by simp only [List.getElem?_toArray, List.getElem?_cons_succ, List.getElem?_cons_zero]; exact rfl) (by kernel_rfl) (by kernel_rfl) (by kernel_rfl) (by intro _ _ _ h; exact h) (Or.inl ⟨by rfl, ?y2⟩) hHeld ?_
  case y2 => (intro w hSw; (try dsimp only at hSw); go_simp; try (with_reducible rfl))
  try simp only [Act.put, List.setIfInBounds_toArray, List.set_cons_zero, List.set_cons_succ]
  refine wpAnyH_ready (rs := [2, 8]) (by kernel_rfl) (by simp) ?_
  refine (AllReadyH.cons (by simp only [List.getElem?_toArray, List.getElem?_cons_succ, List.getElem?_cons_zero]; exact rfl) (fun K hK => ?b3_2) (AllReadyH.cons (by simp only [List.getElem?_toArray, List.getElem?_cons_succ, List.getElem?_cons_zero]; exact rfl) (fun K hK => ?b3_8) AllReadyH.nil))
  case b3_2 =>
    go_simp
    refine (l16All_any _ _ _ (hv.below hqc (Nat.le_refl _)) (by omega)).mono ?_
    rintro e wn ⟨x1, rfl, hx1, hbn⟩
    have hx2 := Own.ints (xs := rangeI g.length) hx1 (by omega)
    rw [hrb] at hx2
    try (have n0 := (hbn.cell (cell_lt n0)).trans n0)
    try (have g0 := (hbn.frozen (p := ⟨nb, 0, none⟩) hnl).trans g0)
    try (have hnl := Nat.lt_of_lt_of_le hnl hbn.size)
    have hqc := hqc.trans (hbn.mono hqc.size)
    have cg := (hbn.cell (cell_lt cg)).trans cg
    obtain ⟨wd, rfl⟩ : ∃ wx : World, wx = wn := ⟨_, rfl⟩
    try dsimp only
    refine hK.out _ _ ?h4 (fun hHeld => ?_)
    case h4 => first | exact c3 | exact cg | exact hcg
    clear hK K
    try simp only [Act.put, List.setIfInBounds_toArray, List.set_cons_zero, List.set_cons_succ]
    refine wpAnyH_ready (rs := [3, 8]) (by kernel_rfl) (by simp) ?_
    refine (AllReadyH.cons (by simp only [List.getElem?_toArray, List.getElem?_cons_succ, List.getElem?_cons_zero]; exact rfl) (fun K hK => ?b5_3) (AllReadyH.cons (by simp only [List.getElem?_toArray, List.getElem?_cons_succ, List.getElem?_cons_zero]; exact rfl) (fun K hK => ?b5_8) AllReadyH.nil))
    case b5_3 =>
      go_simp
      refine (hall wd hqc _ _ hx2).mono ?_
      rintro e wn ⟨fv, lv, ga, gn, gc, rfl, hlv, hbn⟩
      obtain ⟨lva, lvc, rfl⟩ := hlv.slice
      try (have n0 := (hbn.cell (cell_lt n0)).trans n0)
      try (have g0 := (hbn.frozen (p := ⟨nb, 0, none⟩) hnl).trans g0)
      try (have hnl := Nat.lt_of_lt_of_le hnl hbn.size)
      have hqc := hqc.trans (hbn.mono hqc.size)
      have cg := (hbn.cell (cell_lt cg)).trans cg
      obtain ⟨wd, rfl⟩ : ∃ wx : World, wx = wn := ⟨_, rfl⟩
      try dsimp only
      refine hK.out _ _ ?h6 (fun hHeld => ?_)
      case h6 => first | exact c3 | exact cg | exact hcg
      clear hK K
      try simp only [Act.put, List.setIfInBounds_toArray, List.set_cons_zero, List.set_cons_succ]
      refine wpAnyH_take (i := 4) (v := ?v7) (by simp only [List.getElem?_toArray, List.getElem?_cons_succ, List.getElem?_cons_zero]; exact rfl) (by kernel_rfl) (by kernel_rfl) (by kernel_rfl) (by intro _ _ _ h; exact h) (Or.inl ⟨by rfl, ?y7⟩) hHeld ?_
      case y7 => (intro w hSw; (try dsimp only at hSw); go_simp; try (with_reducible rfl))
      try simp only [Act.put, List.setIfInBounds_toArray, List.set_cons_zero, List.set_cons_succ]
      refine wpAnyH_take (i := 5) (v := ?v8) (by simp only [List.getElem?_toArray, List.getElem?_cons_succ, List.getElem?_cons_zero]; exact rfl) (by kernel_rfl) (by kernel_rfl) (by kernel_rfl) (by intro _ _ _ h; exact h) (Or.inl ⟨by rfl, ?y8⟩) hHeld ?_
      case y8 => (intro w hSw; (try dsimp only at hSw); go_simp; try (with_reducible rfl))
      try simp only [Act.put, List.setIfInBounds_toArray, List.set_cons_zero, List.set_cons_succ]
      refine wpAnyH_take (i := 6) (v := ?v9) (by simp only [List.getElem?_toArray, List.getElem?_cons_succ, List.getElem?_cons_zero]; exact rfl) (by kernel_rfl) (by kernel_rfl) (by kernel_rfl) (by intro _ _ _ h; exact h) (Or.inl ⟨by rfl, ?y9⟩) hHeld ?_
      case y9 => (intro w hSw; (try dsimp only at hSw); go_simp; try (with_reducible rfl))
      try simp only [Act.put, List.setIfInBounds_toArray, List.set_cons_zero, List.set_cons_succ]
      refine wpAnyH_take (i := 7) (v := ?v10) (by simp only [List.getElem?_toArray, List.getElem?_cons_succ, List.getElem?_cons_zero]; exact rfl) (by kernel_rfl) (by kernel_rfl) (by kernel_rfl) (by intro _ _ _ h; exact h) (Or.inl ⟨by rfl, ?y10⟩) hHeld ?_
      case y10 => (intro w hSw; (try dsimp only at hSw); go_simp; try (with_reducible rfl))
      try simp only [Act.put, List.setIfInBounds_toArray, List.set_cons_zero, List.set_cons_succ]
      refine wpAnyH_ready (rs := [8]) (by kernel_rfl) (by simp) ?_
      refine AllReadyH.cons (by simp only [List.getElem?_toArray, List.getElem?_cons_succ, List.getElem?_cons_zero]; exact rfl) (fun K hK => ?_) AllReadyH.nil
      go_simp
      have hbn : Below wd.heap.size wd (wd.alloc (.cells #[.slice none 0 0] 27)) := (Below.refl _ _).alloc (Nat.le_refl _) _
      have n0 : (wd.alloc (.cells #[.slice none 0 0] 27)).cell? ⟨wd.heap.size, 0, none⟩ = some (.slice none 0 0) := (by simp [go_sem])
      have g0 : (wd.alloc (.cells #[.slice none 0 0] 27)).frozen? ⟨wd.heap.size, 0, none⟩ = false := (by simp [go_sem])
      have hnl : wd.heap.size < (wd.alloc (.cells #[.slice none 0 0] 27)).heap.size := (by simp)
      have hnb : w.heap.size < wd.heap.size := cell_lt cg
      try (have hx2 := hx2.below hbn (Nat.le_refl _))
      have hqc := hqc.trans (hbn.mono hqc.size)
      have cg := (hbn.cell (cell_lt cg)).trans cg
      generalize (wd.alloc (.cells #[.slice none 0 0] 27)) = wn at *
      generalize wd.heap.size = nb at n0 g0 hnl hnb ⊢
      obtain ⟨wd, rfl⟩ : ∃ wx : World, wx = wn := ⟨_, rfl⟩
      try dsimp only
      refine hK.out _ _ ?h12 (fun hHeld => ?_)
      case h12 => first | exact c3 | exact cg | exact hcg
      clear hK K
      try simp only [Act.put, List.setIfInBounds_toArray, List.set_cons_zero, List.set_cons_succ]
      refine wpAnyH_take (i := 9) (v := ?v13) (by simp only [List.getElem?_toArray, List.getElem?_cons_succ, List.getElem?_cons_zero]; exact rfl) (by kernel_rfl) (by kernel_rfl) (by kernel_rfl) (by intro _ _ _ h; exact h) (Or.inl ⟨by rfl, ?y13⟩) hHeld ?_
      case y13 => (intro w hSw; (try dsimp only at hSw); go_simp; try (with_reducible rfl))
      try simp only [Act.put, List.setIfInBounds_toArray, List.set_cons_zero, List.set_cons_succ]
      refine wpAnyH_take (i := 10) (v := ?v14) (by simp only [List.getElem?_toArray, List.getElem?_cons_succ, List.getElem?_cons_zero]; exact rfl) (by kernel_rfl) (by kernel_rfl) (by kernel_rfl) (by intro _ _ _ h; exact h) (Or.inl ⟨by rfl, ?y14⟩) hHeld ?_
      case y14 => (intro w hSw; (try dsimp only at hSw); go_simp; try (with_reducible rfl))
      try simp only [Act.put, List.setIfInBounds_toArray, List.set_cons_zero, List.set_cons_succ]
      refine wpAnyH_ready (rs := [11]) (by kernel_rfl) (by simp) ?_
      refine AllReadyH.cons (by simp only [List.getElem?_toArray, List.getElem?_cons_succ, List.getElem?_cons_zero]; exact rfl) (fun K hK => ?_) AllReadyH.nil
      go_simp
      have hcg : (wd.setCell ⟨nb, 0, none⟩ (.slice ga gn gc)).cell? ⟨w.heap.size, 0, none⟩ = some (.slice va g.length vc) := (World.cell?_of_block (a := ⟨w.heap.size, 0, none⟩) (Below.heap_setCell _ _ _ _ (by simp; omega))).trans cg
      try dsimp only
      refine hK.out _ _ ?h16 (fun hHeld => ?_)
      case h16 => first | exact c3 | exact cg | exact hcg
      clear hK K
      try simp only [Act.put, List.setIfInBounds_toArray, List.set_cons_zero, List.set_cons_succ]
      refine wpAnyH_done (by kernel_rfl) ?_ _
      have hqf := hqc.setCell (p := ⟨nb, 0, none⟩) (Nat.le_of_lt hnb) (.slice ga gn gc)
      go_wp2
      go_ret
      exact ⟨by first | rfl | (rw [hz]) | (simp [hz, hz2]), hqf⟩
    case b5_8 =>
      go_simp
      have hbn : Below wd.heap.size wd (wd.alloc (.cells #[.slice none 0 0] 27)) := (Below.refl _ _).alloc (Nat.le_refl _) _
      have n0 : (wd.alloc (.cells #[.slice none 0 0] 27)).cell? ⟨wd.heap.size, 0, none⟩ = some (.slice none 0 0) := (by simp [go_sem])
      have g0 : (wd.alloc (.cells #[.slice none 0 0] 27)).frozen? ⟨wd.heap.size, 0, none⟩ = false := (by simp [go_sem])
      have hnl : wd.heap.size < (wd.alloc (.cells #[.slice none 0 0] 27)).heap.size := (by simp)
      have hnb : w.heap.size < wd.heap.size := cell_lt cg
      try (have hx2 := hx2.below hbn (Nat.le_refl _))
      have hqc := hqc.trans (hbn.mono hqc.size)
      have cg := (hbn.cell (cell_lt cg)).trans cg
      generalize (wd.alloc (.cells #[.slice none 0 0] 27)) = wn at *
      generalize wd.heap.size = nb at n0 g0 hnl hnb ⊢
      obtain ⟨wd, rfl⟩ : ∃ wx : World, wx = wn := ⟨_, rfl⟩
      try dsimp only
      refine hK.out _ _ ?h17 (fun hHeld => ?_)
      case h17 => first | exact c3 | exact cg | exact hcg
      clear hK K
      try simp only [Act.put, List.setIfInBounds_toArray, List.set_cons_zero, List.set_cons_succ]
      refine wpAnyH_ready (rs := [3]) (by kernel_rfl) (by simp) ?_
      refine AllReadyH.cons (by simp only [List.getElem?_toArray, List.getElem?_cons_succ, List.getElem?_cons_zero]; exact rfl) (fun K hK => ?_) AllReadyH.nil
      go_simp
      refine (hall wd hqc _ _ hx2).mono ?_
      rintro e wn ⟨fv, lv, ga, gn, gc, rfl, hlv, hbn⟩
      obtain ⟨lva, lvc, rfl⟩ := hlv.slice
      try (have n0 := (hbn.cell (cell_lt n0)).trans n0)
      try (have g0 := (hbn.frozen (p := ⟨nb, 0, none⟩) hnl).trans g0)
      try (have hnl := Nat.lt_of_lt_of_le hnl hbn.size)
      have hqc := hqc.trans (hbn.mono hqc.size)
      have cg := (hbn.cell (cell_lt cg)).trans cg
      obtain ⟨wd, rfl⟩ : ∃ wx : World, wx = wn := ⟨_, rfl⟩
      try dsimp only
      refine hK.out _ _ ?h19 (fun hHeld => ?_)
      case h19 => first | exact c3 | exact cg | exact hcg
      clear hK K
      try simp only [Act.put, List.setIfInBounds_toArray, List.set_cons_zero, List.set_cons_succ]
      refine wpAnyH_take (i := 4) (v := ?v20) (by simp only [List.getElem?_toArray, List.getElem?_cons_succ, List.getElem?_cons_zero]; exact rfl) (by kernel_rfl) (by kernel_rfl) (by kernel_rfl) (by intro _ _ _ h; exact h) (Or.inl ⟨by rfl, ?y20⟩) hHeld ?_
      case y20 => (intro w hSw; (try dsimp only at hSw); go_simp; try (with_reducible rfl))
      try simp only [Act.put, List.setIfInBounds_toArray, List.set_cons_zero, List.set_cons_succ]
      refine wpAnyH_take (i := 5) (v := ?v21) (by simp only [List.getElem?_toArray, List.getElem?_cons_succ, List.getElem?_cons_zero]; exact rfl) (by kernel_rfl) (by kernel_rfl) (by kernel_rfl) (by intro _ _ _ h; exact h) (Or.inl ⟨by rfl, ?y21⟩) hHeld ?_
      case y21 => (intro w hSw; (try dsimp only at hSw); go_simp; try (with_reducible rfl))
      try simp only [Act.put, List.setIfInBounds_toArray, List.set_cons_zero, List.set_cons_succ]
      refine wpAnyH_take (i := 6) (v := ?v22) (by simp only [List.getElem?_toArray, List.getElem?_cons_succ, List.getElem?_cons_zero]; exact rfl) (by kernel_rfl) (by kernel_rfl) (by kernel_rfl) (by intro _ _ _ h; exact h) (Or.inl ⟨by rfl, ?y22⟩) hHeld ?_
      case y22 => (intro w hSw; (try dsimp only at hSw); go_simp; try (with_reducible rfl))
      try simp only [Act.put, List.setIfInBounds_toArray, List.set_cons_zero, List.set_cons_succ]
      refine wpAnyH_take (i := 7) (v := ?v23) (by simp only [List.getElem?_toArray, List.getElem?_cons_succ, List.getElem?_cons_zero]; exact rfl) (by kernel_rfl) (by kernel_rfl) (by kernel_rfl) (by intro _ _ _ h; exact h) (Or.inl ⟨by rfl, ?y23⟩) hHeld ?_
      case y23 => (intro w hSw; (try dsimp only at hSw); go_simp; try (with_reducible rfl))
      try simp only [Act.put, List.setIfInBounds_toArray, List.set_cons_zero, List.set_cons_succ]
      refine wpAnyH_take (i := 9) (v := ?v24) (by simp only [List.getElem?_toArray, List.getElem?_cons_succ, List.getElem?_cons_zero]; exact rfl) (by kernel_rfl) (by kernel_rfl) (by kernel_rfl) (by intro _ _ _ h; exact h) (Or.inl ⟨by rfl, ?y24⟩) hHeld ?_
      case y24 => (intro w hSw; (try dsimp only at hSw); go_simp; try (with_reducible rfl))
      try simp only [Act.put, List.setIfInBounds_toArray, List.set_cons_zero, List.set_cons_succ]
      refine wpAnyH_take (i := 10) (v := ?v25) (by simp only [List.getElem?_toArray, List.getElem?_cons_succ, List.getElem?_cons_zero]; exact rfl) (by kernel_rfl) (by kernel_rfl) (by kernel_rfl) (by intro _ _ _ h; exact h) (Or.inl ⟨by rfl, ?y25⟩) hHeld ?_
      case y25 => (intro w hSw; (try dsimp only at hSw); go_simp; try (with_reducible rfl))
      try simp only [Act.put, List.setIfInBounds_toArray, List.set_cons_zero, List.set_cons_succ]
      refine wpAnyH_ready (rs := [11]) (by kernel_rfl) (by simp) ?_
      refine AllReadyH.cons (by simp only [List.getElem?_toArray, List.getElem?_cons_succ, List.getElem?_cons_zero]; exact rfl) (fun K hK => ?_) AllReadyH.nil
      go_simp
      have hcg : (wd.setCell ⟨nb, 0, none⟩ (.slice ga gn gc)).cell? ⟨w.heap.size, 0, none⟩ = some (.slice va g.length vc) := (World.cell?_of_block (a := ⟨w.heap.size, 0, none⟩) (Below.heap_setCell _ _ _ _ (by simp; omega))).trans cg
      try dsimp only
      refine hK.out _ _ ?h27 (fun hHeld => ?_)
      case h27 => first | exact c3 | exact cg | exact hcg
      clear hK K
      try simp only [Act.put, List.setIfInBounds_toArray, List.set_cons_zero, List.set_cons_succ]
      refine wpAnyH_done (by kernel_rfl) ?_ _
      have hqf := hqc.setCell (p := ⟨nb, 0, none⟩) (Nat.le_of_lt hnb) (.slice ga gn gc)
      go_wp2
      go_ret
      exact ⟨by first | rfl | (rw [hz]) | (simp [hz, hz2]), hqf⟩
  case b3_8 =>
    go_simp
    have hbn : Below wd.heap.size wd (wd.alloc (.cells #[.slice none 0 0] 27)) := (Below.refl _ _).alloc (Nat.le_refl _) _
    have n0 : (wd.alloc (.cells #[.slice none 0 0] 27)).cell? ⟨wd.heap.size, 0, none⟩ = some (.slice none 0 0) := (by simp [go_sem])
    have g0 : (wd.alloc (.cells #[.slice none 0 0] 27)).frozen? ⟨wd.heap.size, 0, none⟩ = false := (by simp [go_sem])
    have hnl : wd.heap.size < (wd.alloc (.cells #[.slice none 0 0] 27)).heap.size := (by simp)
    have hnb : w.heap.size < wd.heap.size := cell_lt cg
    try (have hx2 := hx2.below hbn (Nat.le_refl _))
    have hqc := hqc.trans (hbn.mono hqc.size)
    have cg := (hbn.cell (cell_lt cg)).trans cg
    generalize (wd.alloc (.cells #[.slice none 0 0] 27)) = wn at *
    generalize wd.heap.size = nb at n0 g0 hnl hnb ⊢
    obtain ⟨wd, rfl⟩ : ∃ wx : World, wx = wn := ⟨_, rfl⟩
    try dsimp only
    refine hK.out _ _ ?h28 (fun hHeld => ?_)
    case h28 => first | exact c3 | exact cg | exact hcg
    clear hK K
    try simp only [Act.put, List.setIfInBounds_toArray, List.set_cons_zero, List.set_cons_succ]
    refine wpAnyH_ready (rs := [2]) (by kernel_rfl) (by simp) ?_
    refine AllReadyH.cons (by simp only [List.getElem?_toArray, List.getElem?_cons_succ, List.getElem?_cons_zero]; exact rfl) (fun K hK => ?_) AllReadyH.nil
    go_simp
    refine (l16All_any _ _ _ (hv.below hqc (Nat.le_refl _)) (by omega)).mono ?_
    rintro e wn ⟨x1, rfl, hx1, hbn⟩
    have hx2 := Own.ints (xs := rangeI g.length) hx1 (by omega)
    rw [hrb] at hx2
    try (have n0 := (hbn.cell (cell_lt n0)).trans n0)
    try (have g0 := (hbn.frozen (p := ⟨nb, 0, none⟩) hnl).trans g0)
    try (have hnl := Nat.lt_of_lt_of_le hnl hbn.size)
    have hqc := hqc.trans (hbn.mono hqc.size)
    have cg := (hbn.cell (cell_lt cg)).trans cg
    obtain ⟨wd, rfl⟩ : ∃ wx : World, wx = wn := ⟨_, rfl⟩
    try dsimp only
    refine hK.out _ _ ?h30 (fun hHeld => ?_)
    case h30 => first | exact c3 | exact cg | exact hcg
    clear hK K
    try simp only [Act.put, List.setIfInBounds_toArray, List.set_cons_zero, List.set_cons_succ]
    refine wpAnyH_ready (rs := [3]) (by kernel_rfl) (by simp) ?_
    refine AllReadyH.cons (by simp only [List.getElem?_toArray, List.getElem?_cons_succ, List.getElem?_cons_zero]; exact rfl) (fun K hK => ?_) AllReadyH.nil
    go_simp
    refine (hall wd hqc _ _ hx2).mono ?_
    rintro e wn ⟨fv, lv, ga, gn, gc, rfl, hlv, hbn⟩
    obtain ⟨lva, lvc, rfl⟩ := hlv.slice
    try (have n0 := (hbn.cell (cell_lt n0)).trans n0)
    try (have g0 := (hbn.frozen (p := ⟨nb, 0, none⟩) hnl).trans g0)
    try (have hnl := Nat.lt_of_lt_of_le hnl hbn.size)
    have hqc := hqc.trans (hbn.mono hqc.size)
    have cg := (hbn.cell (cell_lt cg)).trans cg
    obtain ⟨wd, rfl⟩ : ∃ wx : World, wx = wn := ⟨_, rfl⟩
    try dsimp only
    refine hK.out _ _ ?h32 (fun hHeld => ?_)
    case h32 => first | exact c3 | exact cg | exact hcg
    clear hK K
    try simp only [Act.put, List.setIfInBounds_toArray, List.set_cons_zero, List.set_cons_succ]
    refine wpAnyH_take (i := 4) (v := ?v33) (by simp only [List.getElem?_toArray, List.getElem?_cons_succ, List.getElem?_cons_zero]; exact rfl) (by kernel_rfl) (by kernel_rfl) (by kernel_rfl) (by intro _ _ _ h; exact h) (Or.inl ⟨by rfl, ?y33⟩) hHeld ?_
    case y33 => (intro w hSw; (try dsimp only at hSw); go_simp; try (with_reducible rfl))
    try simp only [Act.put, List.setIfInBounds_toArray, List.set_cons_zero, List.set_cons_succ]
    refine wpAnyH_take (i := 5) (v := ?v34) (by simp only [List.getElem?_toArray, List.getElem?_cons_succ, List.getElem?_cons_zero]; exact rfl) (by kernel_rfl) (by kernel_rfl) (by kernel_rfl) (by intro _ _ _ h; exact h) (Or.inl ⟨by rfl, ?y34⟩) hHeld ?_
    case y34 => (intro w hSw; (try dsimp only at hSw); go_simp; try (with_reducible rfl))
    try simp only [Act.put, List.setIfInBounds_toArray, List.set_cons_zero, List.set_cons_succ]
    refine wpAnyH_take (i := 6) (v := ?v35) (by simp only [List.getElem?_toArray, List.getElem?_cons_succ, List.getElem?_cons_zero]; exact rfl) (by kernel_rfl) (by kernel_rfl) (by kernel_rfl) (by intro _ _ _ h; exact h) (Or.inl ⟨by rfl, ?y35⟩) hHeld ?_
    case y35 => (intro w hSw; (try dsimp only at hSw); go_simp; try (with_reducible rfl))
    try simp only [Act.put, List.setIfInBounds_toArray, List.set_cons_zero, List.set_cons_succ]
    refine wpAnyH_take (i := 7) (v := ?v36) (by simp only [List.getElem?_toArray, List.getElem?_cons_succ, List.getElem?_cons_zero]; exact rfl) (by kernel_rfl) (by kernel_rfl) (by kernel_rfl) (by intro _ _ _ h; exact h) (Or.inl ⟨by rfl, ?y36⟩) hHeld ?_
    case y36 => (intro w hSw; (try dsimp only at hSw); go_simp; try (with_reducible rfl))
    try simp only [Act.put, List.setIfInBounds_toArray, List.set_cons_zero, List.set_cons_succ]
    refine wpAnyH_take (i := 9) (v := ?v37) (by simp only [List.getElem?_toArray, List.getElem?_cons_succ, List.getElem?_cons_zero]; exact rfl) (by kernel_rfl) (by kernel_rfl) (by kernel_rfl) (by intro _ _ _ h; exact h) (Or.inl ⟨by rfl, ?y37⟩) hHeld ?_
    case y37 => (intro w hSw; (try dsimp only at hSw); go_simp; try (with_reducible rfl))
    try simp only [Act.put, List.setIfInBounds_toArray, List.set_cons_zero, List.set_cons_succ]
    refine wpAnyH_take (i := 10) (v := ?v38) (by simp only [List.getElem?_toArray, List.getElem?_cons_succ, List.getElem?_cons_zero]; exact rfl) (by kernel_rfl) (by kernel_rfl) (by kernel_rfl) (by intro _ _ _ h; exact h) (Or.inl ⟨by rfl, ?y38⟩) hHeld ?_
    case y38 => (intro w hSw; (try dsimp only at hSw); go_simp; try (with_reducible rfl))
    try simp only [Act.put, List.setIfInBounds_toArray, List.set_cons_zero, List.set_cons_succ]
    refine wpAnyH_ready (rs := [11]) (by kernel_rfl) (by simp) ?_
    refine AllReadyH.cons (by simp only [List.getElem?_toArray, List.getElem?_cons_succ, List.getElem?_cons_zero]; exact rfl) (fun K hK => ?_) AllReadyH.nil
    go_simp
    have hcg : (wd.setCell ⟨nb, 0, none⟩ (.slice ga gn gc)).cell? ⟨w.heap.size, 0, none⟩ = some (.slice va g.length vc) := (World.cell?_of_block (a := ⟨w.heap.size, 0, none⟩) (Below.heap_setCell _ _ _ _ (by simp; omega))).trans cg
    try dsimp only
    refine hK.out _ _ ?h40 (fun hHeld => ?_)
    case h40 => first | exact c3 | exact cg | exact hcg
    clear hK K
    try simp only [Act.put, List.setIfInBounds_toArray, List.set_cons_zero, List.set_cons_succ]
    refine wpAnyH_done (by kernel_rfl) ?_ _
    have hqf := hqc.setCell (p := ⟨nb, 0, none⟩) (Nat.le_of_lt hnb) (.slice ga gn gc)
    go_wp2
    go_ret
    exact ⟨by first | rfl | (rw [hz]) | (simp [hz, hz2]), hqf⟩
set_option maxHeartbeats 8000000 in
theorem lawSeriesIn_any {S0 : Nat → Prop} (v0 : Value) (g0 : List (List Int)) (w : World) (ht : Tab w) (hv0 : SlR S0 w v0 g0) :
    Calls Tryd.prog 6 #[.agg #[v0]] w fun e w' => e = .returned (.bool true) ∧ Below w.heap.size w w' := by
  obtain ⟨a0, c0, rfl⟩ := hv0.slice
  have q0 : Below w.heap.size w (w.alloc (.cells #[.slice a0 g0.length c0] 24)) := (Below.refl _ _).alloc (Nat.le_refl _) _
  go_enter Tryd.func6, Tryd.ntmps6
  go_wp2_with fail
  refine (szGraph_any _ _ _ _ (hv0.below q0 (Nat.le_refl _)) (by omega) (by omega)).mono ?_
  rintro e w1 ⟨r1, rfl, hr1, hs1, hm1, hb1⟩
  have q1 := q0.trans (hb1.mono q0.size)
  have b0_1 : w1.cell? ⟨w.heap.size, 0, none⟩ = some (.slice a0 g0.length c0) := (hb1.cell (p := ⟨w.heap.size, 0, none⟩) (by simp <;> omega)).trans (by simp [go_sem])
  by_cases hneg1 : r1 < 0
  case pos =>
    go_wp2
    go_ret
    exact ⟨rfl, q1⟩
  have hsm0 : SmallR g0 1048576 := hm1 (by omega)
  go_wp2_with fail
  refine (toGraph_any _ _ _ (hv0.below q1 (Nat.le_refl _)) hsm0).mono ?_
  rintro e w2 ⟨x2, rfl, hy2, hb2⟩
  have q2 := q1.trans (hb2.mono q1.size)
  have b0_2 : w2.cell? ⟨w.heap.size, 0, none⟩ = some (.slice a0 g0.length c0) := (hb2.cell (p := ⟨w.heap.size, 0, none⟩) (cell_lt b0_1)).trans b0_1
  have y2_2 := hy2
  go_wp2_with fail
  refine (specSeriesIn_any _ _ _ y2_2).mono ?_
  rintro e w3 ⟨rfl, hb3⟩
  have q3 := q2.trans (hb3.mono q2.size)
  have b0_3 : w3.cell? ⟨w.heap.size, 0, none⟩ = some (.slice a0 g0.length c0) := (hb3.cell (p := ⟨w.heap.size, 0, none⟩) (cell_lt b0_2)).trans b0_2
  have y2_3 := y2_2.below hb3 (Nat.le_refl _)
  go_wp2_with fail
  refine (toGraph_any _ _ _ (hv0.below q3 (Nat.le_refl _)) hsm0).mono ?_
  rintro e w4 ⟨x4, rfl, hy4, hb4⟩
  have q4 := q3.trans (hb4.mono q3.size)
  have b0_4 : w4.cell? ⟨w.heap.size, 0, none⟩ = some (.slice a0 g0.length c0) := (hb4.cell (p := ⟨w.heap.size, 0, none⟩) (cell_lt b0_3)).trans b0_3
  have y2_4 := y2_3.below hb4 (Nat.le_refl _)
  have y4_4 := hy4
  obtain ⟨xa5, xc5, rfl⟩ := y4_4.slice
  have hb5 : Below w4.heap.size w4 (w4.alloc (.cells #[.slice xa5 g0.length xc5] 27)) := (Below.refl _ _).alloc (Nat.le_refl _) _
  have q5 := q4.trans (hb5.mono q4.size)
  have b0_5 := (hb5.cell (p := ⟨w.heap.size, 0, none⟩) (cell_lt b0_4)).trans b0_4
  have y2_5 := y2_4.below hb5 (Nat.le_refl _)
  have y4_5 := y4_4.below hb5 (Nat.le_refl _)
  go_wp2_with fail
  refine (implSeriesIn_any _ _ _ (ht.below q5 (Nat.le_refl _)) y4_5).mono ?_
  rintro e w6 ⟨rfl, hb6⟩
  have q6 := q5.trans (hb6.mono q5.size)
  have b0_6 : w6.cell? ⟨w.heap.size, 0, none⟩ = some (.slice a0 g0.length c0) := (hb6.cell (p := ⟨w.heap.size, 0, none⟩) (by have := cell_lt b0_5; simp at this ⊢; omega)).trans b0_5
  have l5_6 : w6.cell? ⟨w4.heap.size, 0, none⟩ = some (.slice xa5 g0.length xc5) := (hb6.cell (p := ⟨w4.heap.size, 0, none⟩) (by simp)).trans (by simp [go_sem])
  have y2_6 := y2_5.below hb6 (Nat.le_refl _)
  have y4_6 := y4_5.below hb6 (Nat.le_refl _)
  go_wp2
  have _tt : True := trivial
  refine wp_region_held_drew (S := (fun w' => w'.cell? ⟨w.heap.size, 0, none⟩ = some (.slice a0 g0.length c0) ∧ w'.cell? ⟨w4.heap.size, 0, none⟩ = some (.slice xa5 g0.length xc5))) (by kernel_rfl) ?_ (fun hHeld => ?_)
  · first | exact ⟨‹_›, ‹_›⟩ | assumption | (simp [*, go_sem])
  refine wpAnyH_take (i := 0) (v := ?v41) (by simp only [List.getElem?_toArray, List.getElem?_cons_zero]; exact rfl) (by kernel_rfl) (by kernel_rfl) (by kernel_rfl) (by intro _ _ _ h; exact h) (Or.inl ⟨by rfl, ?y41⟩) hHeld ?_
  case y41 => (intro w hSw; (try dsimp only at hSw); go_simp; try (with_reducible rfl))
  try simp only [Act.put, List.setIfInBounds_toArray, List.set_cons_zero, List.set_cons_succ]
  refine wpAnyH_take (i := 1) (v := ?v42) (by simp only [List.getElem?_toArray, List.getElem?_cons_succ, List.getElem?_cons_zero]; exact rfl) (by kernel_rfl) (by kernel_rfl) (by kernel_rfl) (by intro _ _ _ h; exact h) (Or.inl ⟨by rfl, ?y42⟩) hHeld ?_
  case y42 => (intro w hSw; (try dsimp only at hSw); go_simp; try (with_reducible rfl))
  try simp only [Act.put, List.setIfInBounds_toArray, List.set_cons_zero, List.set_cons_succ]
  refine wpAnyH_ready (rs := [2]) (by kernel_rfl) (by simp) ?_
  refine AllReadyH.cons (by simp only [List.getElem?_toArray, List.getElem?_cons_succ, List.getElem?_cons_zero]; exact rfl) (fun K hK => ?_) AllReadyH.nil
  go_simp
  have q6d := q6.drew
  refine (toGraph_any _ _ _ (hv0.below q6d (Nat.le_refl _)) hsm0).mono ?_
  rintro e w7 ⟨x7, rfl, hy7, hb7⟩
  have hb7e : Below w6.heap.size w6 w7 := ⟨hb7.os, hb7.tape, hb7.output, hb7.size, hb7.block⟩
  have q7 := q6.trans (hb7e.mono q6.size)
  have b0_7 : w7.cell? ⟨w.heap.size, 0, none⟩ = some (.slice a0 g0.length c0) := (hb7e.cell (p := ⟨w.heap.size, 0, none⟩) (cell_lt b0_6)).trans b0_6
  have l5_7 : w7.cell? ⟨w4.heap.size, 0, none⟩ = some (.slice xa5 g0.length xc5) := (hb7e.cell (p := ⟨w4.heap.size, 0, none⟩) (cell_lt l5_6)).trans l5_6
  have y2_7 := y2_6.below hb7e (Nat.le_refl _)
  have y4_7 := y4_6.below hb7e (Nat.le_refl _)
  have y7_7 := hy7
  try dsimp only
  refine hK.out _ _ ?h44 (fun hHeld => ?_)
  case h44 => first | exact ⟨‹_›, ‹_›⟩ | assumption | (simp [*, go_sem])
  clear hK K
  try simp only [Act.put, List.setIfInBounds_toArray, List.set_cons_zero, List.set_cons_succ]
  refine wpAnyH_ready (rs := [3]) (by kernel_rfl) (by simp) ?_
  refine AllReadyH.cons (by simp only [List.getElem?_toArray, List.getElem?_cons_succ, List.getElem?_cons_zero]; exact rfl) (fun K hK => ?_) AllReadyH.nil
  go_simp
  refine (eqGraph_any _ _ _ _ _ y4_7 y7_7).mono ?_
  rintro e w8 ⟨rfl, hb8⟩
  have q8 := q7.trans (hb8.mono q7.size)
  have b0_8 : w8.cell? ⟨w.heap.size, 0, none⟩ = some (.slice a0 g0.length c0) := (hb8.cell (p := ⟨w.heap.size, 0, none⟩) (cell_lt b0_7)).trans b0_7
  have l5_8 : w8.cell? ⟨w4.heap.size, 0, none⟩ = some (.slice xa5 g0.length xc5) := (hb8.cell (p := ⟨w4.heap.size, 0, none⟩) (cell_lt l5_7)).trans l5_7
  have y2_8 := y2_7.below hb8 (Nat.le_refl _)
  have y4_8 := y4_7.below hb8 (Nat.le_refl _)
  have y7_8 := y7_7.below hb8 (Nat.le_refl _)
  try dsimp only
  refine hK.out _ _ ?h46 (fun hHeld => ?_)
  case h46 => first | exact ⟨‹_›, ‹_›⟩ | assumption | (simp [*, go_sem])
  clear hK K
  try simp only [Act.put, List.setIfInBounds_toArray, List.set_cons_zero, List.set_cons_succ]
  refine wpAnyH_take (i := 4) (v := ?v47) (by simp only [List.getElem?_toArray, List.getElem?_cons_succ, List.getElem?_cons_zero]; exact rfl) (by kernel_rfl) (by kernel_rfl) (by kernel_rfl) (by intro _ _ _ h; exact h) (Or.inl ⟨by rfl, ?y47⟩) hHeld ?_
  case y47 => (intro w hSw; (try dsimp only at hSw); go_simp; try (with_reducible rfl))
  try simp only [Act.put, List.setIfInBounds_toArray, List.set_cons_zero, List.set_cons_succ]
  refine wpAnyH_done (by kernel_rfl) ?_ _
  go_wp2
  go_ret
  exact ⟨rfl, q8⟩
end Go.Proofs.YtfccpencgengaaaDoor
