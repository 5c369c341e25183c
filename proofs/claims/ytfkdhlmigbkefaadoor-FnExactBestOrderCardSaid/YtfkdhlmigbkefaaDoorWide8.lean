/- Widths: TreeWidth, WidthFrom and WidthAtMost of the program; the laws. -/
import Derived.Test.YtfkdhlmigbkefaaDoorWide5
import Derived.Test.YtfkdhlmigbkefaaDoorWide7
import Derived.Test.YtfkdhlmigbkefaaDoorSets
import Derived.Test.YtfkdhlmigbkefaaDoorLaws
namespace Go.Proofs.YtfkdhlmigbkefaaDoor
open Go.RowKit Go.Maps
theorem newWidths_any {a : List Nat} {n ng nc : Nat} {w : World} (ht : Tab w) (hn : SlI (fun b => b < w.heap.size) w .u32 (.slice (some ⟨ng, 0, none⟩) n nc) (natsI a)) (h0 : 0 < w.heap.size) :
    Calls Tryd.prog 32 #[.slice (some ⟨ng, 0, none⟩) n nc] w fun e w' => ∃ xb mb, e = .returned (.pointer (some ⟨xb, 0, none⟩)) ∧ w.heap.size ≤ mb ∧ WS w' a n ng nc xb mb 0 (.map []) ∧ Below w.heap.size w w' := by
  have hq0 : Below w.heap.size w ((w.alloc (.map #[] 0)).alloc (.cells #[.slice (some ⟨ng, 0, none⟩) n nc, .map (some w.heap.size)] 83)) := ((Below.refl _ _).alloc (Nat.le_refl _) _).alloc (by simp) _
  have hmm := @run_makeMap Tryd.prog
  have hw : WS ((w.alloc (.map #[] 0)).alloc (.cells #[.slice (some ⟨ng, 0, none⟩) n nc, .map (some w.heap.size)] 83)) a n ng nc (w.heap.size + 1) w.heap.size 0 (.map []) :=
    ⟨ht.below hq0 (Nat.le_refl _), (hn.below hq0 (Nat.le_refl _)).weak (fun b (hb : b < w.heap.size) => ⟨by omega, by simp; omega⟩), by simp [go_sem], by simp [go_sem], by omega, h0,
      (World.ownsMap_made w _ _ _).alloc _, fun c _ hh => by simp [Maps.has] at hh⟩
  go_enter Tryd.func32, Tryd.ntmps32
  go_wp2
  go_ret
  exact ⟨_, _, rfl, Nat.le_refl _, hw, hq0⟩
set_option maxRecDepth 100000 in
set_option maxHeartbeats 4000000 in
theorem implTreeWidth_any {S : Nat → Prop} {v : Value} {g : List (List Int)} {w : World} (ht : Tab w) (hv : SlR S w v g) :
    Calls Tryd.prog 11 #[.agg #[v]] w fun e w' => e = .returned (.int .i64 (widthI g [])) ∧ Below w.heap.size w w' := by
  have hq0 : Below w.heap.size w (w.alloc (.cells #[v] 27)) := (Below.refl _ _).alloc (Nat.le_refl _) _
  obtain ⟨va, vc, rfl⟩ := hv.slice
  have hwi := isWide_any (hv.below hq0 (Nat.le_refl _))
  by_cases hw : wideB g = true
  case neg =>
    have hw' : wideB g = false := by simpa using hw
    rw [hw'] at hwi
    have HE := Lib.hid (show widthI g [] = -1 by simp [widthI, hw'])
    clear hw hw'
    go_enter Tryd.func11, Tryd.ntmps11
    go_wp2_with fail
    refine hwi.mono ?_
    rintro e w1 ⟨rfl, hb1⟩
    go_wp2
    go_ret
    exact ⟨ret_int HE.out.symm, hq0.trans (hb1.mono hq0.size)⟩
  rw [hw] at hwi
  have hgw : gokB g = true ∧ g.length ≤ 10 := by simpa [wideB] using hw
  have hg := gokB_iff.1 hgw.1
  have h10 := hgw.2
  have h0 : 0 < g.length := by have := hg.lo; omega
  have HE := Lib.hid (show widthI g [] = (widthN (netsL g) g.length 0 : Int) by simp [widthI, hw, rise_nil, maskL])
  have HI := Lib.hid (WideI.of hg)
  clear hw hgw
  go_enter Tryd.func11, Tryd.ntmps11
  go_wp2_with fail
  refine hwi.mono ?_
  rintro e w1 ⟨rfl, hb1⟩
  have hq1 := hq0.trans (hb1.mono hq0.size)
  have cg1 : w1.cell? ⟨w.heap.size, 0, none⟩ = some (.slice va g.length vc) := (hb1.cell (p := ⟨w.heap.size, 0, none⟩) (by simp)).trans (by simp [go_sem])
  clear hwi hq0 hb1
  go_wp2_with fail
  refine (netsOf_any _ _ _ (hv.below hq1 (Nat.le_refl _)) hg).mono ?_
  rintro e w2 ⟨u2, rfl, hu2, hb2⟩
  have hq2 := hq1.trans (hb2.mono hq1.size)
  obtain ⟨ng, nc, rfl⟩ := own_some hu2 h0
  have hngl := hu2.lt ng rfl
  have hni := (Own.ints (xs := natsI (netsL g)) hu2 (by omega)).weak (S' := fun b => b < w2.heap.size) (fun b hb => by simp [Value.ownBlock] at hb; omega)
  have hz2 : 0 < w2.heap.size := by omega
  go_wp2_with fail
  refine (newWidths_any (ht.below hq2 (Nat.le_refl _)) hni hz2).mono ?_
  rintro e w3 ⟨xb, mb, rfl, hmb, hws, hb3⟩
  have hq3 := hq2.trans (hb3.mono hq2.size)
  have hf10 := leftL_len g.length 0
  have haft : Calls Tryd.prog 34 #[.pointer (some ⟨xb, 0, none⟩), .int .u32 0] w3 (AftP (netsL g) g.length ng nc xb mb 0 (storesN (leftL g.length 0).length) (widthN (netsL g) g.length 0) w3) :=
    after_any HI.out h10 _ 0 0 _ w3 rfl (Nat.two_pow_pos _) hws (by have := storesN_le (show (leftL g.length 0).length ≤ 10 by omega); omega)
  unfold AftP at haft
  have hmbw : w.heap.size ≤ mb := Nat.le_trans hq2.size hmb
  clear hu2 hni hb2 hb3 hq1 cg1 hws hngl hmb
  go_wp2_with fail
  refine haft.mono ?_
  rintro e w4 ⟨rfl, -, hk4⟩
  have hq4 := hk4.below hq3 hq3.size (fun b hb => by simp at hb; omega)
  clear haft
  go_wp2
  go_ret
  exact ⟨ret_int HE.out.symm, hq4⟩
set_option maxRecDepth 100000 in
set_option maxHeartbeats 4000000 in
theorem implWidthFrom_any {S S' : Nat → Prop} {v u : Value} {g : List (List Int)} {s : List Int} {w : World} (ht : Tab w) (hv : SlR S w v g) (hu : SlI S' w .i64 u s) :
    Calls Tryd.prog 15 #[.agg #[v], u] w fun e w' => e = .returned (.int .i64 (widthI g s)) ∧ Below w.heap.size w w' := by
  have hq0 : Below w.heap.size w (w.alloc (.cells #[v] 27)) := (Below.refl _ _).alloc (Nat.le_refl _) _
  obtain ⟨va, vc, rfl⟩ := hv.slice
  have hwi := isWide_any (hv.below hq0 (Nat.le_refl _))
  have hset := fun (W : World) (hb : Below w.heap.size w W) => implSetOk_any _ _ _ _ _ (hv.below hb (Nat.le_refl _)) (hu.below hb (Nat.le_refl _))
  by_cases hw : wideB g = true
  case neg =>
    have hw' : wideB g = false := by simpa using hw
    rw [hw'] at hwi
    have HE := Lib.hid (show widthI g s = -1 by simp [widthI, hw'])
    clear hw hw' hset
    go_enter Tryd.func15, Tryd.ntmps15
    go_wp2_with fail
    refine hwi.mono ?_
    rintro e w1 ⟨rfl, hb1⟩
    go_wp2
    go_ret
    exact ⟨ret_int HE.out.symm, hq0.trans (hb1.mono hq0.size)⟩
  rw [hw] at hwi
  have hgw : gokB g = true ∧ g.length ≤ 10 := by simpa [wideB] using hw
  have hg := gokB_iff.1 hgw.1
  have h10 := hgw.2
  have h0 : 0 < g.length := by have := hg.lo; omega
  have hso : setOkB g s = riseB s g.length := by simp [setOkB, hgw.1]
  have HI := Lib.hid (WideI.of hg)
  have HW := Lib.hid hw
  rw [hso] at hset
  clear hw hgw hso
  go_enter Tryd.func15, Tryd.ntmps15
  go_wp2_with fail
  refine hwi.mono ?_
  rintro e w1 ⟨rfl, hb1⟩
  have hq1 := hq0.trans (hb1.mono hq0.size)
  have cg1 : w1.cell? ⟨w.heap.size, 0, none⟩ = some (.slice va g.length vc) := (hb1.cell (p := ⟨w.heap.size, 0, none⟩) (by simp)).trans (by simp [go_sem])
  clear hwi hq0 hb1
  go_wp2_with fail
  refine (hset _ hq1).mono ?_
  rintro e w2 ⟨rfl, hb2⟩
  have hq2 := hq1.trans (hb2.mono hq1.size)
  have cg2 := (hb2.cell (cell_lt cg1)).trans cg1
  clear hset hq1 cg1 hb2
  by_cases hr : riseB s g.length = true
  case neg =>
    have hr' : riseB s g.length = false := by simpa using hr
    have HE := Lib.hid (show widthI g s = -1 by simp [widthI, hr'])
    rw [hr']
    clear hr hr'
    go_wp2
    go_ret
    exact ⟨ret_int HE.out.symm, hq2⟩
  have HE := Lib.hid (show widthI g s = (widthN (netsL g) g.length (maskL s) : Int) by simp [widthI, HW.out, hr])
  rw [hr]
  have hri := riseB_iff.1 hr
  have hge : ∀ x ∈ s, 0 ≤ x ∧ x < g.length := fun x hx => rise_ge hri x hx
  have hge32 : ∀ x ∈ s, 0 ≤ x ∧ x < 32 := fun x hx => by have := hge x hx; omega
  have HML := Lib.hid (show maskL s < 2 ^ g.length from maskL_lt hge)
  have hmask := fun (W : World) (hb : Below w.heap.size w W) => maskOf_any _ _ _ (hu.below hb (Nat.le_refl _)) hge32
  clear hr hri hge hge32
  go_wp2_with fail
  refine (netsOf_any _ _ _ (hv.below hq2 (Nat.le_refl _)) hg).mono ?_
  rintro e w3 ⟨u3, rfl, hu3, hb3⟩
  have hq3 := hq2.trans (hb3.mono hq2.size)
  obtain ⟨ng, nc, rfl⟩ := own_some hu3 h0
  have hngl := hu3.lt ng rfl
  have hni := (Own.ints (xs := natsI (netsL g)) hu3 (by omega)).weak (S' := fun b => b < w3.heap.size) (fun b hb => by simp [Value.ownBlock] at hb; omega)
  have hz3 : 0 < w3.heap.size := by omega
  go_wp2_with fail
  refine (newWidths_any (ht.below hq3 (Nat.le_refl _)) hni hz3).mono ?_
  rintro e w4 ⟨xb, mb, rfl, hmb, hws, hb4⟩
  have hq4 := hq3.trans (hb4.mono hq3.size)
  have hf10 := leftL_len g.length (maskL s)
  have haft := after_any HI.out h10 _ (maskL s) 0 _ w4 rfl HML.out hws (by have := storesN_le (show (leftL g.length (maskL s)).length ≤ 10 by omega); omega)
  unfold AftP at haft
  have hmbw : w.heap.size ≤ mb := Nat.le_trans hq3.size hmb
  clear hu3 hni hb3 hb4 hq2 cg2 hws hngl hmb
  go_wp2_with (go_at_call 43; refine (hmask _ hq4).mono ?_; rintro e w' ⟨rfl, rfl⟩)
  refine haft.mono ?_
  rintro e w5 ⟨rfl, -, hk5⟩
  have hq5 := hk5.below hq4 hq4.size (fun b hb => by simp at hb; omega)
  clear haft hmask
  go_wp2
  go_ret
  exact ⟨ret_int HE.out.symm, hq5⟩
theorem implWidthAtMost_any {S : Nat → Prop} {v : Value} {g : List (List Int)} {k : Int} {w : World} (ht : Tab w) (hv : SlR S w v g) :
    Calls Tryd.prog 18 #[.agg #[v], .int .i64 k] w fun e w' => e = .returned (.bool (mostB g k)) ∧ Below w.heap.size w w' := by
  have hq0 : Below w.heap.size w (w.alloc (.cells #[v] 27)) := (Below.refl _ _).alloc (Nat.le_refl _) _
  obtain ⟨va, vc, rfl⟩ := hv.slice
  have hwi := isWide_any (hv.below hq0 (Nat.le_refl _))
  have htw := fun (W : World) (hb : Below w.heap.size w W) => implTreeWidth_any (ht.below hb (Nat.le_refl _)) (hv.below hb (Nat.le_refl _))
  have HE := Lib.hid (show mostB g k = (wideB g && decide (widthI g [] ≤ k)) from rfl)
  generalize widthI g [] = x at htw HE
  generalize wideB g = y at hwi HE
  cases y
  · go_enter Tryd.func18, Tryd.ntmps18
    go_wp2_with fail
    refine hwi.mono ?_
    rintro e w1 ⟨rfl, hb1⟩
    go_wp2
    go_ret
    exact ⟨ret_bool (by rw [HE.out]; rfl), hq0.trans (hb1.mono hq0.size)⟩
  · go_enter Tryd.func18, Tryd.ntmps18
    go_wp2_with fail
    refine hwi.mono ?_
    rintro e w1 ⟨rfl, hb1⟩
    have hq1 := hq0.trans (hb1.mono hq0.size)
    have cg1 : w1.cell? ⟨w.heap.size, 0, none⟩ = some (.slice va g.length vc) := (hb1.cell (p := ⟨w.heap.size, 0, none⟩) (by simp)).trans (by simp [go_sem])
    clear hwi
    go_wp2_with fail
    refine (htw _ hq1).mono ?_
    rintro e w2 ⟨rfl, hb2⟩
    clear htw
    go_wp2
    go_ret
    exact ⟨ret_bool (by rw [HE.out]; first | rfl | simp), hq1.trans (hb2.mono hq1.size)⟩
set_option maxHeartbeats 8000000 in
theorem lawTreeWidth_any {S0 : Nat → Prop} (v0 : Value) (g0 : List (List Int)) (w : World) (ht : Tab w) (hv0 : SlR S0 w v0 g0) :
    Calls Tryd.prog 3 #[.agg #[v0]] w fun e w' => e = .returned (.bool true) ∧ Below w.heap.size w w' := by
  obtain ⟨a0, c0, rfl⟩ := hv0.slice
  have q0 : Below w.heap.size w (w.alloc (.cells #[.slice a0 g0.length c0] 24)) := (Below.refl _ _).alloc (Nat.le_refl _) _
  go_enter Tryd.func3, Tryd.ntmps3
  go_wp2_with fail
  refine (szGraph_any _ _ _ _ (hv0.below q0 (Nat.le_refl _)) (by omega) (by omega)).mono ?_
  rintro e w1 ⟨r1, rfl, hr1, hs1, hm1, hb1⟩
  have q1 := q0.trans (hb1.mono q0.size)
  have b0_1 : w1.cell? ⟨w.heap.size, 0, none⟩ = some (.slice a0 g0.length c0) := (hb1.cell (p := ⟨w.heap.size, 0, none⟩) (by simp <;> omega)).trans (by simp [go_sem])
  by_cases hneg1 : r1 < 0
  case pos =>
    go_wp2
    go_ret
    exact ⟨rfl, q1⟩
  have hsm0 : SmallR g0 1048576 := hm1 (by omega)
  go_wp2_with fail
  refine (toGraph_any _ _ _ (hv0.below q1 (Nat.le_refl _)) hsm0).mono ?_
  rintro e w2 ⟨x2, rfl, hy2, hb2⟩
  have q2 := q1.trans (hb2.mono q1.size)
  have b0_2 : w2.cell? ⟨w.heap.size, 0, none⟩ = some (.slice a0 g0.length c0) := (hb2.cell (p := ⟨w.heap.size, 0, none⟩) (cell_lt b0_1)).trans b0_1
  have y2_2 := hy2
  go_wp2_with fail
  refine (specTreeWidth_any y2_2).mono ?_
  rintro e w3 ⟨rfl, hb3⟩
  have q3 := q2.trans (hb3.mono q2.size)
  have b0_3 : w3.cell? ⟨w.heap.size, 0, none⟩ = some (.slice a0 g0.length c0) := (hb3.cell (p := ⟨w.heap.size, 0, none⟩) (cell_lt b0_2)).trans b0_2
  have y2_3 := y2_2.below hb3 (Nat.le_refl _)
  go_wp2_with fail
  refine (toGraph_any _ _ _ (hv0.below q3 (Nat.le_refl _)) hsm0).mono ?_
  rintro e w4 ⟨x4, rfl, hy4, hb4⟩
  have q4 := q3.trans (hb4.mono q3.size)
  have b0_4 : w4.cell? ⟨w.heap.size, 0, none⟩ = some (.slice a0 g0.length c0) := (hb4.cell (p := ⟨w.heap.size, 0, none⟩) (cell_lt b0_3)).trans b0_3
  have y2_4 := y2_3.below hb4 (Nat.le_refl _)
  have y4_4 := hy4
  obtain ⟨xa5, xc5, rfl⟩ := y4_4.slice
  have hb5 : Below w4.heap.size w4 (w4.alloc (.cells #[.slice xa5 g0.length xc5] 27)) := (Below.refl _ _).alloc (Nat.le_refl _) _
  have q5 := q4.trans (hb5.mono q4.size)
  have b0_5 := (hb5.cell (p := ⟨w.heap.size, 0, none⟩) (cell_lt b0_4)).trans b0_4
  have y2_5 := y2_4.below hb5 (Nat.le_refl _)
  have y4_5 := y4_4.below hb5 (Nat.le_refl _)
  go_wp2_with fail
  refine (implTreeWidth_any (ht.below q5 (Nat.le_refl _)) y4_5).mono ?_
  rintro e w6 ⟨rfl, hb6⟩
  have q6 := q5.trans (hb6.mono q5.size)
  have b0_6 : w6.cell? ⟨w.heap.size, 0, none⟩ = some (.slice a0 g0.length c0) := (hb6.cell (p := ⟨w.heap.size, 0, none⟩) (by have := cell_lt b0_5; simp at this ⊢; omega)).trans b0_5
  have l5_6 : w6.cell? ⟨w4.heap.size, 0, none⟩ = some (.slice xa5 g0.length xc5) := (hb6.cell (p := ⟨w4.heap.size, 0, none⟩) (by simp)).trans (by simp [go_sem])
  have y2_6 := y2_5.below hb6 (Nat.le_refl _)
  have y4_6 := y4_5.below hb6 (Nat.le_refl _)
  go_wp2
  have _tt : True := trivial
  refine wp_region_held_drew (S := (fun w' => w'.cell? ⟨w.heap.size, 0, none⟩ = some (.slice a0 g0.length c0) ∧ w'.cell? ⟨w4.heap.size, 0, none⟩ = some (.slice xa5 g0.length xc5))) (by kernel_rfl) ?_ (fun hHeld => ?_)
  · first | exact ⟨‹_›, ‹_›⟩ | assumption | (simp [*, go_sem])
  refine wpAnyH_take (i := 0) (v := ?v1) (by simp only [List.getElem?_toArray, List.getElem?_cons_zero]; exact rfl) (by kernel_rfl) (by kernel_rfl) (by kernel_rfl) (by intro _ _ _ h; exact h) (Or.inl ⟨by rfl, ?y1⟩) hHeld ?_
  case y1 => (intro w hSw; (try dsimp only at hSw); go_simp; try (with_reducible rfl))
  try simp only [Act.put, List.setIfInBounds_toArray, List.set_cons_zero, List.set_cons_succ]
  refine wpAnyH_take (i := 1) (v := ?v2) (by simp only [List.getElem?_toArray, List.getElem?_cons_succ, List.getElem?_cons_zero]; exact rfl) (by kernel_rfl) (by kernel_rfl) (by kernel_rfl) (by intro _ _ _ h; exact h) (Or.inl ⟨by rfl, ?y2⟩) hHeld ?_
  case y2 => (intro w hSw; (try dsimp only at hSw); go_simp; try (with_reducible rfl))
  try simp only [Act.put, List.setIfInBounds_toArray, List.set_cons_zero, List.set_cons_succ]
  refine wpAnyH_ready (rs := [2]) (by kernel_rfl) (by simp) ?_
  refine AllReadyH.cons (by simp only [List.getElem?_toArray, List.getElem?_cons_succ, List.getElem?_cons_zero]; exact rfl) (fun K hK => ?_) AllReadyH.nil
  go_simp
  have q6d := q6.drew
  refine (toGraph_any _ _ _ (hv0.below q6d (Nat.le_refl _)) hsm0).mono ?_
  rintro e w7 ⟨x7, rfl, hy7, hb7⟩
  have hb7e : Below w6.heap.size w6 w7 := ⟨hb7.os, hb7.tape, hb7.output, hb7.size, hb7.block⟩
  have q7 := q6.trans (hb7e.mono q6.size)
  have b0_7 : w7.cell? ⟨w.heap.size, 0, none⟩ = some (.slice a0 g0.length c0) := (hb7e.cell (p := ⟨w.heap.size, 0, none⟩) (cell_lt b0_6)).trans b0_6
  have l5_7 : w7.cell? ⟨w4.heap.size, 0, none⟩ = some (.slice xa5 g0.length xc5) := (hb7e.cell (p := ⟨w4.heap.size, 0, none⟩) (cell_lt l5_6)).trans l5_6
  have y2_7 := y2_6.below hb7e (Nat.le_refl _)
  have y4_7 := y4_6.below hb7e (Nat.le_refl _)
  have y7_7 := hy7
  try dsimp only
  refine hK.out _ _ ?h4 (fun hHeld => ?_)
  case h4 => first | exact ⟨‹_›, ‹_›⟩ | assumption | (simp [*, go_sem])
  clear hK K
  try simp only [Act.put, List.setIfInBounds_toArray, List.set_cons_zero, List.set_cons_succ]
  refine wpAnyH_ready (rs := [3]) (by kernel_rfl) (by simp) ?_
  refine AllReadyH.cons (by simp only [List.getElem?_toArray, List.getElem?_cons_succ, List.getElem?_cons_zero]; exact rfl) (fun K hK => ?_) AllReadyH.nil
  go_simp
  refine (eqGraph_any _ _ _ _ _ y4_7 y7_7).mono ?_
  rintro e w8 ⟨rfl, hb8⟩
  have q8 := q7.trans (hb8.mono q7.size)
  have b0_8 : w8.cell? ⟨w.heap.size, 0, none⟩ = some (.slice a0 g0.length c0) := (hb8.cell (p := ⟨w.heap.size, 0, none⟩) (cell_lt b0_7)).trans b0_7
  have l5_8 : w8.cell? ⟨w4.heap.size, 0, none⟩ = some (.slice xa5 g0.length xc5) := (hb8.cell (p := ⟨w4.heap.size, 0, none⟩) (cell_lt l5_7)).trans l5_7
  have y2_8 := y2_7.below hb8 (Nat.le_refl _)
  have y4_8 := y4_7.below hb8 (Nat.le_refl _)
  have y7_8 := y7_7.below hb8 (Nat.le_refl _)
  try dsimp only
  refine hK.out _ _ ?h6 (fun hHeld => ?_)
  case h6 => first | exact ⟨‹_›, ‹_›⟩ | assumption | (simp [*, go_sem])
  clear hK K
  try simp only [Act.put, List.setIfInBounds_toArray, List.set_cons_zero, List.set_cons_succ]
  refine wpAnyH_take (i := 4) (v := ?v7) (by simp only [List.getElem?_toArray, List.getElem?_cons_succ, List.getElem?_cons_zero]; exact rfl) (by kernel_rfl) (by kernel_rfl) (by kernel_rfl) (by intro _ _ _ h; exact h) (Or.inl ⟨by rfl, ?y7⟩) hHeld ?_
  case y7 => (intro w hSw; (try dsimp only at hSw); go_simp; try (with_reducible rfl))
  try simp only [Act.put, List.setIfInBounds_toArray, List.set_cons_zero, List.set_cons_succ]
  refine wpAnyH_done (by kernel_rfl) ?_ _
  go_wp2
  go_ret
  exact ⟨rfl, q8⟩
set_option maxHeartbeats 8000000 in
theorem lawWidthFrom_any {S0 S1 : Nat → Prop} (v0 : Value) (g0 : List (List Int)) (v1 : Value) (s1 : List Int) (w : World) (ht : Tab w) (hv0 : SlR S0 w v0 g0) (hv1 : SlI S1 w .i64 v1 s1) :
    Calls Tryd.prog 4 #[.agg #[v0], v1] w fun e w' => e = .returned (.bool true) ∧ Below w.heap.size w w' := by
  obtain ⟨a0, c0, rfl⟩ := hv0.slice
  obtain ⟨a1, c1, rfl⟩ := hv1.slice
  have q0 : Below w.heap.size w (w.alloc (.cells #[.slice a0 g0.length c0] 24)) := (Below.refl _ _).alloc (Nat.le_refl _) _
  by_cases hl1 : s1.length ≤ 1048576
  case neg =>
    go_enter Tryd.func4, Tryd.ntmps4
    go_wp2
    go_ret
    exact ⟨rfl, q0⟩
  go_enter Tryd.func4, Tryd.ntmps4
  go_wp2_with fail
  refine (szGraph_any _ _ _ _ (hv0.below q0 (Nat.le_refl _)) (by omega) (by omega)).mono ?_
  rintro e w1 ⟨r1, rfl, hr1, hs1, hm1, hb1⟩
  have q1 := q0.trans (hb1.mono q0.size)
  have b0_1 : w1.cell? ⟨w.heap.size, 0, none⟩ = some (.slice a0 g0.length c0) := (hb1.cell (p := ⟨w.heap.size, 0, none⟩) (by simp <;> omega)).trans (by simp [go_sem])
  by_cases hneg1 : r1 < 0
  case pos =>
    go_wp2
    go_ret
    exact ⟨rfl, q1⟩
  have hsm0 : SmallR g0 1048576 := hm1 (by omega)
  go_wp2_with fail
  refine (toGraph_any _ _ _ (hv0.below q1 (Nat.le_refl _)) hsm0).mono ?_
  rintro e w2 ⟨x2, rfl, hy2, hb2⟩
  have q2 := q1.trans (hb2.mono q1.size)
  have b0_2 : w2.cell? ⟨w.heap.size, 0, none⟩ = some (.slice a0 g0.length c0) := (hb2.cell (p := ⟨w.heap.size, 0, none⟩) (cell_lt b0_1)).trans b0_1
  have y2_2 := hy2
  go_wp2_with fail
  refine (toInt64S_any _ _ _ (hv1.below q2 (Nat.le_refl _)) hl1).mono ?_
  rintro e w3 ⟨x3, rfl, hy3, hb3⟩
  have q3 := q2.trans (hb3.mono q2.size)
  have b0_3 : w3.cell? ⟨w.heap.size, 0, none⟩ = some (.slice a0 g0.length c0) := (hb3.cell (p := ⟨w.heap.size, 0, none⟩) (cell_lt b0_2)).trans b0_2
  have y2_3 := y2_2.below hb3 (Nat.le_refl _)
  have y3_3 := Own.ints (xs := s1) hy3 (by omega)
  go_wp2_with fail
  refine (specWidthFrom_any y2_3 y3_3).mono ?_
  rintro e w4 ⟨rfl, hb4⟩
  have q4 := q3.trans (hb4.mono q3.size)
  have b0_4 : w4.cell? ⟨w.heap.size, 0, none⟩ = some (.slice a0 g0.length c0) := (hb4.cell (p := ⟨w.heap.size, 0, none⟩) (cell_lt b0_3)).trans b0_3
  have y2_4 := y2_3.below hb4 (Nat.le_refl _)
  have y3_4 := y3_3.below hb4 (Nat.le_refl _)
  go_wp2_with fail
  refine (toGraph_any _ _ _ (hv0.below q4 (Nat.le_refl _)) hsm0).mono ?_
  rintro e w5 ⟨x5, rfl, hy5, hb5⟩
  have q5 := q4.trans (hb5.mono q4.size)
  have b0_5 : w5.cell? ⟨w.heap.size, 0, none⟩ = some (.slice a0 g0.length c0) := (hb5.cell (p := ⟨w.heap.size, 0, none⟩) (cell_lt b0_4)).trans b0_4
  have y2_5 := y2_4.below hb5 (Nat.le_refl _)
  have y3_5 := y3_4.below hb5 (Nat.le_refl _)
  have y5_5 := hy5
  obtain ⟨xa6, xc6, rfl⟩ := y5_5.slice
  have hb6 : Below w5.heap.size w5 (w5.alloc (.cells #[.slice xa6 g0.length xc6] 27)) := (Below.refl _ _).alloc (Nat.le_refl _) _
  have q6 := q5.trans (hb6.mono q5.size)
  have b0_6 := (hb6.cell (p := ⟨w.heap.size, 0, none⟩) (cell_lt b0_5)).trans b0_5
  have y2_6 := y2_5.below hb6 (Nat.le_refl _)
  have y3_6 := y3_5.below hb6 (Nat.le_refl _)
  have y5_6 := y5_5.below hb6 (Nat.le_refl _)
  go_wp2_with fail
  refine (toInt64S_any _ _ _ (hv1.below q6 (Nat.le_refl _)) hl1).mono ?_
  rintro e w7 ⟨x7, rfl, hy7, hb7⟩
  have q7 := q6.trans (hb7.mono q6.size)
  have b0_7 : w7.cell? ⟨w.heap.size, 0, none⟩ = some (.slice a0 g0.length c0) := (hb7.cell (p := ⟨w.heap.size, 0, none⟩) (by have := cell_lt b0_6; simp at this ⊢; omega)).trans b0_6
  have l6_7 : w7.cell? ⟨w5.heap.size, 0, none⟩ = some (.slice xa6 g0.length xc6) := (hb7.cell (p := ⟨w5.heap.size, 0, none⟩) (by simp)).trans (by simp [go_sem])
  have y2_7 := y2_6.below hb7 (Nat.le_refl _)
  have y3_7 := y3_6.below hb7 (Nat.le_refl _)
  have y5_7 := y5_6.below hb7 (Nat.le_refl _)
  have y7_7 := Own.ints (xs := s1) hy7 (by omega)
  go_wp2_with fail
  refine (implWidthFrom_any (ht.below q7 (Nat.le_refl _)) y5_7 y7_7).mono ?_
  rintro e w8 ⟨rfl, hb8⟩
  have q8 := q7.trans (hb8.mono q7.size)
  have b0_8 : w8.cell? ⟨w.heap.size, 0, none⟩ = some (.slice a0 g0.length c0) := (hb8.cell (p := ⟨w.heap.size, 0, none⟩) (cell_lt b0_7)).trans b0_7
  have l6_8 : w8.cell? ⟨w5.heap.size, 0, none⟩ = some (.slice xa6 g0.length xc6) := (hb8.cell (p := ⟨w5.heap.size, 0, none⟩) (cell_lt l6_7)).trans l6_7
  have y2_8 := y2_7.below hb8 (Nat.le_refl _)
  have y3_8 := y3_7.below hb8 (Nat.le_refl _)
  have y5_8 := y5_7.below hb8 (Nat.le_refl _)
  have y7_8 := y7_7.below hb8 (Nat.le_refl _)
  go_wp2
  have _tt : True := trivial
  refine wp_region_held_drew (S := (fun w' => w'.cell? ⟨w.heap.size, 0, none⟩ = some (.slice a0 g0.length c0) ∧ w'.cell? ⟨w5.heap.size, 0, none⟩ = some (.slice xa6 g0.length xc6))) (by kernel_rfl) ?_ (fun hHeld => ?_)
  · first | exact ⟨‹_›, ‹_›⟩ | assumption | (simp [*, go_sem])
  refine wpAnyH_take (i := 0) (v := ?v8) (by simp only [List.getElem?_toArray, List.getElem?_cons_zero]; exact rfl) (by kernel_rfl) (by kernel_rfl) (by kernel_rfl) (by intro _ _ _ h; exact h) (Or.inl ⟨by rfl, ?y8⟩) hHeld ?_
  case y8 => (intro w hSw; (try dsimp only at hSw); go_simp; try (with_reducible rfl))
  try simp only [Act.put, List.setIfInBounds_toArray, List.set_cons_zero, List.set_cons_succ]
  refine wpAnyH_take (i := 1) (v := ?v9) (by simp only [List.getElem?_toArray, List.getElem?_cons_succ, List.getElem?_cons_zero]; exact rfl) (by kernel_rfl) (by kernel_rfl) (by kernel_rfl) (by intro _ _ _ h; exact h) (Or.inl ⟨by rfl, ?y9⟩) hHeld ?_
  case y9 => (intro w hSw; (try dsimp only at hSw); go_simp; try (with_reducible rfl))
  try simp only [Act.put, List.setIfInBounds_toArray, List.set_cons_zero, List.set_cons_succ]
  refine wpAnyH_ready (rs := [2]) (by kernel_rfl) (by simp) ?_
  refine AllReadyH.cons (by simp only [List.getElem?_toArray, List.getElem?_cons_succ, List.getElem?_cons_zero]; exact rfl) (fun K hK => ?_) AllReadyH.nil
  go_simp
  have q8d := q8.drew
  refine (toGraph_any _ _ _ (hv0.below q8d (Nat.le_refl _)) hsm0).mono ?_
  rintro e w9 ⟨x9, rfl, hy9, hb9⟩
  have hb9e : Below w8.heap.size w8 w9 := ⟨hb9.os, hb9.tape, hb9.output, hb9.size, hb9.block⟩
  have q9 := q8.trans (hb9e.mono q8.size)
  have b0_9 : w9.cell? ⟨w.heap.size, 0, none⟩ = some (.slice a0 g0.length c0) := (hb9e.cell (p := ⟨w.heap.size, 0, none⟩) (cell_lt b0_8)).trans b0_8
  have l6_9 : w9.cell? ⟨w5.heap.size, 0, none⟩ = some (.slice xa6 g0.length xc6) := (hb9e.cell (p := ⟨w5.heap.size, 0, none⟩) (cell_lt l6_8)).trans l6_8
  have y2_9 := y2_8.below hb9e (Nat.le_refl _)
  have y3_9 := y3_8.below hb9e (Nat.le_refl _)
  have y5_9 := y5_8.below hb9e (Nat.le_refl _)
  have y7_9 := y7_8.below hb9e (Nat.le_refl _)
  have y9_9 := hy9
  try dsimp only
  refine hK.out _ _ ?h11 (fun hHeld => ?_)
  case h11 => first | exact ⟨‹_›, ‹_›⟩ | assumption | (simp [*, go_sem])
  clear hK K
  try simp only [Act.put, List.setIfInBounds_toArray, List.set_cons_zero, List.set_cons_succ]
  refine wpAnyH_ready (rs := [3]) (by kernel_rfl) (by simp) ?_
  refine AllReadyH.cons (by simp only [List.getElem?_toArray, List.getElem?_cons_succ, List.getElem?_cons_zero]; exact rfl) (fun K hK => ?_) AllReadyH.nil
  go_simp
  refine (eqGraph_any _ _ _ _ _ y5_9 y9_9).mono ?_
  rintro e w10 ⟨rfl, hb10⟩
  have q10 := q9.trans (hb10.mono q9.size)
  have b0_10 : w10.cell? ⟨w.heap.size, 0, none⟩ = some (.slice a0 g0.length c0) := (hb10.cell (p := ⟨w.heap.size, 0, none⟩) (cell_lt b0_9)).trans b0_9
  have l6_10 : w10.cell? ⟨w5.heap.size, 0, none⟩ = some (.slice xa6 g0.length xc6) := (hb10.cell (p := ⟨w5.heap.size, 0, none⟩) (cell_lt l6_9)).trans l6_9
  have y2_10 := y2_9.below hb10 (Nat.le_refl _)
  have y3_10 := y3_9.below hb10 (Nat.le_refl _)
  have y5_10 := y5_9.below hb10 (Nat.le_refl _)
  have y7_10 := y7_9.below hb10 (Nat.le_refl _)
  have y9_10 := y9_9.below hb10 (Nat.le_refl _)
  try dsimp only
  refine hK.out _ _ ?h13 (fun hHeld => ?_)
  case h13 => first | exact ⟨‹_›, ‹_›⟩ | assumption | (simp [*, go_sem])
  clear hK K
  try simp only [Act.put, List.setIfInBounds_toArray, List.set_cons_zero, List.set_cons_succ]
  refine wpAnyH_take (i := 4) (v := ?v14) (by simp only [List.getElem?_toArray, List.getElem?_cons_succ, List.getElem?_cons_zero]; exact rfl) (by kernel_rfl) (by kernel_rfl) (by kernel_rfl) (by intro _ _ _ h; exact h) (Or.inl ⟨by rfl, ?y14⟩) hHeld ?_
  case y14 => (intro w hSw; (try dsimp only at hSw); go_simp; try (with_reducible rfl))
  try simp only [Act.put, List.setIfInBounds_toArray, List.set_cons_zero, List.set_cons_succ]
  refine wpAnyH_done (by kernel_rfl) ?_ _
  go_wp2_with fail
  refine (toInt64S_any _ _ _ (hv1.below q10 (Nat.le_refl _)) hl1).mono ?_
  rintro e w11 ⟨x11, rfl, hy11, hb11⟩
  have q11 := q10.trans (hb11.mono q10.size)
  have b0_11 : w11.cell? ⟨w.heap.size, 0, none⟩ = some (.slice a0 g0.length c0) := (hb11.cell (p := ⟨w.heap.size, 0, none⟩) (cell_lt b0_10)).trans b0_10
  have l6_11 : w11.cell? ⟨w5.heap.size, 0, none⟩ = some (.slice xa6 g0.length xc6) := (hb11.cell (p := ⟨w5.heap.size, 0, none⟩) (cell_lt l6_10)).trans l6_10
  have y2_11 := y2_10.below hb11 (Nat.le_refl _)
  have y3_11 := y3_10.below hb11 (Nat.le_refl _)
  have y5_11 := y5_10.below hb11 (Nat.le_refl _)
  have y7_11 := y7_10.below hb11 (Nat.le_refl _)
  have y9_11 := y9_10.below hb11 (Nat.le_refl _)
  have y11_11 := Own.ints (xs := s1) hy11 (by omega)
  go_wp2_with fail
  refine (eqInt64S_any _ _ _ _ _ y7_11 y11_11).mono ?_
  rintro e w12 ⟨rfl, hd12⟩
  have hb12 := hd12.below w11.heap.size
  have q12 := q11.trans (hb12.mono q11.size)
  have b0_12 : w12.cell? ⟨w.heap.size, 0, none⟩ = some (.slice a0 g0.length c0) := (hb12.cell (p := ⟨w.heap.size, 0, none⟩) (cell_lt b0_11)).trans b0_11
  have l6_12 : w12.cell? ⟨w5.heap.size, 0, none⟩ = some (.slice xa6 g0.length xc6) := (hb12.cell (p := ⟨w5.heap.size, 0, none⟩) (cell_lt l6_11)).trans l6_11
  have y2_12 := y2_11.below hb12 (Nat.le_refl _)
  have y3_12 := y3_11.below hb12 (Nat.le_refl _)
  have y5_12 := y5_11.below hb12 (Nat.le_refl _)
  have y7_12 := y7_11.below hb12 (Nat.le_refl _)
  have y9_12 := y9_11.below hb12 (Nat.le_refl _)
  have y11_12 := y11_11.below hb12 (Nat.le_refl _)
  go_wp2
  go_ret
  exact ⟨rfl, q12⟩
set_option maxHeartbeats 8000000 in
theorem lawWidthAtMost_any {S0 : Nat → Prop} (v0 : Value) (g0 : List (List Int)) (z1 : Int) (w : World) (ht : Tab w) (hv0 : SlR S0 w v0 g0) (hv1 : -9223372036854775808 ≤ z1 ∧ z1 ≤ 9223372036854775807) :
    Calls Tryd.prog 5 #[.agg #[v0], .int .i64 z1] w fun e w' => e = .returned (.bool true) ∧ Below w.heap.size w w' := by
  obtain ⟨a0, c0, rfl⟩ := hv0.slice
  have q0 : Below w.heap.size w (w.alloc (.cells #[.slice a0 g0.length c0] 24)) := (Below.refl _ _).alloc (Nat.le_refl _) _
  go_enter Tryd.func5, Tryd.ntmps5
  go_wp2_with fail
  refine (szGraph_any _ _ _ _ (hv0.below q0 (Nat.le_refl _)) (by omega) (by omega)).mono ?_
  rintro e w1 ⟨r1, rfl, hr1, hs1, hm1, hb1⟩
  have q1 := q0.trans (hb1.mono q0.size)
  have b0_1 : w1.cell? ⟨w.heap.size, 0, none⟩ = some (.slice a0 g0.length c0) := (hb1.cell (p := ⟨w.heap.size, 0, none⟩) (by simp <;> omega)).trans (by simp [go_sem])
  by_cases hneg1 : r1 < 0
  case pos =>
    go_wp2
    go_ret
    exact ⟨rfl, q1⟩
  have hsm0 : SmallR g0 1048576 := hm1 (by omega)
  go_wp2_with fail
  refine (toGraph_any _ _ _ (hv0.below q1 (Nat.le_refl _)) hsm0).mono ?_
  rintro e w2 ⟨x2, rfl, hy2, hb2⟩
  have q2 := q1.trans (hb2.mono q1.size)
  have b0_2 : w2.cell? ⟨w.heap.size, 0, none⟩ = some (.slice a0 g0.length c0) := (hb2.cell (p := ⟨w.heap.size, 0, none⟩) (cell_lt b0_1)).trans b0_1
  have y2_2 := hy2
  go_wp2_with fail
  refine (specWidthAtMost_any y2_2).mono ?_
  rintro e w3 ⟨rfl, hb3⟩
  have q3 := q2.trans (hb3.mono q2.size)
  have b0_3 : w3.cell? ⟨w.heap.size, 0, none⟩ = some (.slice a0 g0.length c0) := (hb3.cell (p := ⟨w.heap.size, 0, none⟩) (cell_lt b0_2)).trans b0_2
  have y2_3 := y2_2.below hb3 (Nat.le_refl _)
  go_wp2_with fail
  refine (toGraph_any _ _ _ (hv0.below q3 (Nat.le_refl _)) hsm0).mono ?_
  rintro e w4 ⟨x4, rfl, hy4, hb4⟩
  have q4 := q3.trans (hb4.mono q3.size)
  have b0_4 : w4.cell? ⟨w.heap.size, 0, none⟩ = some (.slice a0 g0.length c0) := (hb4.cell (p := ⟨w.heap.size, 0, none⟩) (cell_lt b0_3)).trans b0_3
  have y2_4 := y2_3.below hb4 (Nat.le_refl _)
  have y4_4 := hy4
  obtain ⟨xa5, xc5, rfl⟩ := y4_4.slice
  have hb5 : Below w4.heap.size w4 (w4.alloc (.cells #[.slice xa5 g0.length xc5] 27)) := (Below.refl _ _).alloc (Nat.le_refl _) _
  have q5 := q4.trans (hb5.mono q4.size)
  have b0_5 := (hb5.cell (p := ⟨w.heap.size, 0, none⟩) (cell_lt b0_4)).trans b0_4
  have y2_5 := y2_4.below hb5 (Nat.le_refl _)
  have y4_5 := y4_4.below hb5 (Nat.le_refl _)
  go_wp2_with fail
  refine (implWidthAtMost_any (ht.below q5 (Nat.le_refl _)) y4_5).mono ?_
  rintro e w6 ⟨rfl, hb6⟩
  have q6 := q5.trans (hb6.mono q5.size)
  have b0_6 : w6.cell? ⟨w.heap.size, 0, none⟩ = some (.slice a0 g0.length c0) := (hb6.cell (p := ⟨w.heap.size, 0, none⟩) (by have := cell_lt b0_5; simp at this ⊢; omega)).trans b0_5
  have l5_6 : w6.cell? ⟨w4.heap.size, 0, none⟩ = some (.slice xa5 g0.length xc5) := (hb6.cell (p := ⟨w4.heap.size, 0, none⟩) (by simp)).trans (by simp [go_sem])
  have y2_6 := y2_5.below hb6 (Nat.le_refl _)
  have y4_6 := y4_5.below hb6 (Nat.le_refl _)
  go_wp2
  have _tt : True := trivial
  refine wp_region_held_drew (S := (fun w' => w'.cell? ⟨w.heap.size, 0, none⟩ = some (.slice a0 g0.length c0) ∧ w'.cell? ⟨w4.heap.size, 0, none⟩ = some (.slice xa5 g0.length xc5))) (by kernel_rfl) ?_ (fun hHeld => ?_)
  · first | exact ⟨‹_›, ‹_›⟩ | assumption | (simp [*, go_sem])
  refine wpAnyH_take (i := 0) (v := ?v15) (by simp only [List.getElem?_toArray, List.getElem?_cons_zero]; exact rfl) (by kernel_rfl) (by kernel_rfl) (by kernel_rfl) (by intro _ _ _ h; exact h) (Or.inl ⟨by rfl, ?y15⟩) hHeld ?_
  case y15 => (intro w hSw; (try dsimp only at hSw); go_simp; try (with_reducible rfl))
  try simp only [Act.put, List.setIfInBounds_toArray, List.set_cons_zero, List.set_cons_succ]
  refine wpAnyH_take (i := 1) (v := ?v16) (by simp only [List.getElem?_toArray, List.getElem?_cons_succ, List.getElem?_cons_zero]; exact rfl) (by kernel_rfl) (by kernel_rfl) (by kernel_rfl) (by intro _ _ _ h; exact h) (Or.inl ⟨by rfl, ?y16⟩) hHeld ?_
  case y16 => (intro w hSw; (try dsimp only at hSw); go_simp; try (with_reducible rfl))
  try simp only [Act.put, List.setIfInBounds_toArray, List.set_cons_zero, List.set_cons_succ]
  refine wpAnyH_ready (rs := [2]) (by kernel_rfl) (by simp) ?_
  refine AllReadyH.cons (by simp only [List.getElem?_toArray, List.getElem?_cons_succ, List.getElem?_cons_zero]; exact rfl) (fun K hK => ?_) AllReadyH.nil
  go_simp
  have q6d := q6.drew
  refine (toGraph_any _ _ _ (hv0.below q6d (Nat.le_refl _)) hsm0).mono ?_
  rintro e w7 ⟨x7, rfl, hy7, hb7⟩
  have hb7e : Below w6.heap.size w6 w7 := ⟨hb7.os, hb7.tape, hb7.output, hb7.size, hb7.block⟩
  have q7 := q6.trans (hb7e.mono q6.size)
  have b0_7 : w7.cell? ⟨w.heap.size, 0, none⟩ = some (.slice a0 g0.length c0) := (hb7e.cell (p := ⟨w.heap.size, 0, none⟩) (cell_lt b0_6)).trans b0_6
  have l5_7 : w7.cell? ⟨w4.heap.size, 0, none⟩ = some (.slice xa5 g0.length xc5) := (hb7e.cell (p := ⟨w4.heap.size, 0, none⟩) (cell_lt l5_6)).trans l5_6
  have y2_7 := y2_6.below hb7e (Nat.le_refl _)
  have y4_7 := y4_6.below hb7e (Nat.le_refl _)
  have y7_7 := hy7
  try dsimp only
  refine hK.out _ _ ?h18 (fun hHeld => ?_)
  case h18 => first | exact ⟨‹_›, ‹_›⟩ | assumption | (simp [*, go_sem])
  clear hK K
  try simp only [Act.put, List.setIfInBounds_toArray, List.set_cons_zero, List.set_cons_succ]
  refine wpAnyH_ready (rs := [3]) (by kernel_rfl) (by simp) ?_
  refine AllReadyH.cons (by simp only [List.getElem?_toArray, List.getElem?_cons_succ, List.getElem?_cons_zero]; exact rfl) (fun K hK => ?_) AllReadyH.nil
  go_simp
  refine (eqGraph_any _ _ _ _ _ y4_7 y7_7).mono ?_
  rintro e w8 ⟨rfl, hb8⟩
  have q8 := q7.trans (hb8.mono q7.size)
  have b0_8 : w8.cell? ⟨w.heap.size, 0, none⟩ = some (.slice a0 g0.length c0) := (hb8.cell (p := ⟨w.heap.size, 0, none⟩) (cell_lt b0_7)).trans b0_7
  have l5_8 : w8.cell? ⟨w4.heap.size, 0, none⟩ = some (.slice xa5 g0.length xc5) := (hb8.cell (p := ⟨w4.heap.size, 0, none⟩) (cell_lt l5_7)).trans l5_7
  have y2_8 := y2_7.below hb8 (Nat.le_refl _)
  have y4_8 := y4_7.below hb8 (Nat.le_refl _)
  have y7_8 := y7_7.below hb8 (Nat.le_refl _)
  try dsimp only
  refine hK.out _ _ ?h20 (fun hHeld => ?_)
  case h20 => first | exact ⟨‹_›, ‹_›⟩ | assumption | (simp [*, go_sem])
  clear hK K
  try simp only [Act.put, List.setIfInBounds_toArray, List.set_cons_zero, List.set_cons_succ]
  refine wpAnyH_take (i := 4) (v := ?v21) (by simp only [List.getElem?_toArray, List.getElem?_cons_succ, List.getElem?_cons_zero]; exact rfl) (by kernel_rfl) (by kernel_rfl) (by kernel_rfl) (by intro _ _ _ h; exact h) (Or.inl ⟨by rfl, ?y21⟩) hHeld ?_
  case y21 => (intro w hSw; (try dsimp only at hSw); go_simp; try (with_reducible rfl))
  try simp only [Act.put, List.setIfInBounds_toArray, List.set_cons_zero, List.set_cons_succ]
  refine wpAnyH_done (by kernel_rfl) ?_ _
  go_wp2
  go_ret
  exact ⟨rfl, q8⟩
end Go.Proofs.YtfkdhlmigbkefaaDoor
