/- AroundOk of the reference; the law. -/
import Derived.Test.YtbpjbjeglcphcaaAro
import Derived.Test.YtbpjbjeglcphcaaBoxAround
namespace Go.Proofs.Ytbpjbjeglcphcaa
open Go.RowKit
set_option maxRecDepth 100000 in
set_option maxHeartbeats 8000000 in
theorem specAroundOk_any {S S' : Nat → Prop} {gv rv : Value} {g r : List (List Int)} {w : World} (hvg : SlR S w gv g) (hvr : SlR S' w rv r) :
    Calls Try.prog 9 #[.agg #[gv], .agg #[rv]] w fun e w' => e = .returned (.bool (aroundB g r)) ∧ Below w.heap.size w w' := by
  have hq0 : Below w.heap.size w ((w.alloc (.cells #[gv] 30)).alloc (.cells #[rv] 32)) := ((Below.refl _ _).alloc (Nat.le_refl _) _).alloc (by simp) _
  have hgo := specGraphOk_any _ _ _ (hvg.below hq0 (Nat.le_refl _))
  obtain ⟨ga, gb, goff, gcap, gf, rfl, hgl, hga, hgc⟩ := hvg
  obtain ⟨ra, rb, roff, rcap, rf, rfl, hrl, hra, hrc⟩ := hvr
  by_cases hg : GOk g
  case neg =>
    rw [gokB_false hg] at hgo
    have HE := Lib.hid (around_false (g := g) (r := r) fun h => hg h.gok)
    go_enter Try.func9, Try.ntmps9
    go_wp2_with fail
    refine hgo.mono ?_
    rintro e w1 ⟨rfl, hb1⟩
    go_wp2
    go_ret
    exact ⟨ret_bool HE.out.symm, hq0.trans (hb1.mono hq0.size)⟩
  rw [gokB_true hg] at hgo
  by_cases hne : r.length = g.length
  case neg =>
    have hn0 : ((r.length : Int) != (g.length : Int)) = true := by rw [bne_iff_ne]; omega
    have HE := Lib.hid (around_false (g := g) (r := r) fun h => hne h.len)
    clear hne
    go_enter Try.func9, Try.ntmps9
    go_wp2_with fail
    refine hgo.mono ?_
    rintro e w1 ⟨rfl, hb1⟩
    have c0 : w1.cell? ⟨w.heap.size, 0, none⟩ = some (.slice ga g.length gcap) := (hb1.cell (p := ⟨w.heap.size, 0, none⟩) (by simp <;> omega)).trans (by simp [go_sem])
    have c1 : w1.cell? ⟨w.heap.size + 1, 0, none⟩ = some (.slice ra r.length rcap) := (hb1.cell (p := ⟨w.heap.size + 1, 0, none⟩) (by simp)).trans (by simp [go_sem])
    go_wp2
    go_ret
    exact ⟨ret_bool HE.out.symm, hq0.trans (hb1.mono hq0.size)⟩
  have HN := Lib.hid hne
  have h16 := hg.hi
  have hlo := hg.lo
  rw [hne]
  rw [hne] at hrl hra hq0 hgo
  have hn0 : ((g.length : Int) != (g.length : Int)) = false := by simp
  clear hne
  go_enter Try.func9, Try.ntmps9
  go_wp2_with fail
  refine hgo.mono ?_
  rintro e w1 ⟨rfl, hb1⟩
  have hq1 := hq0.trans (hb1.mono hq0.size)
  have c0 : w1.cell? ⟨w.heap.size, 0, none⟩ = some (.slice ga g.length gcap) := (hb1.cell (p := ⟨w.heap.size, 0, none⟩) (by simp <;> omega)).trans (by simp [go_sem])
  have c1 : w1.cell? ⟨w.heap.size + 1, 0, none⟩ = some (.slice ra g.length rcap) := (hb1.cell (p := ⟨w.heap.size + 1, 0, none⟩) (by simp)).trans (by simp [go_sem])
  have HG := Lib.hid hg
  have HGC := Lib.hid hgc
  have HRC := Lib.hid hrc
  clear hgo hb1 hg hgc hrc
  go_wp2
  go_loopw [5, 6, 7] (fun iv _ _ wr => ∃ k : Nat, k ≤ g.length ∧ iv = .int .i64 k ∧ RowKit.Hid (AroTo g r k) ∧ Drawn w1 wr) (fun iv _ _ _ => g.length - (intOf iv).toNat)
  case atStart => exact ⟨0, by omega, rfl, Lib.hid (AroTo.zero g r), Drawn.refl _⟩
  case round =>
    obtain ⟨k, hk, rfl, HT, hqd⟩ := hrel
    obtain ⟨wi, rfl⟩ : ∃ wx : World, wx = wr := ⟨_, rfl⟩
    have c0' := (hqd.cell _).trans c0
    have c1' := (hqd.cell _).trans c1
    by_cases hlt : k < g.length
    case neg =>
      have HE := Lib.hid (around_true (g := g) (r := r) ⟨HG.out, HN.out, fun v hv => HT.out v (by omega)⟩)
      go_wp2
      go_ret
      exact ⟨ret_bool HE.out.symm, hq1.trans ((hqd.below w1.heap.size).mono hq1.size)⟩
    have hltr : k < r.length := by have := HN.out; omega
    have hlti : (k : Int) < g.length := by omega
    obtain ⟨k1, r1⟩ := HGC.out k hlt
    obtain ⟨k2, r2⟩ := HRC.out k hltr
    have eg : g.getD k [] = g[k] := by simp [hlt]
    have er : r.getD k [] = r[k] := by simp [hltr]
    have HEG := Lib.hid eg
    have HER := Lib.hid er
    have k1 := ((hq1.cell (cell_lt k1)).trans k1)
    have k1 := ((hqd.cell _).trans k1)
    have k2 := ((hq1.cell (cell_lt k2)).trans k2)
    have k2 := ((hqd.cell _).trans k2)
    have r1 := (r1.below hq1 (Nat.le_refl _)).drawn hqd
    have r2 := (r2.below hq1 (Nat.le_refl _)).drawn hqd
    obtain ⟨rfl, -⟩ := hga (by omega)
    obtain ⟨rfl, -⟩ := hra (by omega)
    clear eg er
    generalize hrow : g[k] = row at *
    generalize hturn : r[k] = t at *
    have HEG2 := Lib.hid (show g.getD k [] = row from HEG.out)
    have HER2 := Lib.hid (show r.getD k [] = t from HER.out)
    clear hrow hturn HEG HER
    obtain ⟨ta, tb, toff, tcap, hte, htl, hta, htc⟩ := r2
    obtain ⟨wa, wb, woff, wcap, hwe, hwl, hwa, hwc⟩ := r1
    rw [hte] at k2
    rw [hwe] at k1
    have r1 : SlI S wi .i64 (.slice wa row.length wcap) row := ⟨wa, wb, woff, wcap, rfl, hwl, hwa, hwc⟩
    have r2 : SlI S' wi .i64 (.slice ta t.length tcap) t := ⟨ta, tb, toff, tcap, rfl, htl, hta, htc⟩
    clear hte hwe
    by_cases hll : t.length = row.length
    case neg =>
      have hl0 : ((t.length : Int) != (row.length : Int)) = true := by rw [bne_iff_ne]; omega
      have HE := Lib.hid (around_false (g := g) (r := r) fun h => hll (by have := (h.turn k hlt).len; rw [HEG2.out, HER2.out] at this; exact this))
      clear hll
      go_wp2
      go_quiet (fail)
      go_wp2
      go_ret
      exact ⟨ret_bool HE.out.symm, hq1.trans (((hqd.drewN _).below w1.heap.size).mono hq1.size)⟩
    have HLL := Lib.hid hll
    have hl0 : ((t.length : Int) != (t.length : Int)) = false := by simp
    rw [← hll] at k1
    have htw : row.length = t.length := hll.symm
    rw [htw] at hwl hwa r1
    clear hll htw
    by_cases ht0 : 0 < t.length
    case neg =>
      have htn : t.length = 0 := by omega
      have HT2 := Lib.hid (HT.out.next (by rw [HEG2.out, HER2.out]; exact ⟨HLL.out, fun h => absurd h ht0, fun i hi => by omega⟩))
      have ht1 : decide ((0 : Int) < (t.length : Int)) = false := decide_eq_false (by omega)
      have ht2 : decide (0 < t.length) = false := decide_eq_false ht0
      generalize t.length = tl at *
      subst htn
      clear ht0
      go_wp2
      go_quiet (fail)
      go_wp2
      go_loopw [7] (fun iv wr => iv = .int .i64 0 ∧ Drawn w1 wr) (fun _ _ => 0)
      case atStart => exact ⟨rfl, hqd.drewN _⟩
      case round =>
        obtain ⟨rfl, hqd⟩ := hrel
        go_wp2
        go_roundw
        case rel => exact ⟨k + 1, by omega, by go_num, HT2, hqd⟩
        case measure => simp [intOf]; omega
    have hwn : 0 < row.length := by have := HLL.out; omega
    have et := htc 0 ht0
    have ew := hwc 0 hwn
    have e1' : t.getD 0 0 = t[0] := by simp [ht0]
    have e2' : row.getD 0 0 = row[0] := by simp [hwn]
    have HX1 := Lib.hid e1'
    have HX2 := Lib.hid e2'
    obtain ⟨rfl, -⟩ := hta ht0
    obtain ⟨rfl, -⟩ := hwa ht0
    have ht1 : decide ((0 : Int) < (t.length : Int)) = true := decide_eq_true (by omega)
    have ht2 : decide (0 < t.length) = true := decide_eq_true ht0
    have HT0 := Lib.hid ht0
    generalize t[0] = x at *
    generalize row[0] = y at *
    have et0 : wi.cell? ⟨tb, toff, none⟩ = some (.int .i64 x) := by simpa using et
    have ew0 : wi.cell? ⟨wb, woff, none⟩ = some (.int .i64 y) := by simpa using ew
    have ht3 : (0 : Int) < t.length := by omega
    have HTC := Lib.hid htc
    clear htc hwc hta hwa e1' e2' et ew
    cases hxy : (x != y)
    case true =>
      have HE := Lib.hid (around_false (g := g) (r := r) fun h => by
        have := (h.turn k hlt).first; rw [HEG2.out, HER2.out, HX1.out, HX2.out] at this
        have := this HT0.out
        subst this
        simp at hxy)
      go_wp2
      go_quiet (fail)
      go_wp2
      go_ret
      exact ⟨ret_bool HE.out.symm, hq1.trans (((hqd.drewN _).below w1.heap.size).mono hq1.size)⟩
    have HF := Lib.hid (show t.getD 0 0 = row.getD 0 0 by rw [HX1.out, HX2.out]; simpa using hxy)
    go_wp2
    go_quiet (fail)
    go_wp2
    go_loopw [7] (fun iv wr => ∃ i : Nat, i ≤ t.length ∧ iv = .int .i64 i ∧ RowKit.Hid (TurnTo row t i) ∧ Drawn wi wr) (fun iv _ => t.length - (intOf iv).toNat)
    case atStart => exact ⟨0, by omega, rfl, Lib.hid (fun _ h => absurd h (Nat.not_lt_zero _)), Drawn.drewN (Drawn.refl _) _⟩
    case round =>
      obtain ⟨i, hi, rfl, HU, hqj⟩ := hrel
      obtain ⟨wj, rfl⟩ : ∃ wx : World, wx = wr := ⟨_, rfl⟩
      by_cases hit : i < t.length
      case neg =>
        have HT2 := Lib.hid (HT.out.next (by rw [HEG2.out, HER2.out]; exact ⟨HLL.out, fun _ => HF.out, fun j hj => HU.out j (by omega)⟩))
        go_wp2
        go_roundw
        case rel => exact ⟨k + 1, by omega, by go_num, HT2, hqd.trans hqj⟩
        case measure => simp [intOf]; omega
      have hc := HTC.out i hit
      have hc := (hqj.cell _).trans hc
      have c0' := (hqj.cell _).trans c0'
      have k1 := (hqj.cell _).trans k1
      have hiti : (i : Int) < t.length := by omega
      have r1 := r1.drawn hqj
      have r2 := (r2.drawn hqj).take (m := i) (by omega)
      have ei : t.getD i 0 = t[i] := by simp [hit]
      have HEI := Lib.hid ei
      clear ei
      generalize t[i] = z at *
      have hh1 := fun n => l1Has_any _ _ z _ (r1.drewN n)
      have hh2 := fun n => l1Has_any _ _ z _ (r2.drewN n)
      by_cases hz1 : z ∈ row
      case neg =>
        have HE := Lib.hid (around_false (g := g) (r := r) fun h => by
          have := ((h.turn k hlt).all i (by rw [HER2.out]; exact hit)).1; rw [HEG2.out, HER2.out, HEI.out] at this; exact hz1 this)
        have hd1 := decide_eq_false hz1
        rw [hd1] at hh1
        clear hz1 hd1
        go_wp2
        go_quiet ((go_at_call 31; exact quiet_same (hh1 _)))
        go_wp2
        go_ret
        exact ⟨ret_bool HE.out.symm, hq1.trans ((((hqd.trans hqj).drewN _).below w1.heap.size).mono hq1.size)⟩
      have hd1 := decide_eq_true hz1
      rw [hd1] at hh1
      by_cases hz2 : z ∈ t.take i
      case pos =>
        have HE := Lib.hid (around_false (g := g) (r := r) fun h => by
          have := ((h.turn k hlt).all i (by rw [HER2.out]; exact hit)).2; rw [HER2.out, HEI.out] at this; exact this hz2)
        have hd2 := decide_eq_true hz2
        rw [hd2] at hh2
        clear hz1 hd1 hz2 hd2
        go_wp2
        go_quiet ((go_at_call 31; first | (with_reducible exact quiet_same (hh1 _)) | (with_reducible exact quiet_same (hh2 _)) | fail))
        go_wp2
        go_ret
        exact ⟨ret_bool HE.out.symm, hq1.trans ((((hqd.trans hqj).drewN _).below w1.heap.size).mono hq1.size)⟩
      have HU2 := Lib.hid (HU.out.next (by rw [HEI.out]; exact ⟨hz1, hz2⟩))
      have hd2 := decide_eq_false hz2
      rw [hd2] at hh2
      clear hz1 hd1 hz2 hd2
      go_wp2
      go_quiet ((go_at_call 31; first | (with_reducible exact quiet_same (hh1 _)) | (with_reducible exact quiet_same (hh2 _)) | fail))
      go_wp2
      go_roundw
      case rel => exact ⟨i + 1, by omega, by go_num, HU2, hqj.drewN _⟩
      case measure => simp [intOf]; omega
theorem small_rows {r : List (List Int)} (h : SmallR r 1048576) : ∀ x ∈ r, x.length ≤ 1048576 := fun x hx => by
  obtain ⟨i, hi, rfl⟩ := List.getElem_of_mem hx
  have := h.2 i hi hi
  omega
set_option maxHeartbeats 8000000 in
theorem lawAroundOk_any {S0 S1 : Nat → Prop} (v0 : Value) (g0 : List (List Int)) (v1 : Value) (rr1 : List (List Int)) (w : World) (hv0 : SlR S0 w v0 g0) (hv1 : SlR S1 w v1 rr1) :
    Calls Try.prog 3 #[.agg #[v0], .agg #[v1]] w fun e w' => e = .returned (.bool true) ∧ Below w.heap.size w w' := by
  obtain ⟨a0, c0, rfl⟩ := hv0.slice
  obtain ⟨a1, c1, rfl⟩ := hv1.slice
  have q0 : Below w.heap.size w ((w.alloc (.cells #[.slice a0 g0.length c0] 24)).alloc (.cells #[.slice a1 rr1.length c1] 26)) := ((Below.refl _ _).alloc (Nat.le_refl _) _).alloc (by simp; try omega) _
  go_enter Try.func3, Try.ntmps3
  go_wp2_with fail
  refine (szGraph_any _ _ _ _ (hv0.below q0 (Nat.le_refl _)) (by omega) (by omega)).mono ?_
  rintro e w1 ⟨r1, rfl, hr1, hs1, hm1, hb1⟩
  have q1 := q0.trans (hb1.mono q0.size)
  have b0_1 : w1.cell? ⟨w.heap.size, 0, none⟩ = some (.slice a0 g0.length c0) := (hb1.cell (p := ⟨w.heap.size, 0, none⟩) (by simp <;> omega)).trans (by simp [go_sem])
  have b1_1 : w1.cell? ⟨w.heap.size + 1, 0, none⟩ = some (.slice a1 rr1.length c1) := (hb1.cell (p := ⟨w.heap.size + 1, 0, none⟩) (by simp <;> omega)).trans (by simp [go_sem])
  by_cases hneg1 : r1 < 0
  case pos =>
    go_wp2
    go_ret
    exact ⟨rfl, q1⟩
  have hsm0 : SmallR g0 1048576 := hm1 (by omega)
  go_wp2_with fail
  refine (szAround_any _ _ _ _ (hv1.below q1 (Nat.le_refl _)) (by omega) (by omega)).mono ?_
  rintro e w2 ⟨r2, rfl, hr2, hs2, hm2, hb2⟩
  have q2 := q1.trans (hb2.mono q1.size)
  have b0_2 : w2.cell? ⟨w.heap.size, 0, none⟩ = some (.slice a0 g0.length c0) := (hb2.cell (p := ⟨w.heap.size, 0, none⟩) (cell_lt b0_1)).trans b0_1
  have b1_2 : w2.cell? ⟨w.heap.size + 1, 0, none⟩ = some (.slice a1 rr1.length c1) := (hb2.cell (p := ⟨w.heap.size + 1, 0, none⟩) (cell_lt b1_1)).trans b1_1
  by_cases hneg2 : r2 < 0
  case pos =>
    go_wp2
    go_ret
    exact ⟨rfl, q2⟩
  have hsm1 : SmallR rr1 1048576 := smallR_mono (hm2 (by omega)) (by omega)
  go_wp2
  have _tt : True := trivial
  refine wp_region_held_drew (S := (fun w' => w'.cell? ⟨w.heap.size, 0, none⟩ = some (.slice a0 g0.length c0) ∧ w'.cell? ⟨w.heap.size + 1, 0, none⟩ = some (.slice a1 rr1.length c1))) (by kernel_rfl) ?_ (fun hHeld => ?_)
  · first | exact ⟨‹_›, ‹_›⟩ | assumption | (simp [*, go_sem])
  refine wpAnyH_take (i := 0) (v := ?v1) (by simp only [List.getElem?_toArray, List.getElem?_cons_zero]; exact rfl) (by kernel_rfl) (by kernel_rfl) (by kernel_rfl) (by intro _ _ _ h; exact h) (Or.inl ⟨by rfl, ?y1⟩) hHeld ?_
  case y1 => (intro w hSw; (try dsimp only at hSw); go_simp; try (with_reducible rfl))
  try simp only [Act.put, List.setIfInBounds_toArray, List.set_cons_zero, List.set_cons_succ]
  refine wpAnyH_take (i := 2) (v := ?v2) (by simp only [List.getElem?_toArray, List.getElem?_cons_succ, List.getElem?_cons_zero]; exact rfl) (by kernel_rfl) (by kernel_rfl) (by kernel_rfl) (by intro _ _ _ h; exact h) (Or.inl ⟨by rfl, ?y2⟩) hHeld ?_
  case y2 => (intro w hSw; (try dsimp only at hSw); go_simp; try (with_reducible rfl))
  try simp only [Act.put, List.setIfInBounds_toArray, List.set_cons_zero, List.set_cons_succ]
  refine wpAnyH_ready (rs := [1]) (by kernel_rfl) (by simp) ?_
  refine AllReadyH.cons (by simp only [List.getElem?_toArray, List.getElem?_cons_succ, List.getElem?_cons_zero]; exact rfl) (fun K hK => ?_) AllReadyH.nil
  go_simp
  have q2d := q2.drew
  refine (toGraph_any _ _ _ (hv0.below q2d (Nat.le_refl _)) hsm0).mono ?_
  rintro e w3 ⟨x3, rfl, hy3, hb3⟩
  have hb3e : Below w2.heap.size w2 w3 := ⟨hb3.os, hb3.tape, hb3.output, hb3.size, hb3.block⟩
  have q3 := q2.trans (hb3e.mono q2.size)
  have b0_3 : w3.cell? ⟨w.heap.size, 0, none⟩ = some (.slice a0 g0.length c0) := (hb3e.cell (p := ⟨w.heap.size, 0, none⟩) (cell_lt b0_2)).trans b0_2
  have b1_3 : w3.cell? ⟨w.heap.size + 1, 0, none⟩ = some (.slice a1 rr1.length c1) := (hb3e.cell (p := ⟨w.heap.size + 1, 0, none⟩) (cell_lt b1_2)).trans b1_2
  have y3_3 := hy3
  try dsimp only
  refine hK.out _ _ ?h4 (fun hHeld => ?_)
  case h4 => first | exact ⟨‹_›, ‹_›⟩ | assumption | (simp [*, go_sem])
  clear hK K
  try simp only [Act.put, List.setIfInBounds_toArray, List.set_cons_zero, List.set_cons_succ]
  refine wpAnyH_ready (rs := [3]) (by kernel_rfl) (by simp) ?_
  refine AllReadyH.cons (by simp only [List.getElem?_toArray, List.getElem?_cons_succ, List.getElem?_cons_zero]; exact rfl) (fun K hK => ?_) AllReadyH.nil
  go_simp
  refine (toAround_any _ _ _ (hv1.below q3 (Nat.le_refl _)) hsm1).mono ?_
  rintro e w4 ⟨x4, rfl, hy4, hb4⟩
  have q4 := q3.trans (hb4.mono q3.size)
  have b0_4 : w4.cell? ⟨w.heap.size, 0, none⟩ = some (.slice a0 g0.length c0) := (hb4.cell (p := ⟨w.heap.size, 0, none⟩) (cell_lt b0_3)).trans b0_3
  have b1_4 : w4.cell? ⟨w.heap.size + 1, 0, none⟩ = some (.slice a1 rr1.length c1) := (hb4.cell (p := ⟨w.heap.size + 1, 0, none⟩) (cell_lt b1_3)).trans b1_3
  have y3_4 := y3_3.below hb4 (Nat.le_refl _)
  have y4_4 := hy4
  try dsimp only
  refine hK.out _ _ ?h6 (fun hHeld => ?_)
  case h6 => first | exact ⟨‹_›, ‹_›⟩ | assumption | (simp [*, go_sem])
  clear hK K
  try simp only [Act.put, List.setIfInBounds_toArray, List.set_cons_zero, List.set_cons_succ]
  refine wpAnyH_ready (rs := [4]) (by kernel_rfl) (by simp) ?_
  refine AllReadyH.cons (by simp only [List.getElem?_toArray, List.getElem?_cons_succ, List.getElem?_cons_zero]; exact rfl) (fun K hK => ?_) AllReadyH.nil
  go_simp
  refine (specAroundOk_any y3_4 y4_4).mono ?_
  rintro e w5 ⟨rfl, hb5⟩
  have q5 := q4.trans (hb5.mono q4.size)
  have b0_5 : w5.cell? ⟨w.heap.size, 0, none⟩ = some (.slice a0 g0.length c0) := (hb5.cell (p := ⟨w.heap.size, 0, none⟩) (cell_lt b0_4)).trans b0_4
  have b1_5 : w5.cell? ⟨w.heap.size + 1, 0, none⟩ = some (.slice a1 rr1.length c1) := (hb5.cell (p := ⟨w.heap.size + 1, 0, none⟩) (cell_lt b1_4)).trans b1_4
  have y3_5 := y3_4.below hb5 (Nat.le_refl _)
  have y4_5 := y4_4.below hb5 (Nat.le_refl _)
  try dsimp only
  refine hK.out _ _ ?h8 (fun hHeld => ?_)
  case h8 => first | exact ⟨‹_›, ‹_›⟩ | assumption | (simp [*, go_sem])
  clear hK K
  try simp only [Act.put, List.setIfInBounds_toArray, List.set_cons_zero, List.set_cons_succ]
  refine wpAnyH_take (i := 5) (v := ?v9) (by simp only [List.getElem?_toArray, List.getElem?_cons_succ, List.getElem?_cons_zero]; exact rfl) (by kernel_rfl) (by kernel_rfl) (by kernel_rfl) (by intro _ _ _ h; exact h) (Or.inl ⟨by rfl, ?y9⟩) hHeld ?_
  case y9 => (intro w hSw; (try dsimp only at hSw); go_simp; try (with_reducible rfl))
  try simp only [Act.put, List.setIfInBounds_toArray, List.set_cons_zero, List.set_cons_succ]
  refine wpAnyH_done (by kernel_rfl) ?_ _
  go_wp2_with fail
  refine (toGraph_any _ _ _ (hv0.below q5 (Nat.le_refl _)) hsm0).mono ?_
  rintro e w6 ⟨x6, rfl, hy6, hb6⟩
  have q6 := q5.trans (hb6.mono q5.size)
  have b0_6 : w6.cell? ⟨w.heap.size, 0, none⟩ = some (.slice a0 g0.length c0) := (hb6.cell (p := ⟨w.heap.size, 0, none⟩) (cell_lt b0_5)).trans b0_5
  have b1_6 : w6.cell? ⟨w.heap.size + 1, 0, none⟩ = some (.slice a1 rr1.length c1) := (hb6.cell (p := ⟨w.heap.size + 1, 0, none⟩) (cell_lt b1_5)).trans b1_5
  have y3_6 := y3_5.below hb6 (Nat.le_refl _)
  have y4_6 := y4_5.below hb6 (Nat.le_refl _)
  have y6_6 := hy6
  obtain ⟨xa7, xc7, rfl⟩ := y6_6.slice
  have hb7 : Below w6.heap.size w6 (w6.alloc (.cells #[.slice xa7 g0.length xc7] 30)) := (Below.refl _ _).alloc (Nat.le_refl _) _
  have q7 := q6.trans (hb7.mono q6.size)
  have b0_7 := (hb7.cell (p := ⟨w.heap.size, 0, none⟩) (cell_lt b0_6)).trans b0_6
  have b1_7 := (hb7.cell (p := ⟨w.heap.size + 1, 0, none⟩) (cell_lt b1_6)).trans b1_6
  have y3_7 := y3_6.below hb7 (Nat.le_refl _)
  have y4_7 := y4_6.below hb7 (Nat.le_refl _)
  have y6_7 := y6_6.below hb7 (Nat.le_refl _)
  go_wp2_with fail
  refine (toAround_any _ _ _ (hv1.below q7 (Nat.le_refl _)) hsm1).mono ?_
  rintro e w8 ⟨x8, rfl, hy8, hb8⟩
  have q8 := q7.trans (hb8.mono q7.size)
  have b0_8 : w8.cell? ⟨w.heap.size, 0, none⟩ = some (.slice a0 g0.length c0) := (hb8.cell (p := ⟨w.heap.size, 0, none⟩) (by have := cell_lt b0_7; simp at this ⊢; omega)).trans b0_7
  have b1_8 : w8.cell? ⟨w.heap.size + 1, 0, none⟩ = some (.slice a1 rr1.length c1) := (hb8.cell (p := ⟨w.heap.size + 1, 0, none⟩) (by have := cell_lt b1_7; simp at this ⊢; omega)).trans b1_7
  have l7_8 : w8.cell? ⟨w6.heap.size, 0, none⟩ = some (.slice xa7 g0.length xc7) := (hb8.cell (p := ⟨w6.heap.size, 0, none⟩) (by simp)).trans (by simp [go_sem])
  have y3_8 := y3_7.below hb8 (Nat.le_refl _)
  have y4_8 := y4_7.below hb8 (Nat.le_refl _)
  have y6_8 := y6_7.below hb8 (Nat.le_refl _)
  have y8_8 := hy8
  obtain ⟨xa9, xc9, rfl⟩ := y8_8.slice
  have hb9 : Below w8.heap.size w8 (w8.alloc (.cells #[.slice xa9 rr1.length xc9] 32)) := (Below.refl _ _).alloc (Nat.le_refl _) _
  have q9 := q8.trans (hb9.mono q8.size)
  have b0_9 := (hb9.cell (p := ⟨w.heap.size, 0, none⟩) (cell_lt b0_8)).trans b0_8
  have b1_9 := (hb9.cell (p := ⟨w.heap.size + 1, 0, none⟩) (cell_lt b1_8)).trans b1_8
  have l7_9 := (hb9.cell (p := ⟨w6.heap.size, 0, none⟩) (cell_lt l7_8)).trans l7_8
  have y3_9 := y3_8.below hb9 (Nat.le_refl _)
  have y4_9 := y4_8.below hb9 (Nat.le_refl _)
  have y6_9 := y6_8.below hb9 (Nat.le_refl _)
  have y8_9 := y8_8.below hb9 (Nat.le_refl _)
  go_wp2_with fail
  refine (implAroundOk_any y6_9 y8_9 (small_rows hsm1)).mono ?_
  rintro e w10 ⟨rfl, hb10⟩
  have q10 := q9.trans (hb10.mono q9.size)
  have b0_10 : w10.cell? ⟨w.heap.size, 0, none⟩ = some (.slice a0 g0.length c0) := (hb10.cell (p := ⟨w.heap.size, 0, none⟩) (by have := cell_lt b0_9; simp at this ⊢; omega)).trans b0_9
  have b1_10 : w10.cell? ⟨w.heap.size + 1, 0, none⟩ = some (.slice a1 rr1.length c1) := (hb10.cell (p := ⟨w.heap.size + 1, 0, none⟩) (by have := cell_lt b1_9; simp at this ⊢; omega)).trans b1_9
  have l7_10 : w10.cell? ⟨w6.heap.size, 0, none⟩ = some (.slice xa7 g0.length xc7) := (hb10.cell (p := ⟨w6.heap.size, 0, none⟩) (by have := cell_lt l7_9; simp at this ⊢; omega)).trans l7_9
  have l9_10 : w10.cell? ⟨w8.heap.size, 0, none⟩ = some (.slice xa9 rr1.length xc9) := (hb10.cell (p := ⟨w8.heap.size, 0, none⟩) (by simp)).trans (by simp [go_sem])
  have y3_10 := y3_9.below hb10 (Nat.le_refl _)
  have y4_10 := y4_9.below hb10 (Nat.le_refl _)
  have y6_10 := y6_9.below hb10 (Nat.le_refl _)
  have y8_10 := y8_9.below hb10 (Nat.le_refl _)
  go_wp2
  have _tt : True := trivial
  refine wp_region_held_drew (S := (fun w' => w'.cell? ⟨w.heap.size, 0, none⟩ = some (.slice a0 g0.length c0) ∧ w'.cell? ⟨w.heap.size + 1, 0, none⟩ = some (.slice a1 rr1.length c1) ∧ w'.cell? ⟨w6.heap.size, 0, none⟩ = some (.slice xa7 g0.length xc7) ∧ w'.cell? ⟨w8.heap.size, 0, none⟩ = some (.slice xa9 rr1.length xc9))) (by kernel_rfl) ?_ (fun hHeld => ?_)
  · first | exact ⟨‹_›, ‹_›, ‹_›, ‹_›⟩ | assumption | (simp [*, go_sem])
  refine wpAnyH_take (i := 0) (v := ?v10) (by simp only [List.getElem?_toArray, List.getElem?_cons_zero]; exact rfl) (by kernel_rfl) (by kernel_rfl) (by kernel_rfl) (by intro _ _ _ h; exact h) (Or.inl ⟨by rfl, ?y10⟩) hHeld ?_
  case y10 => (intro w hSw; (try dsimp only at hSw); go_simp; try (with_reducible rfl))
  try simp only [Act.put, List.setIfInBounds_toArray, List.set_cons_zero, List.set_cons_succ]
  refine wpAnyH_take (i := 1) (v := ?v11) (by simp only [List.getElem?_toArray, List.getElem?_cons_succ, List.getElem?_cons_zero]; exact rfl) (by kernel_rfl) (by kernel_rfl) (by kernel_rfl) (by intro _ _ _ h; exact h) (Or.inl ⟨by rfl, ?y11⟩) hHeld ?_
  case y11 => (intro w hSw; (try dsimp only at hSw); go_simp; try (with_reducible rfl))
  try simp only [Act.put, List.setIfInBounds_toArray, List.set_cons_zero, List.set_cons_succ]
  refine wpAnyH_ready (rs := [2]) (by kernel_rfl) (by simp) ?_
  refine AllReadyH.cons (by simp only [List.getElem?_toArray, List.getElem?_cons_succ, List.getElem?_cons_zero]; exact rfl) (fun K hK => ?_) AllReadyH.nil
  go_simp
  have q10d := q10.drew
  refine (toGraph_any _ _ _ (hv0.below q10d (Nat.le_refl _)) hsm0).mono ?_
  rintro e w11 ⟨x11, rfl, hy11, hb11⟩
  have hb11e : Below w10.heap.size w10 w11 := ⟨hb11.os, hb11.tape, hb11.output, hb11.size, hb11.block⟩
  have q11 := q10.trans (hb11e.mono q10.size)
  have b0_11 : w11.cell? ⟨w.heap.size, 0, none⟩ = some (.slice a0 g0.length c0) := (hb11e.cell (p := ⟨w.heap.size, 0, none⟩) (cell_lt b0_10)).trans b0_10
  have b1_11 : w11.cell? ⟨w.heap.size + 1, 0, none⟩ = some (.slice a1 rr1.length c1) := (hb11e.cell (p := ⟨w.heap.size + 1, 0, none⟩) (cell_lt b1_10)).trans b1_10
  have l7_11 : w11.cell? ⟨w6.heap.size, 0, none⟩ = some (.slice xa7 g0.length xc7) := (hb11e.cell (p := ⟨w6.heap.size, 0, none⟩) (cell_lt l7_10)).trans l7_10
  have l9_11 : w11.cell? ⟨w8.heap.size, 0, none⟩ = some (.slice xa9 rr1.length xc9) := (hb11e.cell (p := ⟨w8.heap.size, 0, none⟩) (cell_lt l9_10)).trans l9_10
  have y3_11 := y3_10.below hb11e (Nat.le_refl _)
  have y4_11 := y4_10.below hb11e (Nat.le_refl _)
  have y6_11 := y6_10.below hb11e (Nat.le_refl _)
  have y8_11 := y8_10.below hb11e (Nat.le_refl _)
  have y11_11 := hy11
  try dsimp only
  refine hK.out _ _ ?h13 (fun hHeld => ?_)
  case h13 => first | exact ⟨‹_›, ‹_›, ‹_›, ‹_›⟩ | assumption | (simp [*, go_sem])
  clear hK K
  try simp only [Act.put, List.setIfInBounds_toArray, List.set_cons_zero, List.set_cons_succ]
  refine wpAnyH_ready (rs := [3]) (by kernel_rfl) (by simp) ?_
  refine AllReadyH.cons (by simp only [List.getElem?_toArray, List.getElem?_cons_succ, List.getElem?_cons_zero]; exact rfl) (fun K hK => ?_) AllReadyH.nil
  go_simp
  refine (eqGraph_any _ _ _ _ _ y6_11 y11_11).mono ?_
  rintro e w12 ⟨rfl, hb12⟩
  have q12 := q11.trans (hb12.mono q11.size)
  have b0_12 : w12.cell? ⟨w.heap.size, 0, none⟩ = some (.slice a0 g0.length c0) := (hb12.cell (p := ⟨w.heap.size, 0, none⟩) (cell_lt b0_11)).trans b0_11
  have b1_12 : w12.cell? ⟨w.heap.size + 1, 0, none⟩ = some (.slice a1 rr1.length c1) := (hb12.cell (p := ⟨w.heap.size + 1, 0, none⟩) (cell_lt b1_11)).trans b1_11
  have l7_12 : w12.cell? ⟨w6.heap.size, 0, none⟩ = some (.slice xa7 g0.length xc7) := (hb12.cell (p := ⟨w6.heap.size, 0, none⟩) (cell_lt l7_11)).trans l7_11
  have l9_12 : w12.cell? ⟨w8.heap.size, 0, none⟩ = some (.slice xa9 rr1.length xc9) := (hb12.cell (p := ⟨w8.heap.size, 0, none⟩) (cell_lt l9_11)).trans l9_11
  have y3_12 := y3_11.below hb12 (Nat.le_refl _)
  have y4_12 := y4_11.below hb12 (Nat.le_refl _)
  have y6_12 := y6_11.below hb12 (Nat.le_refl _)
  have y8_12 := y8_11.below hb12 (Nat.le_refl _)
  have y11_12 := y11_11.below hb12 (Nat.le_refl _)
  try dsimp only
  refine hK.out _ _ ?h15 (fun hHeld => ?_)
  case h15 => first | exact ⟨‹_›, ‹_›, ‹_›, ‹_›⟩ | assumption | (simp [*, go_sem])
  clear hK K
  try simp only [Act.put, List.setIfInBounds_toArray, List.set_cons_zero, List.set_cons_succ]
  refine wpAnyH_take (i := 4) (v := ?v16) (by simp only [List.getElem?_toArray, List.getElem?_cons_succ, List.getElem?_cons_zero]; exact rfl) (by kernel_rfl) (by kernel_rfl) (by kernel_rfl) (by intro _ _ _ h; exact h) (Or.inl ⟨by rfl, ?y16⟩) hHeld ?_
  case y16 => (intro w hSw; (try dsimp only at hSw); go_simp; try (with_reducible rfl))
  try simp only [Act.put, List.setIfInBounds_toArray, List.set_cons_zero, List.set_cons_succ]
  refine wpAnyH_done (by kernel_rfl) ?_ _
  go_wp2
  have _tt : True := trivial
  refine wp_region_held_drew (S := (fun w' => w'.cell? ⟨w.heap.size, 0, none⟩ = some (.slice a0 g0.length c0) ∧ w'.cell? ⟨w.heap.size + 1, 0, none⟩ = some (.slice a1 rr1.length c1) ∧ w'.cell? ⟨w6.heap.size, 0, none⟩ = some (.slice xa7 g0.length xc7) ∧ w'.cell? ⟨w8.heap.size, 0, none⟩ = some (.slice xa9 rr1.length xc9))) (by kernel_rfl) ?_ (fun hHeld => ?_)
  · first | exact ⟨‹_›, ‹_›, ‹_›, ‹_›⟩ | assumption | (simp [*, go_sem])
  refine wpAnyH_take (i := 0) (v := ?v17) (by simp only [List.getElem?_toArray, List.getElem?_cons_zero]; exact rfl) (by kernel_rfl) (by kernel_rfl) (by kernel_rfl) (by intro _ _ _ h; exact h) (Or.inl ⟨by rfl, ?y17⟩) hHeld ?_
  case y17 => (intro w hSw; (try dsimp only at hSw); go_simp; try (with_reducible rfl))
  try simp only [Act.put, List.setIfInBounds_toArray, List.set_cons_zero, List.set_cons_succ]
  refine wpAnyH_take (i := 1) (v := ?v18) (by simp only [List.getElem?_toArray, List.getElem?_cons_succ, List.getElem?_cons_zero]; exact rfl) (by kernel_rfl) (by kernel_rfl) (by kernel_rfl) (by intro _ _ _ h; exact h) (Or.inl ⟨by rfl, ?y18⟩) hHeld ?_
  case y18 => (intro w hSw; (try dsimp only at hSw); go_simp; try (with_reducible rfl))
  try simp only [Act.put, List.setIfInBounds_toArray, List.set_cons_zero, List.set_cons_succ]
  refine wpAnyH_ready (rs := [2]) (by kernel_rfl) (by simp) ?_
  refine AllReadyH.cons (by simp only [List.getElem?_toArray, List.getElem?_cons_succ, List.getElem?_cons_zero]; exact rfl) (fun K hK => ?_) AllReadyH.nil
  go_simp
  have q12d := q12.drew
  refine (toAround_any _ _ _ (hv1.below q12d (Nat.le_refl _)) hsm1).mono ?_
  rintro e w13 ⟨x13, rfl, hy13, hb13⟩
  have hb13e : Below w12.heap.size w12 w13 := ⟨hb13.os, hb13.tape, hb13.output, hb13.size, hb13.block⟩
  have q13 := q12.trans (hb13e.mono q12.size)
  have b0_13 : w13.cell? ⟨w.heap.size, 0, none⟩ = some (.slice a0 g0.length c0) := (hb13e.cell (p := ⟨w.heap.size, 0, none⟩) (cell_lt b0_12)).trans b0_12
  have b1_13 : w13.cell? ⟨w.heap.size + 1, 0, none⟩ = some (.slice a1 rr1.length c1) := (hb13e.cell (p := ⟨w.heap.size + 1, 0, none⟩) (cell_lt b1_12)).trans b1_12
  have l7_13 : w13.cell? ⟨w6.heap.size, 0, none⟩ = some (.slice xa7 g0.length xc7) := (hb13e.cell (p := ⟨w6.heap.size, 0, none⟩) (cell_lt l7_12)).trans l7_12
  have l9_13 : w13.cell? ⟨w8.heap.size, 0, none⟩ = some (.slice xa9 rr1.length xc9) := (hb13e.cell (p := ⟨w8.heap.size, 0, none⟩) (cell_lt l9_12)).trans l9_12
  have y3_13 := y3_12.below hb13e (Nat.le_refl _)
  have y4_13 := y4_12.below hb13e (Nat.le_refl _)
  have y6_13 := y6_12.below hb13e (Nat.le_refl _)
  have y8_13 := y8_12.below hb13e (Nat.le_refl _)
  have y11_13 := y11_12.below hb13e (Nat.le_refl _)
  have y13_13 := hy13
  try dsimp only
  refine hK.out _ _ ?h20 (fun hHeld => ?_)
  case h20 => first | exact ⟨‹_›, ‹_›, ‹_›, ‹_›⟩ | assumption | (simp [*, go_sem])
  clear hK K
  try simp only [Act.put, List.setIfInBounds_toArray, List.set_cons_zero, List.set_cons_succ]
  refine wpAnyH_ready (rs := [3]) (by kernel_rfl) (by simp) ?_
  refine AllReadyH.cons (by simp only [List.getElem?_toArray, List.getElem?_cons_succ, List.getElem?_cons_zero]; exact rfl) (fun K hK => ?_) AllReadyH.nil
  go_simp
  refine (eqAround_any _ _ _ _ _ y8_13 y13_13).mono ?_
  rintro e w14 ⟨rfl, hb14⟩
  have q14 := q13.trans (hb14.mono q13.size)
  have b0_14 : w14.cell? ⟨w.heap.size, 0, none⟩ = some (.slice a0 g0.length c0) := (hb14.cell (p := ⟨w.heap.size, 0, none⟩) (cell_lt b0_13)).trans b0_13
  have b1_14 : w14.cell? ⟨w.heap.size + 1, 0, none⟩ = some (.slice a1 rr1.length c1) := (hb14.cell (p := ⟨w.heap.size + 1, 0, none⟩) (cell_lt b1_13)).trans b1_13
  have l7_14 : w14.cell? ⟨w6.heap.size, 0, none⟩ = some (.slice xa7 g0.length xc7) := (hb14.cell (p := ⟨w6.heap.size, 0, none⟩) (cell_lt l7_13)).trans l7_13
  have l9_14 : w14.cell? ⟨w8.heap.size, 0, none⟩ = some (.slice xa9 rr1.length xc9) := (hb14.cell (p := ⟨w8.heap.size, 0, none⟩) (cell_lt l9_13)).trans l9_13
  have y3_14 := y3_13.below hb14 (Nat.le_refl _)
  have y4_14 := y4_13.below hb14 (Nat.le_refl _)
  have y6_14 := y6_13.below hb14 (Nat.le_refl _)
  have y8_14 := y8_13.below hb14 (Nat.le_refl _)
  have y11_14 := y11_13.below hb14 (Nat.le_refl _)
  have y13_14 := y13_13.below hb14 (Nat.le_refl _)
  try dsimp only
  refine hK.out _ _ ?h22 (fun hHeld => ?_)
  case h22 => first | exact ⟨‹_›, ‹_›, ‹_›, ‹_›⟩ | assumption | (simp [*, go_sem])
  clear hK K
  try simp only [Act.put, List.setIfInBounds_toArray, List.set_cons_zero, List.set_cons_succ]
  refine wpAnyH_take (i := 4) (v := ?v23) (by simp only [List.getElem?_toArray, List.getElem?_cons_succ, List.getElem?_cons_zero]; exact rfl) (by kernel_rfl) (by kernel_rfl) (by kernel_rfl) (by intro _ _ _ h; exact h) (Or.inl ⟨by rfl, ?y23⟩) hHeld ?_
  case y23 => (intro w hSw; (try dsimp only at hSw); go_simp; try (with_reducible rfl))
  try simp only [Act.put, List.setIfInBounds_toArray, List.set_cons_zero, List.set_cons_succ]
  refine wpAnyH_done (by kernel_rfl) ?_ _
  go_wp2
  go_ret
  exact ⟨rfl, q14⟩
end Go.Proofs.Ytbpjbjeglcphcaa
