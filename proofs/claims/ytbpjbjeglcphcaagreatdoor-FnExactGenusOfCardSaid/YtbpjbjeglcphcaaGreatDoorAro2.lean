/- AroundOk of the reference; the law. -/
import Derived.Test.YtbpjbjeglcphcaaGreatDoorAro
import Derived.Test.YtbpjbjeglcphcaaGreatDoorBoxAround
namespace Go.Proofs.YtbpjbjeglcphcaaGreatDoor
open Go.RowKit
set_option maxRecDepth 100000 in
set_option maxHeartbeats 8000000 in
theorem specAroundOk_any {S S' : Nat → Prop} {gv rv : Value} {g r : List (List Int)} {w : World} (hvg : SlR S w gv g) (hvr : SlR S' w rv r) :
    Calls Tryz.prog 21 #[.agg #[gv], .agg #[rv]] w fun e w' => e = .returned (.bool (aroundB g r)) ∧ Below w.heap.size w w' := by
  have hq0 : Below w.heap.size w ((w.alloc (.cells #[gv] 30)).alloc (.cells #[rv] 32)) := ((Below.refl _ _).alloc (Nat.le_refl _) _).alloc (by simp) _
  have hgo := specGraphOk_any _ _ _ (hvg.below hq0 (Nat.le_refl _))
  obtain ⟨ga, gb, goff, gcap, gf, rfl, hgl, hga, hgc⟩ := hvg
  obtain ⟨ra, rb, roff, rcap, rf, rfl, hrl, hra, hrc⟩ := hvr
  by_cases hg : GOk g
  case neg =>
    rw [gokB_false hg] at hgo
    have HE := Lib.hid (around_false (g := g) (r := r) fun h => hg h.gok)
    go_enter Tryz.func21, Tryz.ntmps21
    go_wp2_with fail
    refine hgo.mono ?_
    rintro e w1 ⟨rfl, hb1⟩
    go_wp2
    go_ret
    exact ⟨ret_bool HE.out.symm, hq0.trans (hb1.mono hq0.size)⟩
  rw [gokB_true hg] at hgo
  by_cases hne : r.length = g.length
  case neg =>
    have hn0 : ((r.length : Int) != (g.length : Int)) = true := by rw [bne_iff_ne]; omega
    have HE := Lib.hid (around_false (g := g) (r := r) fun h => hne h.len)
    clear hne
    go_enter Tryz.func21, Tryz.ntmps21
    go_wp2_with fail
    refine hgo.mono ?_
    rintro e w1 ⟨rfl, hb1⟩
    have c0 : w1.cell? ⟨w.heap.size, 0, none⟩ = some (.slice ga g.length gcap) := (hb1.cell (p := ⟨w.heap.size, 0, none⟩) (by simp <;> omega)).trans (by simp [go_sem])
    have c1 : w1.cell? ⟨w.heap.size + 1, 0, none⟩ = some (.slice ra r.length rcap) := (hb1.cell (p := ⟨w.heap.size + 1, 0, none⟩) (by simp)).trans (by simp [go_sem])
    go_wp2
    go_ret
    exact ⟨ret_bool HE.out.symm, hq0.trans (hb1.mono hq0.size)⟩
  have HN := Lib.hid hne
  have h16 := hg.hi
  have hlo := hg.lo
  rw [hne]
  rw [hne] at hrl hra hq0 hgo
  have hn0 : ((g.length : Int) != (g.length : Int)) = false := by simp
  clear hne
  go_enter Tryz.func21, Tryz.ntmps21
  go_wp2_with fail
  refine hgo.mono ?_
  rintro e w1 ⟨rfl, hb1⟩
  have hq1 := hq0.trans (hb1.mono hq0.size)
  have c0 : w1.cell? ⟨w.heap.size, 0, none⟩ = some (.slice ga g.length gcap) := (hb1.cell (p := ⟨w.heap.size, 0, none⟩) (by simp <;> omega)).trans (by simp [go_sem])
  have c1 : w1.cell? ⟨w.heap.size + 1, 0, none⟩ = some (.slice ra g.length rcap) := (hb1.cell (p := ⟨w.heap.size + 1, 0, none⟩) (by simp)).trans (by simp [go_sem])
  have HG := Lib.hid hg
  have HGC := Lib.hid hgc
  have HRC := Lib.hid hrc
  clear hgo hb1 hg hgc hrc
  go_wp2
  go_loopw [5, 6, 7] (fun iv _ _ wr => ∃ k : Nat, k ≤ g.length ∧ iv = .int .i64 k ∧ RowKit.Hid (AroTo g r k) ∧ Drawn w1 wr) (fun iv _ _ _ => g.length - (intOf iv).toNat)
  case atStart => exact ⟨0, by omega, rfl, Lib.hid (AroTo.zero g r), Drawn.refl _⟩
  case round =>
    obtain ⟨k, hk, rfl, HT, hqd⟩ := hrel
    obtain ⟨wi, rfl⟩ : ∃ wx : World, wx = wr := ⟨_, rfl⟩
    have c0' := (hqd.cell _).trans c0
    have c1' := (hqd.cell _).trans c1
    by_cases hlt : k < g.length
    case neg =>
      have HE := Lib.hid (around_true (g := g) (r := r) ⟨HG.out, HN.out, fun v hv => HT.out v (by omega)⟩)
      go_wp2
      go_ret
      exact ⟨ret_bool HE.out.symm, hq1.trans ((hqd.below w1.heap.size).mono hq1.size)⟩
    have hltr : k < r.length := by have := HN.out; omega
    have hlti : (k : Int) < g.length := by omega
    obtain ⟨k1, r1⟩ := HGC.out k hlt
    obtain ⟨k2, r2⟩ := HRC.out k hltr
    have eg : g.getD k [] = g[k] := by simp [hlt]
    have er : r.getD k [] = r[k] := by simp [hltr]
    have HEG := Lib.hid eg
    have HER := Lib.hid er
    have k1 := ((hq1.cell (cell_lt k1)).trans k1)
    have k1 := ((hqd.cell _).trans k1)
    have k2 := ((hq1.cell (cell_lt k2)).trans k2)
    have k2 := ((hqd.cell _).trans k2)
    have r1 := (r1.below hq1 (Nat.le_refl _)).drawn hqd
    have r2 := (r2.below hq1 (Nat.le_refl _)).drawn hqd
    obtain ⟨rfl, -⟩ := hga (by omega)
    obtain ⟨rfl, -⟩ := hra (by omega)
    clear eg er
    generalize hrow : g[k] = row at *
    generalize hturn : r[k] = t at *
    have HEG2 := Lib.hid (show g.getD k [] = row from HEG.out)
    have HER2 := Lib.hid (show r.getD k [] = t from HER.out)
    clear hrow hturn HEG HER
    obtain ⟨ta, tb, toff, tcap, hte, htl, hta, htc⟩ := r2
    obtain ⟨wa, wb, woff, wcap, hwe, hwl, hwa, hwc⟩ := r1
    rw [hte] at k2
    rw [hwe] at k1
    have r1 : SlI S wi .i64 (.slice wa row.length wcap) row := ⟨wa, wb, woff, wcap, rfl, hwl, hwa, hwc⟩
    have r2 : SlI S' wi .i64 (.slice ta t.length tcap) t := ⟨ta, tb, toff, tcap, rfl, htl, hta, htc⟩
    clear hte hwe
    by_cases hll : t.length = row.length
    case neg =>
      have hl0 : ((t.length : Int) != (row.length : Int)) = true := by rw [bne_iff_ne]; omega
      have HE := Lib.hid (around_false (g := g) (r := r) fun h => hll (by have := (h.turn k hlt).len; rw [HEG2.out, HER2.out] at this; exact this))
      clear hll
      go_wp2
      go_quiet (fail)
      go_wp2
      go_ret
      exact ⟨ret_bool HE.out.symm, hq1.trans (((hqd.drewN _).below w1.heap.size).mono hq1.size)⟩
    have HLL := Lib.hid hll
    have hl0 : ((t.length : Int) != (t.length : Int)) = false := by simp
    rw [← hll] at k1
    have htw : row.length = t.length := hll.symm
    rw [htw] at hwl hwa r1
    clear hll htw
    by_cases ht0 : 0 < t.length
    case neg =>
      have htn : t.length = 0 := by omega
      have HT2 := Lib.hid (HT.out.next (by rw [HEG2.out, HER2.out]; exact ⟨HLL.out, fun h => absurd h ht0, fun i hi => by omega⟩))
      have ht1 : decide ((0 : Int) < (t.length : Int)) = false := decide_eq_false (by omega)
      have ht2 : decide (0 < t.length) = false := decide_eq_false ht0
      generalize t.length = tl at *
      subst htn
      clear ht0
      go_wp2
      go_quiet (fail)
      go_wp2
      go_loopw [7] (fun iv wr => iv = .int .i64 0 ∧ Drawn w1 wr) (fun _ _ => 0)
      case atStart => exact ⟨rfl, hqd.drewN _⟩
      case round =>
        obtain ⟨rfl, hqd⟩ := hrel
        go_wp2
        go_roundw
        case rel => exact ⟨k + 1, by omega, by go_num, HT2, hqd⟩
        case measure => simp [intOf]; omega
    have hwn : 0 < row.length := by have := HLL.out; omega
    have et := htc 0 ht0
    have ew := hwc 0 hwn
    have e1' : t.getD 0 0 = t[0] := by simp [ht0]
    have e2' : row.getD 0 0 = row[0] := by simp [hwn]
    have HX1 := Lib.hid e1'
    have HX2 := Lib.hid e2'
    obtain ⟨rfl, -⟩ := hta ht0
    obtain ⟨rfl, -⟩ := hwa ht0
    have ht1 : decide ((0 : Int) < (t.length : Int)) = true := decide_eq_true (by omega)
    have ht2 : decide (0 < t.length) = true := decide_eq_true ht0
    have HT0 := Lib.hid ht0
    generalize t[0] = x at *
    generalize row[0] = y at *
    have et0 : wi.cell? ⟨tb, toff, none⟩ = some (.int .i64 x) := by simpa using et
    have ew0 : wi.cell? ⟨wb, woff, none⟩ = some (.int .i64 y) := by simpa using ew
    have ht3 : (0 : Int) < t.length := by omega
    have HTC := Lib.hid htc
    clear htc hwc hta hwa e1' e2' et ew
    cases hxy : (x != y)
    case true =>
      have HE := Lib.hid (around_false (g := g) (r := r) fun h => by
        have := (h.turn k hlt).first; rw [HEG2.out, HER2.out, HX1.out, HX2.out] at this
        have := this HT0.out
        subst this
        simp at hxy)
      go_wp2
      go_quiet (fail)
      go_wp2
      go_ret
      exact ⟨ret_bool HE.out.symm, hq1.trans (((hqd.drewN _).below w1.heap.size).mono hq1.size)⟩
    have HF := Lib.hid (show t.getD 0 0 = row.getD 0 0 by rw [HX1.out, HX2.out]; simpa using hxy)
    go_wp2
    go_quiet (fail)
    go_wp2
    go_loopw [7] (fun iv wr => ∃ i : Nat, i ≤ t.length ∧ iv = .int .i64 i ∧ RowKit.Hid (TurnTo row t i) ∧ Drawn wi wr) (fun iv _ => t.length - (intOf iv).toNat)
    case atStart => exact ⟨0, by omega, rfl, Lib.hid (fun _ h => absurd h (Nat.not_lt_zero _)), Drawn.drewN (Drawn.refl _) _⟩
    case round =>
      obtain ⟨i, hi, rfl, HU, hqj⟩ := hrel
      obtain ⟨wj, rfl⟩ : ∃ wx : World, wx = wr := ⟨_, rfl⟩
      by_cases hit : i < t.length
      case neg =>
        have HT2 := Lib.hid (HT.out.next (by rw [HEG2.out, HER2.out]; exact ⟨HLL.out, fun _ => HF.out, fun j hj => HU.out j (by omega)⟩))
        go_wp2
        go_roundw
        case rel => exact ⟨k + 1, by omega, by go_num, HT2, hqd.trans hqj⟩
        case measure => simp [intOf]; omega
      have hc := HTC.out i hit
      have hc := (hqj.cell _).trans hc
      have c0' := (hqj.cell _).trans c0'
      have k1 := (hqj.cell _).trans k1
      have hiti : (i : Int) < t.length := by omega
      have r1 := r1.drawn hqj
      have r2 := (r2.drawn hqj).take (m := i) (by omega)
      have ei : t.getD i 0 = t[i] := by simp [hit]
      have HEI := Lib.hid ei
      clear ei
      generalize t[i] = z at *
      have hh1 := fun n => l1Has_any _ _ z _ (r1.drewN n)
      have hh2 := fun n => l1Has_any _ _ z _ (r2.drewN n)
      by_cases hz1 : z ∈ row
      case neg =>
        have HE := Lib.hid (around_false (g := g) (r := r) fun h => by
          have := ((h.turn k hlt).all i (by rw [HER2.out]; exact hit)).1; rw [HEG2.out, HER2.out, HEI.out] at this; exact hz1 this)
        have hd1 := decide_eq_false hz1
        rw [hd1] at hh1
        clear hz1 hd1
        go_wp2
        go_quiet ((go_at_call 43; exact quiet_same (hh1 _)))
        go_wp2
        go_ret
        exact ⟨ret_bool HE.out.symm, hq1.trans ((((hqd.trans hqj).drewN _).below w1.heap.size).mono hq1.size)⟩
      have hd1 := decide_eq_true hz1
      rw [hd1] at hh1
      by_cases hz2 : z ∈ t.take i
      case pos =>
        have HE := Lib.hid (around_false (g := g) (r := r) fun h => by
          have := ((h.turn k hlt).all i (by rw [HER2.out]; exact hit)).2; rw [HER2.out, HEI.out] at this; exact this hz2)
        have hd2 := decide_eq_true hz2
        rw [hd2] at hh2
        clear hz1 hd1 hz2 hd2
        go_wp2
        go_quiet ((go_at_call 43; first | (with_reducible exact quiet_same (hh1 _)) | (with_reducible exact quiet_same (hh2 _)) | fail))
        go_wp2
        go_ret
        exact ⟨ret_bool HE.out.symm, hq1.trans ((((hqd.trans hqj).drewN _).below w1.heap.size).mono hq1.size)⟩
      have HU2 := Lib.hid (HU.out.next (by rw [HEI.out]; exact ⟨hz1, hz2⟩))
      have hd2 := decide_eq_false hz2
      rw [hd2] at hh2
      clear hz1 hd1 hz2 hd2
      go_wp2
      go_quiet ((go_at_call 43; first | (with_reducible exact quiet_same (hh1 _)) | (with_reducible exact quiet_same (hh2 _)) | fail))
      go_wp2
      go_roundw
      case rel => exact ⟨i + 1, by omega, by go_num, HU2, hqj.drewN _⟩
      case measure => simp [intOf]; omega
theorem small_rows {r : List (List Int)} (h : SmallR r 1048576) : ∀ x ∈ r, x.length ≤ 1048576 := fun x hx => by
  obtain ⟨i, hi, rfl⟩ := List.getElem_of_mem hx
  have := h.2 i hi hi
  omega
