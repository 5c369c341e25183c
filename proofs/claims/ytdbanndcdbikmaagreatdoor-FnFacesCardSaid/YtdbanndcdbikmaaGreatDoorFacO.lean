/- AroundOk and FacesOf: both sides, and the laws. -/
import Derived.Test.YtdbanndcdbikmaaGreatDoorDistM
import Derived.Test.YtdbanndcdbikmaaGreatDoorVals
import Derived.Test.YtdbanndcdbikmaaGreatDoorLoopL
import Derived.Test.YtdbanndcdbikmaaGreatDoorMark4
import Derived.Test.YtdbanndcdbikmaaGreatDoorFac
import Derived.Test.YtdbanndcdbikmaaGreatDoorFac2
namespace Go.Proofs.YtdbanndcdbikmaaGreatDoor
open Go.RowKit
def AroTo (g r : List (List Int)) (k : Nat) : Prop := ∀ v, v < k → TurnOk (g.getD v []) (r.getD v [])
theorem AroTo.zero (g r : List (List Int)) : AroTo g r 0 := fun _ h => absurd h (Nat.not_lt_zero _)
theorem AroTo.next {g r : List (List Int)} {k : Nat} (h : AroTo g r k) (hk : TurnOk (g.getD k []) (r.getD k [])) : AroTo g r (k + 1) := fun v hv => by
  by_cases e : v = k
  · rw [e]; exact hk
  · exact h v (by omega)
theorem rise_pw {row : List Int} {n : Int} (h : Rise row n) : row.Pairwise (· < ·) := by
  rw [List.pairwise_iff_getElem]
  intro i j hi hj hij
  exact (h j hj hj).2.2 i hij
theorem msort (t : List Int) : (t.mergeSort (fun x y => decide (x ≤ y))).Pairwise (· ≤ ·) ∧ (t.mergeSort (fun x y => decide (x ≤ y))).Perm t := by
  refine ⟨?_, List.mergeSort_perm _ _⟩
  have := List.pairwise_mergeSort (le := fun x y : Int => decide (x ≤ y)) (fun a b c h1 h2 => by simp at *; omega) (fun a b => by simp; omega) t
  exact this.imp fun h => of_decide_eq_true h
/-- Right so far. -/
def TurnTo (row t : List Int) (k : Nat) : Prop := ∀ i, i < k → t.getD i 0 ∈ row ∧ t.getD i 0 ∉ t.take i
theorem TurnTo.next {row t : List Int} {k : Nat} (h : TurnTo row t k) (hk : t.getD k 0 ∈ row ∧ t.getD k 0 ∉ t.take k) : TurnTo row t (k + 1) := fun v hv => by
  by_cases e : v = k
  · rw [e]; exact hk
  · exact h v (by omega)
set_option maxHeartbeats 2000000 in
theorem equal_any {S S' : Nat → Prop} {v u : Value} {xs ys : List Int} {w : World} (hv : SlI S w .i64 v xs) (hu : SlI S' w .i64 u ys) :
    Calls Tryz.prog 61 #[v, u] w fun e w' => e = .returned (.bool (decide (xs = ys))) ∧ Drawn w w' := by
  obtain ⟨a, b, off, cap, rfl, hl, ha, hc0⟩ := hv
  obtain ⟨a', b', off', cap', rfl, hl', ha', hc0'⟩ := hu
  by_cases hne : xs.length = ys.length
  case neg =>
    have hn0 : ((xs.length : Int) != (ys.length : Int)) = true := by rw [bne_iff_ne]; omega
    have HE := Lib.hid (show decide (xs = ys) = false from decide_eq_false fun e => hne (by rw [e]))
    go_enter Tryz.func61, Tryz.ntmps61
    go_wp2
    go_ret
    exact ⟨ret_bool HE.out.symm, Drawn.refl _⟩
  have hn0 : ((xs.length : Int) != (ys.length : Int)) = false := by rw [bne_eq_false_iff_eq]; omega
  have HN := Lib.hid hne
  clear hne
  go_enter Tryz.func61, Tryz.ntmps61
  go_wp2
  go_loopw [5, 13] (fun _ iv wr => ∃ k : Nat, k ≤ xs.length ∧ iv = .int .i64 k ∧ RowKit.Hid (xs.take k = ys.take k) ∧ Drawn w wr) (fun _ iv _ => xs.length - (intOf iv).toNat)
  case atStart => exact ⟨0, Nat.zero_le _, rfl, Lib.hid rfl, Drawn.refl _⟩
  case round =>
    obtain ⟨k, hk, rfl, HT, hq⟩ := hrel
    by_cases hlt : k < xs.length
    case neg =>
      have HE := Lib.hid (show decide (xs = ys) = true from decide_eq_true (by
        have h := HT.out
        rw [List.take_of_length_le (by omega), List.take_of_length_le (by have := HN.out; omega)] at h
        exact h))
      go_wp2
      go_ret
      exact ⟨ret_bool HE.out.symm, hq⟩
    have hlt2 : k < ys.length := by rw [← HN.out]; exact hlt
    have hlt3 : (k : Int) < ys.length := by omega
    have c1 := hc0.drawn hq k hlt
    have c2 := hc0'.drawn hq k hlt2
    obtain ⟨rfl, -⟩ := ha (by omega)
    obtain ⟨rfl, -⟩ := ha' (by omega)
    by_cases he : xs[k] = ys[k]
    · have hb : (xs[k] != ys[k]) = false := by rw [bne_eq_false_iff_eq]; exact he
      have HT2 := Lib.hid (show xs.take (k + 1) = ys.take (k + 1) by rw [List.take_succ_eq_append_getElem hlt, List.take_succ_eq_append_getElem hlt2, HT.out, he])
      clear he
      go_wp2
      go_quiet (fail)
      go_wp2
      go_roundw
      case rel => exact ⟨k + 1, by omega, by go_num, HT2, hq.drewN _⟩
      case measure => simp [intOf]; omega
    · have hb : (xs[k] != ys[k]) = true := by rw [bne_iff_ne]; exact he
      have HE := Lib.hid (show decide (xs = ys) = false from decide_eq_false fun e => he (by subst e; rfl))
      clear he
      go_wp2
      go_quiet (fail)
      go_wp2
      go_ret
      exact ⟨ret_bool HE.out.symm, hq.drewN _⟩
set_option maxRecDepth 100000 in
set_option maxHeartbeats 8000000 in
theorem implAroundOk_any {S S' : Nat → Prop} {gv rv : Value} {g r : List (List Int)} {w : World} (hvg : SlR S w gv g) (hvr : SlR S' w rv r) (hr20 : ∀ x ∈ r, x.length ≤ 1048576) :
    Calls Tryz.prog 27 #[.agg #[gv], .agg #[rv]] w fun e w' => e = .returned (.bool (aroundB g r)) ∧ Below w.heap.size w w' := by
  have hq0 : Below w.heap.size w ((w.alloc (.cells #[gv] 26)).alloc (.cells #[rv] 28)) := ((Below.refl _ _).alloc (Nat.le_refl _) _).alloc (by simp) _
  have hgo := implGraphOk_any _ _ _ (hvg.below hq0 (Nat.le_refl _))
  obtain ⟨ga, gb, goff, gcap, gf, rfl, hgl, hga, hgc⟩ := hvg
  obtain ⟨ra, rb, roff, rcap, rf, rfl, hrl, hra, hrc⟩ := hvr
  by_cases hg : GOk g
  case neg =>
    rw [gokB_false hg] at hgo
    have HE := Lib.hid (around_false (g := g) (r := r) fun h => hg h.gok)
    go_enter Tryz.func27, Tryz.ntmps27
    go_wp2_with fail
    refine hgo.mono ?_
    rintro e w1 ⟨rfl, hb1⟩
    go_wp2
    go_ret
    exact ⟨ret_bool HE.out.symm, hq0.trans (hb1.mono hq0.size)⟩
  rw [gokB_true hg] at hgo
  by_cases hne : r.length = g.length
  case neg =>
    have hn0 : ((r.length : Int) != (g.length : Int)) = true := by rw [bne_iff_ne]; omega
    have HE := Lib.hid (around_false (g := g) (r := r) fun h => hne h.len)
    clear hne
    go_enter Tryz.func27, Tryz.ntmps27
    go_wp2_with fail
    refine hgo.mono ?_
    rintro e w1 ⟨rfl, hb1⟩
    have c0 : w1.cell? ⟨w.heap.size, 0, none⟩ = some (.slice ga g.length gcap) := (hb1.cell (p := ⟨w.heap.size, 0, none⟩) (by simp <;> omega)).trans (by simp [go_sem])
    have c1 : w1.cell? ⟨w.heap.size + 1, 0, none⟩ = some (.slice ra r.length rcap) := (hb1.cell (p := ⟨w.heap.size + 1, 0, none⟩) (by simp)).trans (by simp [go_sem])
    go_wp2
    go_ret
    exact ⟨ret_bool HE.out.symm, hq0.trans (hb1.mono hq0.size)⟩
  have HN := Lib.hid hne
  have hrise := hg.rise
  have h16 := hg.hi
  have hlo := hg.lo
  rw [hne]
  rw [hne] at hrl hra hq0 hgo
  have hn0 : ((g.length : Int) != (g.length : Int)) = false := by simp
  clear hne
  go_enter Tryz.func27, Tryz.ntmps27
  go_wp2_with fail
  refine hgo.mono ?_
  rintro e w1 ⟨rfl, hb1⟩
  have hq1 := hq0.trans (hb1.mono hq0.size)
  have c0 : w1.cell? ⟨w.heap.size, 0, none⟩ = some (.slice ga g.length gcap) := (hb1.cell (p := ⟨w.heap.size, 0, none⟩) (by simp <;> omega)).trans (by simp [go_sem])
  have c1 : w1.cell? ⟨w.heap.size + 1, 0, none⟩ = some (.slice ra g.length rcap) := (hb1.cell (p := ⟨w.heap.size + 1, 0, none⟩) (by simp)).trans (by simp [go_sem])
  have HG := Lib.hid hg
  have HRS := Lib.hid hrise
  have HGC := Lib.hid hgc
  have HRC := Lib.hid hrc
  have HR20 := Lib.hid hr20
  clear hgo hb1 hg hrise hgc hrc hr20
  go_wp2
  go_loopw [5, 6, 22] (fun _ _ iv wr => ∃ k : Nat, k ≤ g.length ∧ iv = .int .i64 k ∧ RowKit.Hid (AroTo g r k) ∧ Below w1.heap.size w1 wr) (fun _ _ iv _ => g.length - (intOf iv).toNat)
  case atStart => exact ⟨0, by omega, rfl, Lib.hid (AroTo.zero g r), Below.refl _ _⟩
  case round =>
    obtain ⟨k, hk, rfl, HT, hqi⟩ := hrel
    obtain ⟨wi, rfl⟩ : ∃ wx : World, wx = wr := ⟨_, rfl⟩
    by_cases hlt : k < g.length
    case neg =>
      have HE := Lib.hid (around_true (g := g) (r := r) ⟨HG.out, HN.out, fun v hv => HT.out v (by omega)⟩)
      go_wp2
      go_ret
      exact ⟨ret_bool HE.out.symm, hq1.trans (hqi.mono hq1.size)⟩
    have hltr : k < r.length := by have := HN.out; omega
    have hlti : (k : Int) < g.length := by omega
    obtain ⟨k1, r1⟩ := HGC.out k hlt
    obtain ⟨k2, r2⟩ := HRC.out k hltr
    have hx20 := HR20.out _ (List.getElem_mem hltr)
    have htk := turn_iff (rise_pw (HRS.out k hlt)) (msort r[k]).1 (msort r[k]).2
    have eg : g.getD k [] = g[k] := by simp [hlt]
    have er : r.getD k [] = r[k] := by simp [hltr]
    have HEG := Lib.hid eg
    have HER := Lib.hid er
    have k1 := ((hq1.cell (cell_lt k1)).trans k1)
    have k1 := ((hqi.cell (cell_lt k1)).trans k1)
    have k2 := ((hq1.cell (cell_lt k2)).trans k2)
    have k2 := ((hqi.cell (cell_lt k2)).trans k2)
    have r1 := (r1.below hq1 (Nat.le_refl _)).below hqi (Nat.le_refl _)
    have r2 := (r2.below hq1 (Nat.le_refl _)).below hqi (Nat.le_refl _)
    have c0' := (hqi.cell (cell_lt c0)).trans c0
    obtain ⟨rfl, -⟩ := hga (by omega)
    obtain ⟨rfl, -⟩ := hra (by omega)
    have HTI := Lib.hid htk
    clear htk eg er
    generalize hrow : g[k] = row at *
    generalize hturn : r[k] = t at *
    have HEG2 := Lib.hid (show g.getD k [] = row from HEG.out)
    have HER2 := Lib.hid (show r.getD k [] = t from HER.out)
    clear hrow hturn HEG HER
    obtain ⟨ta, tb, toff, tcap, hte, htl, hta, htc⟩ := r2
    obtain ⟨wa, wb, woff, wcap, hwe, hwl, hwa, hwc⟩ := r1
    rw [hte] at k2
    rw [hwe] at k1
    have r1 : SlI S wi .i64 (.slice wa row.length wcap) row := ⟨wa, wb, woff, wcap, rfl, hwl, hwa, hwc⟩
    have r2 : SlI S' wi .i64 (.slice ta t.length tcap) t := ⟨ta, tb, toff, tcap, rfl, htl, hta, htc⟩
    clear hte hwe
    by_cases hsr : t.mergeSort (fun x y => decide (x ≤ y)) = row
    case neg =>
      have HE := Lib.hid (around_false (g := g) (r := r) fun h => hsr (by have := h.turn k hlt; rw [HEG2.out, HER2.out] at this; exact (HTI.out.1 this).1))
      have HSR := Lib.hid (decide_eq_false hsr)
      clear hsr
      go_wp2
      refine wp_region_held_drew (S := (fun w' => w'.cell? ⟨w.heap.size, 0, none⟩ = some (.slice (some ⟨gb, goff, none⟩) g.length gcap) ∧ w'.cell? ⟨gb, goff + k, none⟩ = some (.slice wa row.length wcap))) (by kernel_rfl) ?_ (fun hHeld => ?_)
      · first | exact ⟨‹_›, ‹_›⟩ | assumption | (simp [*, go_sem])
      have hqd := (Below.refl wi.heap.size wi).drew
      generalize wi.drew = wd at hqd hHeld ⊢
      have hHeld2 := hHeld
      obtain ⟨e0, e1⟩ := hHeld2
      refine wpAnyH_take (i := 0) (v := ?v1) (by simp only [List.getElem?_toArray, List.getElem?_cons_zero]; exact rfl) (by kernel_rfl) (by kernel_rfl) (by kernel_rfl) (by intro _ _ _ h; exact h) (Or.inl ⟨by rfl, ?y1⟩) hHeld ?_
      case y1 => (intro w hSw; (try dsimp only at hSw); go_simp; try (with_reducible rfl))
      try simp only [Act.put, List.setIfInBounds_toArray, List.set_cons_zero, List.set_cons_succ]
      refine wpAnyH_take (i := 3) (v := ?v2) (by simp only [List.getElem?_toArray, List.getElem?_cons_succ, List.getElem?_cons_zero]; exact rfl) (by kernel_rfl) (by kernel_rfl) (by kernel_rfl) (by intro _ _ _ h; exact h) (Or.inl ⟨by rfl, ?y2⟩) hHeld ?_
      case y2 => (intro w hSw; (try dsimp only at hSw); go_simp; try (with_reducible rfl))
      try simp only [Act.put, List.setIfInBounds_toArray, List.set_cons_zero, List.set_cons_succ]
      refine wpAnyH_take (i := 4) (v := ?v3) (by simp only [List.getElem?_toArray, List.getElem?_cons_succ, List.getElem?_cons_zero]; exact rfl) (by kernel_rfl) (by kernel_rfl) (by kernel_rfl) (by intro _ _ _ h; exact h) (Or.inl ⟨by rfl, ?y3⟩) hHeld ?_
      case y3 => (intro w hSw; (try dsimp only at hSw); go_simp; try (with_reducible rfl))
      try simp only [Act.put, List.setIfInBounds_toArray, List.set_cons_zero, List.set_cons_succ]
      refine wpAnyH_take (i := 5) (v := ?v4) (by simp only [List.getElem?_toArray, List.getElem?_cons_succ, List.getElem?_cons_zero]; exact rfl) (by kernel_rfl) (by kernel_rfl) (by kernel_rfl) (by intro _ _ _ h; exact h) (Or.inl ⟨by rfl, ?y4⟩) hHeld ?_
      case y4 => (intro w hSw; (try dsimp only at hSw); go_simp; try (with_reducible rfl))
      try simp only [Act.put, List.setIfInBounds_toArray, List.set_cons_zero, List.set_cons_succ]
      refine wpAnyH_take (i := 6) (v := ?v5) (by simp only [List.getElem?_toArray, List.getElem?_cons_succ, List.getElem?_cons_zero]; exact rfl) (by kernel_rfl) (by kernel_rfl) (by kernel_rfl) (by intro _ _ _ h; exact h) (Or.inl ⟨by rfl, ?y5⟩) hHeld ?_
      case y5 => (intro w hSw; (try dsimp only at hSw); go_simp; try (with_reducible rfl))
      try simp only [Act.put, List.setIfInBounds_toArray, List.set_cons_zero, List.set_cons_succ]
      refine wpAnyH_take (i := 7) (v := ?v6) (by simp only [List.getElem?_toArray, List.getElem?_cons_succ, List.getElem?_cons_zero]; exact rfl) (by kernel_rfl) (by kernel_rfl) (by kernel_rfl) (by intro _ _ _ h; exact h) (Or.inl ⟨by rfl, ?y6⟩) hHeld ?_
      case y6 => (intro w hSw; (try dsimp only at hSw); go_simp; try (with_reducible rfl))
      try simp only [Act.put, List.setIfInBounds_toArray, List.set_cons_zero, List.set_cons_succ]
      refine wpAnyH_ready (rs := [1]) (by kernel_rfl) (by simp) ?_
      refine AllReadyH.cons (by simp only [List.getElem?_toArray, List.getElem?_cons_succ, List.getElem?_cons_zero]; exact rfl) (fun K hK => ?_) AllReadyH.nil
      go_simp
      refine (values_any _ _ _ _).mono ?_
      rintro e wn ⟨rfl, hwn⟩
      have hbn : Below wd.heap.size wd wn := by rw [hwn]; exact (Below.refl _ _).alloc (Nat.le_refl _) _
      have cV : wn.cell? ⟨wd.heap.size, 0, none⟩ = some (.slice ta t.length tcap) := by rw [hwn]; simp [go_sem]
      clear hwn
      have hqd := hqd.trans (hbn.mono hqd.size)
      have e0 := (hbn.cell (cell_lt e0)).trans e0
      have e1 := (hbn.cell (cell_lt e1)).trans e1
      generalize wd.heap.size = vb at *
      clear hbn
      have hso := sortedOf_any hx20 (r2.below hqd (Nat.le_refl _)) cV
      obtain ⟨wd, rfl⟩ : ∃ wx : World, wx = wn := ⟨_, rfl⟩
      try dsimp only
      refine hK.out _ _ ?h8 (fun hHeld => ?_)
      case h8 => first | exact ⟨‹_›, ‹_›⟩ | assumption | (simp [*, go_sem])
      clear hK K
      try simp only [Act.put, List.setIfInBounds_toArray, List.set_cons_zero, List.set_cons_succ]
      refine wpAnyH_ready (rs := [2]) (by kernel_rfl) (by simp) ?_
      refine AllReadyH.cons (by simp only [List.getElem?_toArray, List.getElem?_cons_succ, List.getElem?_cons_zero]; exact rfl) (fun K hK => ?_) AllReadyH.nil
      go_simp
      refine hso.mono ?_
      rintro e wn ⟨us, rfl, hus, hbn⟩
      clear hso cV
      have hqd := hqd.trans (hbn.mono hqd.size)
      have e0 := (hbn.cell (cell_lt e0)).trans e0
      have e1 := (hbn.cell (cell_lt e1)).trans e1
      have hui := Own.ints (xs := t.mergeSort (fun x y => decide (x ≤ y))) hus (by omega)
      have heq := equal_any hui (r1.below hqd (Nat.le_refl _))
      rw [HSR.out] at heq
      obtain ⟨ua, uc, rfl⟩ := hus.isSlice
      clear hus hui hbn
      obtain ⟨wd, rfl⟩ : ∃ wx : World, wx = wn := ⟨_, rfl⟩
      try dsimp only
      refine hK.out _ _ ?h10 (fun hHeld => ?_)
      case h10 => first | exact ⟨‹_›, ‹_›⟩ | assumption | (simp [*, go_sem])
      clear hK K
      try simp only [Act.put, List.setIfInBounds_toArray, List.set_cons_zero, List.set_cons_succ]
      refine wpAnyH_ready (rs := [8]) (by kernel_rfl) (by simp) ?_
      refine AllReadyH.cons (by simp only [List.getElem?_toArray, List.getElem?_cons_succ, List.getElem?_cons_zero]; exact rfl) (fun K hK => ?_) AllReadyH.nil
      go_simp
      refine heq.mono ?_
      rintro e wn ⟨rfl, hdn⟩
      clear heq
      have hqd := hqd.trans ((hdn.below wd.heap.size).mono hqd.size)
      have e0 := (hdn.cell _).trans e0
      have e1 := (hdn.cell _).trans e1
      clear hdn
      obtain ⟨wd, rfl⟩ : ∃ wx : World, wx = wn := ⟨_, rfl⟩
      try dsimp only
      refine hK.out _ _ ?h12 (fun hHeld => ?_)
      case h12 => first | exact ⟨‹_›, ‹_›⟩ | assumption | (simp [*, go_sem])
      clear hK K
      try simp only [Act.put, List.setIfInBounds_toArray, List.set_cons_zero, List.set_cons_succ]
      refine wpAnyH_take (i := 9) (v := ?v13) (by simp only [List.getElem?_toArray, List.getElem?_cons_succ, List.getElem?_cons_zero]; exact rfl) (by kernel_rfl) (by kernel_rfl) (by kernel_rfl) (by intro _ _ _ h; exact h) (Or.inl ⟨by rfl, ?y13⟩) hHeld ?_
      case y13 => (intro w hSw; (try dsimp only at hSw); go_simp; try (with_reducible rfl))
      try simp only [Act.put, List.setIfInBounds_toArray, List.set_cons_zero, List.set_cons_succ]
      refine wpAnyH_take (i := 10) (v := ?v14) (by simp only [List.getElem?_toArray, List.getElem?_cons_succ, List.getElem?_cons_zero]; exact rfl) (by kernel_rfl) (by kernel_rfl) (by kernel_rfl) (by intro _ _ _ h; exact h) (Or.inl ⟨by rfl, ?y14⟩) hHeld ?_
      case y14 => (intro w hSw; (try dsimp only at hSw); go_simp; try (with_reducible rfl))
      try simp only [Act.put, List.setIfInBounds_toArray, List.set_cons_zero, List.set_cons_succ]
      refine wpAnyH_take (i := 11) (by simp only [List.getElem?_toArray, List.getElem?_cons_succ, List.getElem?_cons_zero]; exact rfl) (by kernel_rfl) (by kernel_rfl) (by kernel_rfl) (by intro _ _ _ h; exact h) (Or.inr ⟨by rfl, rfl⟩) hHeld ?_
      try simp only [Act.put, List.setIfInBounds_toArray, List.set_cons_zero, List.set_cons_succ]
      refine wpAnyH_take (i := 12) (by simp only [List.getElem?_toArray, List.getElem?_cons_succ, List.getElem?_cons_zero]; exact rfl) (by kernel_rfl) (by kernel_rfl) (by kernel_rfl) (by intro _ _ _ h; exact h) (Or.inr ⟨by rfl, rfl⟩) hHeld ?_
      try simp only [Act.put, List.setIfInBounds_toArray, List.set_cons_zero, List.set_cons_succ]
      refine wpAnyH_take (i := 13) (by simp only [List.getElem?_toArray, List.getElem?_cons_succ, List.getElem?_cons_zero]; exact rfl) (by kernel_rfl) (by kernel_rfl) (by kernel_rfl) (by intro _ _ _ h; exact h) (Or.inr ⟨by rfl, rfl⟩) hHeld ?_
      try simp only [Act.put, List.setIfInBounds_toArray, List.set_cons_zero, List.set_cons_succ]
      refine wpAnyH_take (i := 14) (by simp only [List.getElem?_toArray, List.getElem?_cons_succ, List.getElem?_cons_zero]; exact rfl) (by kernel_rfl) (by kernel_rfl) (by kernel_rfl) (by intro _ _ _ h; exact h) (Or.inr ⟨by rfl, rfl⟩) hHeld ?_
      try simp only [Act.put, List.setIfInBounds_toArray, List.set_cons_zero, List.set_cons_succ]
      refine wpAnyH_take (i := 15) (by simp only [List.getElem?_toArray, List.getElem?_cons_succ, List.getElem?_cons_zero]; exact rfl) (by kernel_rfl) (by kernel_rfl) (by kernel_rfl) (by intro _ _ _ h; exact h) (Or.inr ⟨by rfl, rfl⟩) hHeld ?_
      try simp only [Act.put, List.setIfInBounds_toArray, List.set_cons_zero, List.set_cons_succ]
      refine wpAnyH_take (i := 16) (by simp only [List.getElem?_toArray, List.getElem?_cons_succ, List.getElem?_cons_zero]; exact rfl) (by kernel_rfl) (by kernel_rfl) (by kernel_rfl) (by intro _ _ _ h; exact h) (Or.inr ⟨by rfl, rfl⟩) hHeld ?_
      try simp only [Act.put, List.setIfInBounds_toArray, List.set_cons_zero, List.set_cons_succ]
      refine wpAnyH_take (i := 17) (by simp only [List.getElem?_toArray, List.getElem?_cons_succ, List.getElem?_cons_zero]; exact rfl) (by kernel_rfl) (by kernel_rfl) (by kernel_rfl) (by intro _ _ _ h; exact h) (Or.inr ⟨by rfl, rfl⟩) hHeld ?_
      try simp only [Act.put, List.setIfInBounds_toArray, List.set_cons_zero, List.set_cons_succ]
      refine wpAnyH_take (i := 18) (by simp only [List.getElem?_toArray, List.getElem?_cons_succ, List.getElem?_cons_zero]; exact rfl) (by kernel_rfl) (by kernel_rfl) (by kernel_rfl) (by intro _ _ _ h; exact h) (Or.inr ⟨by rfl, rfl⟩) hHeld ?_
      try simp only [Act.put, List.setIfInBounds_toArray, List.set_cons_zero, List.set_cons_succ]
      refine wpAnyH_take (i := 19) (by simp only [List.getElem?_toArray, List.getElem?_cons_succ, List.getElem?_cons_zero]; exact rfl) (by kernel_rfl) (by kernel_rfl) (by kernel_rfl) (by intro _ _ _ h; exact h) (Or.inr ⟨by rfl, rfl⟩) hHeld ?_
      try simp only [Act.put, List.setIfInBounds_toArray, List.set_cons_zero, List.set_cons_succ]
      refine wpAnyH_take (i := 20) (by simp only [List.getElem?_toArray, List.getElem?_cons_succ, List.getElem?_cons_zero]; exact rfl) (by kernel_rfl) (by kernel_rfl) (by kernel_rfl) (by intro _ _ _ h; exact h) (Or.inr ⟨by rfl, rfl⟩) hHeld ?_
      try simp only [Act.put, List.setIfInBounds_toArray, List.set_cons_zero, List.set_cons_succ]
      refine wpAnyH_take (i := 21) (by simp only [List.getElem?_toArray, List.getElem?_cons_succ, List.getElem?_cons_zero]; exact rfl) (by kernel_rfl) (by kernel_rfl) (by kernel_rfl) (by intro _ _ _ h; exact h) (Or.inr ⟨by rfl, rfl⟩) hHeld ?_
      try simp only [Act.put, List.setIfInBounds_toArray, List.set_cons_zero, List.set_cons_succ]
      refine wpAnyH_take (i := 22) (by simp only [List.getElem?_toArray, List.getElem?_cons_succ, List.getElem?_cons_zero]; exact rfl) (by kernel_rfl) (by kernel_rfl) (by kernel_rfl) (by intro _ _ _ h; exact h) (Or.inr ⟨by rfl, rfl⟩) hHeld ?_
      try simp only [Act.put, List.setIfInBounds_toArray, List.set_cons_zero, List.set_cons_succ]
      refine wpAnyH_take (i := 23) (by simp only [List.getElem?_toArray, List.getElem?_cons_succ, List.getElem?_cons_zero]; exact rfl) (by kernel_rfl) (by kernel_rfl) (by kernel_rfl) (by intro _ _ _ h; exact h) (Or.inr ⟨by rfl, rfl⟩) hHeld ?_
      try simp only [Act.put, List.setIfInBounds_toArray, List.set_cons_zero, List.set_cons_succ]
      refine wpAnyH_take (i := 24) (by simp only [List.getElem?_toArray, List.getElem?_cons_succ, List.getElem?_cons_zero]; exact rfl) (by kernel_rfl) (by kernel_rfl) (by kernel_rfl) (by intro _ _ _ h; exact h) (Or.inr ⟨by rfl, rfl⟩) hHeld ?_
      try simp only [Act.put, List.setIfInBounds_toArray, List.set_cons_zero, List.set_cons_succ]
      refine wpAnyH_take (i := 25) (by simp only [List.getElem?_toArray, List.getElem?_cons_succ, List.getElem?_cons_zero]; exact rfl) (by kernel_rfl) (by kernel_rfl) (by kernel_rfl) (by intro _ _ _ h; exact h) (Or.inr ⟨by rfl, rfl⟩) hHeld ?_
      try simp only [Act.put, List.setIfInBounds_toArray, List.set_cons_zero, List.set_cons_succ]
      refine wpAnyH_take (i := 26) (by simp only [List.getElem?_toArray, List.getElem?_cons_succ, List.getElem?_cons_zero]; exact rfl) (by kernel_rfl) (by kernel_rfl) (by kernel_rfl) (by intro _ _ _ h; exact h) (Or.inr ⟨by rfl, rfl⟩) hHeld ?_
      try simp only [Act.put, List.setIfInBounds_toArray, List.set_cons_zero, List.set_cons_succ]
      refine wpAnyH_take (i := 27) (v := ?v31) (by simp only [List.getElem?_toArray, List.getElem?_cons_succ, List.getElem?_cons_zero]; exact rfl) (by kernel_rfl) (by kernel_rfl) (by kernel_rfl) (by intro _ _ _ h; exact h) (Or.inl ⟨by rfl, ?y31⟩) hHeld ?_
      case y31 => (intro w hSw; (try dsimp only at hSw); go_simp; try (with_reducible rfl))
      try simp only [Act.put, List.setIfInBounds_toArray, List.set_cons_zero, List.set_cons_succ]
      refine wpAnyH_done (by kernel_rfl) ?_ _
      go_wp2
      go_ret
      exact ⟨ret_bool HE.out.symm, hq1.trans ((hqi.trans (hqd.mono hqi.size)).mono hq1.size)⟩
    have HSR := Lib.hid (decide_eq_true hsr)
    have HSE := Lib.hid hsr
    clear hsr
    by_cases ht0 : 0 < t.length
    case neg =>
      have htn : t.length = 0 := by omega
      have HT2 := Lib.hid (HT.out.next (by rw [HEG2.out, HER2.out]; exact HTI.out.2 ⟨HSE.out, fun h => absurd h ht0⟩))
      have ht1 : decide ((0 : Int) < (t.length : Int)) = false := decide_eq_false (by omega)
      have ht2 : decide (0 < t.length) = false := decide_eq_false ht0
      clear ht0 htn
      go_wp2
      refine wp_region_held_drew (S := (fun w' => w'.cell? ⟨w.heap.size, 0, none⟩ = some (.slice (some ⟨gb, goff, none⟩) g.length gcap) ∧ w'.cell? ⟨gb, goff + k, none⟩ = some (.slice wa row.length wcap))) (by kernel_rfl) ?_ (fun hHeld => ?_)
      · first | exact ⟨‹_›, ‹_›⟩ | assumption | (simp [*, go_sem])
      have hqd := (Below.refl wi.heap.size wi).drew
      generalize wi.drew = wd at hqd hHeld ⊢
      have hHeld2 := hHeld
      obtain ⟨e0, e1⟩ := hHeld2
      refine wpAnyH_take (i := 0) (v := ?v32) (by simp only [List.getElem?_toArray, List.getElem?_cons_zero]; exact rfl) (by kernel_rfl) (by kernel_rfl) (by kernel_rfl) (by intro _ _ _ h; exact h) (Or.inl ⟨by rfl, ?y32⟩) hHeld ?_
      case y32 => (intro w hSw; (try dsimp only at hSw); go_simp; try (with_reducible rfl))
      try simp only [Act.put, List.setIfInBounds_toArray, List.set_cons_zero, List.set_cons_succ]
      refine wpAnyH_take (i := 3) (v := ?v33) (by simp only [List.getElem?_toArray, List.getElem?_cons_succ, List.getElem?_cons_zero]; exact rfl) (by kernel_rfl) (by kernel_rfl) (by kernel_rfl) (by intro _ _ _ h; exact h) (Or.inl ⟨by rfl, ?y33⟩) hHeld ?_
      case y33 => (intro w hSw; (try dsimp only at hSw); go_simp; try (with_reducible rfl))
      try simp only [Act.put, List.setIfInBounds_toArray, List.set_cons_zero, List.set_cons_succ]
      refine wpAnyH_take (i := 4) (v := ?v34) (by simp only [List.getElem?_toArray, List.getElem?_cons_succ, List.getElem?_cons_zero]; exact rfl) (by kernel_rfl) (by kernel_rfl) (by kernel_rfl) (by intro _ _ _ h; exact h) (Or.inl ⟨by rfl, ?y34⟩) hHeld ?_
      case y34 => (intro w hSw; (try dsimp only at hSw); go_simp; try (with_reducible rfl))
      try simp only [Act.put, List.setIfInBounds_toArray, List.set_cons_zero, List.set_cons_succ]
      refine wpAnyH_take (i := 5) (v := ?v35) (by simp only [List.getElem?_toArray, List.getElem?_cons_succ, List.getElem?_cons_zero]; exact rfl) (by kernel_rfl) (by kernel_rfl) (by kernel_rfl) (by intro _ _ _ h; exact h) (Or.inl ⟨by rfl, ?y35⟩) hHeld ?_
      case y35 => (intro w hSw; (try dsimp only at hSw); go_simp; try (with_reducible rfl))
      try simp only [Act.put, List.setIfInBounds_toArray, List.set_cons_zero, List.set_cons_succ]
      refine wpAnyH_take (i := 6) (v := ?v36) (by simp only [List.getElem?_toArray, List.getElem?_cons_succ, List.getElem?_cons_zero]; exact rfl) (by kernel_rfl) (by kernel_rfl) (by kernel_rfl) (by intro _ _ _ h; exact h) (Or.inl ⟨by rfl, ?y36⟩) hHeld ?_
      case y36 => (intro w hSw; (try dsimp only at hSw); go_simp; try (with_reducible rfl))
      try simp only [Act.put, List.setIfInBounds_toArray, List.set_cons_zero, List.set_cons_succ]
      refine wpAnyH_take (i := 7) (v := ?v37) (by simp only [List.getElem?_toArray, List.getElem?_cons_succ, List.getElem?_cons_zero]; exact rfl) (by kernel_rfl) (by kernel_rfl) (by kernel_rfl) (by intro _ _ _ h; exact h) (Or.inl ⟨by rfl, ?y37⟩) hHeld ?_
      case y37 => (intro w hSw; (try dsimp only at hSw); go_simp; try (with_reducible rfl))
      try simp only [Act.put, List.setIfInBounds_toArray, List.set_cons_zero, List.set_cons_succ]
      refine wpAnyH_ready (rs := [1]) (by kernel_rfl) (by simp) ?_
      refine AllReadyH.cons (by simp only [List.getElem?_toArray, List.getElem?_cons_succ, List.getElem?_cons_zero]; exact rfl) (fun K hK => ?_) AllReadyH.nil
      go_simp
      refine (values_any _ _ _ _).mono ?_
      rintro e wn ⟨rfl, hwn⟩
      have hbn : Below wd.heap.size wd wn := by rw [hwn]; exact (Below.refl _ _).alloc (Nat.le_refl _) _
      have cV : wn.cell? ⟨wd.heap.size, 0, none⟩ = some (.slice ta t.length tcap) := by rw [hwn]; simp [go_sem]
      clear hwn
      have hqd := hqd.trans (hbn.mono hqd.size)
      have e0 := (hbn.cell (cell_lt e0)).trans e0
      have e1 := (hbn.cell (cell_lt e1)).trans e1
      generalize wd.heap.size = vb at *
      clear hbn
      have hso := sortedOf_any hx20 (r2.below hqd (Nat.le_refl _)) cV
      obtain ⟨wd, rfl⟩ : ∃ wx : World, wx = wn := ⟨_, rfl⟩
      try dsimp only
      refine hK.out _ _ ?h39 (fun hHeld => ?_)
      case h39 => first | exact ⟨‹_›, ‹_›⟩ | assumption | (simp [*, go_sem])
      clear hK K
      try simp only [Act.put, List.setIfInBounds_toArray, List.set_cons_zero, List.set_cons_succ]
      refine wpAnyH_ready (rs := [2]) (by kernel_rfl) (by simp) ?_
      refine AllReadyH.cons (by simp only [List.getElem?_toArray, List.getElem?_cons_succ, List.getElem?_cons_zero]; exact rfl) (fun K hK => ?_) AllReadyH.nil
      go_simp
      refine hso.mono ?_
      rintro e wn ⟨us, rfl, hus, hbn⟩
      clear hso cV
      have hqd := hqd.trans (hbn.mono hqd.size)
      have e0 := (hbn.cell (cell_lt e0)).trans e0
      have e1 := (hbn.cell (cell_lt e1)).trans e1
      have hui := Own.ints (xs := t.mergeSort (fun x y => decide (x ≤ y))) hus (by omega)
      have heq := equal_any hui (r1.below hqd (Nat.le_refl _))
      rw [HSR.out] at heq
      obtain ⟨ua, uc, rfl⟩ := hus.isSlice
      clear hus hui hbn
      obtain ⟨wd, rfl⟩ : ∃ wx : World, wx = wn := ⟨_, rfl⟩
      try dsimp only
      refine hK.out _ _ ?h41 (fun hHeld => ?_)
      case h41 => first | exact ⟨‹_›, ‹_›⟩ | assumption | (simp [*, go_sem])
      clear hK K
      try simp only [Act.put, List.setIfInBounds_toArray, List.set_cons_zero, List.set_cons_succ]
      refine wpAnyH_ready (rs := [8]) (by kernel_rfl) (by simp) ?_
      refine AllReadyH.cons (by simp only [List.getElem?_toArray, List.getElem?_cons_succ, List.getElem?_cons_zero]; exact rfl) (fun K hK => ?_) AllReadyH.nil
      go_simp
      refine heq.mono ?_
      rintro e wn ⟨rfl, hdn⟩
      clear heq
      have hqd := hqd.trans ((hdn.below wd.heap.size).mono hqd.size)
      have e0 := (hdn.cell _).trans e0
      have e1 := (hdn.cell _).trans e1
      clear hdn
      obtain ⟨wd, rfl⟩ : ∃ wx : World, wx = wn := ⟨_, rfl⟩
      try dsimp only
      refine hK.out _ _ ?h43 (fun hHeld => ?_)
      case h43 => first | exact ⟨‹_›, ‹_›⟩ | assumption | (simp [*, go_sem])
      clear hK K
      try simp only [Act.put, List.setIfInBounds_toArray, List.set_cons_zero, List.set_cons_succ]
      refine wpAnyH_take (i := 9) (v := ?v44) (by simp only [List.getElem?_toArray, List.getElem?_cons_succ, List.getElem?_cons_zero]; exact rfl) (by kernel_rfl) (by kernel_rfl) (by kernel_rfl) (by intro _ _ _ h; exact h) (Or.inl ⟨by rfl, ?y44⟩) hHeld ?_
      case y44 => (intro w hSw; (try dsimp only at hSw); go_simp; try (with_reducible rfl))
      try simp only [Act.put, List.setIfInBounds_toArray, List.set_cons_zero, List.set_cons_succ]
      refine wpAnyH_take (i := 10) (v := ?v45) (by simp only [List.getElem?_toArray, List.getElem?_cons_succ, List.getElem?_cons_zero]; exact rfl) (by kernel_rfl) (by kernel_rfl) (by kernel_rfl) (by intro _ _ _ h; exact h) (Or.inl ⟨by rfl, ?y45⟩) hHeld ?_
      case y45 => (intro w hSw; (try dsimp only at hSw); go_simp; try (with_reducible rfl))
      try simp only [Act.put, List.setIfInBounds_toArray, List.set_cons_zero, List.set_cons_succ]
      refine wpAnyH_take (i := 11) (v := ?v46) (by simp only [List.getElem?_toArray, List.getElem?_cons_succ, List.getElem?_cons_zero]; exact rfl) (by kernel_rfl) (by kernel_rfl) (by kernel_rfl) (by intro _ _ _ h; exact h) (Or.inl ⟨by rfl, ?y46⟩) hHeld ?_
      case y46 => (intro w hSw; (try dsimp only at hSw); go_simp; try (with_reducible rfl))
      try simp only [Act.put, List.setIfInBounds_toArray, List.set_cons_zero, List.set_cons_succ]
      refine wpAnyH_take (i := 12) (v := ?v47) (by simp only [List.getElem?_toArray, List.getElem?_cons_succ, List.getElem?_cons_zero]; exact rfl) (by kernel_rfl) (by kernel_rfl) (by kernel_rfl) (by intro _ _ _ h; exact h) (Or.inl ⟨by rfl, ?y47⟩) hHeld ?_
      case y47 => (intro w hSw; (try dsimp only at hSw); go_simp; try (with_reducible rfl))
      try simp only [Act.put, List.setIfInBounds_toArray, List.set_cons_zero, List.set_cons_succ]
      refine wpAnyH_take (i := 13) (v := ?v48) (by simp only [List.getElem?_toArray, List.getElem?_cons_succ, List.getElem?_cons_zero]; exact rfl) (by kernel_rfl) (by kernel_rfl) (by kernel_rfl) (by intro _ _ _ h; exact h) (Or.inl ⟨by rfl, ?y48⟩) hHeld ?_
      case y48 => (intro w hSw; (try dsimp only at hSw); go_simp; try (with_reducible rfl))
      try simp only [Act.put, List.setIfInBounds_toArray, List.set_cons_zero, List.set_cons_succ]
      refine wpAnyH_take (i := 14) (v := ?v49) (by simp only [List.getElem?_toArray, List.getElem?_cons_succ, List.getElem?_cons_zero]; exact rfl) (by kernel_rfl) (by kernel_rfl) (by kernel_rfl) (by intro _ _ _ h; exact h) (Or.inl ⟨by rfl, ?y49⟩) hHeld ?_
      case y49 => (intro w hSw; (try dsimp only at hSw); go_simp; try (with_reducible rfl))
      try simp only [Act.put, List.setIfInBounds_toArray, List.set_cons_zero, List.set_cons_succ]
      refine wpAnyH_take (i := 15) (by simp only [List.getElem?_toArray, List.getElem?_cons_succ, List.getElem?_cons_zero]; exact rfl) (by kernel_rfl) (by kernel_rfl) (by kernel_rfl) (by intro _ _ _ h; exact h) (Or.inr ⟨by rfl, rfl⟩) hHeld ?_
      try simp only [Act.put, List.setIfInBounds_toArray, List.set_cons_zero, List.set_cons_succ]
      refine wpAnyH_take (i := 16) (by simp only [List.getElem?_toArray, List.getElem?_cons_succ, List.getElem?_cons_zero]; exact rfl) (by kernel_rfl) (by kernel_rfl) (by kernel_rfl) (by intro _ _ _ h; exact h) (Or.inr ⟨by rfl, rfl⟩) hHeld ?_
      try simp only [Act.put, List.setIfInBounds_toArray, List.set_cons_zero, List.set_cons_succ]
      refine wpAnyH_take (i := 17) (by simp only [List.getElem?_toArray, List.getElem?_cons_succ, List.getElem?_cons_zero]; exact rfl) (by kernel_rfl) (by kernel_rfl) (by kernel_rfl) (by intro _ _ _ h; exact h) (Or.inr ⟨by rfl, rfl⟩) hHeld ?_
      try simp only [Act.put, List.setIfInBounds_toArray, List.set_cons_zero, List.set_cons_succ]
      refine wpAnyH_take (i := 18) (by simp only [List.getElem?_toArray, List.getElem?_cons_succ, List.getElem?_cons_zero]; exact rfl) (by kernel_rfl) (by kernel_rfl) (by kernel_rfl) (by intro _ _ _ h; exact h) (Or.inr ⟨by rfl, rfl⟩) hHeld ?_
      try simp only [Act.put, List.setIfInBounds_toArray, List.set_cons_zero, List.set_cons_succ]
      refine wpAnyH_take (i := 19) (by simp only [List.getElem?_toArray, List.getElem?_cons_succ, List.getElem?_cons_zero]; exact rfl) (by kernel_rfl) (by kernel_rfl) (by kernel_rfl) (by intro _ _ _ h; exact h) (Or.inr ⟨by rfl, rfl⟩) hHeld ?_
      try simp only [Act.put, List.setIfInBounds_toArray, List.set_cons_zero, List.set_cons_succ]
      refine wpAnyH_take (i := 20) (by simp only [List.getElem?_toArray, List.getElem?_cons_succ, List.getElem?_cons_zero]; exact rfl) (by kernel_rfl) (by kernel_rfl) (by kernel_rfl) (by intro _ _ _ h; exact h) (Or.inr ⟨by rfl, rfl⟩) hHeld ?_
      try simp only [Act.put, List.setIfInBounds_toArray, List.set_cons_zero, List.set_cons_succ]
      refine wpAnyH_take (i := 21) (by simp only [List.getElem?_toArray, List.getElem?_cons_succ, List.getElem?_cons_zero]; exact rfl) (by kernel_rfl) (by kernel_rfl) (by kernel_rfl) (by intro _ _ _ h; exact h) (Or.inr ⟨by rfl, rfl⟩) hHeld ?_
      try simp only [Act.put, List.setIfInBounds_toArray, List.set_cons_zero, List.set_cons_succ]
      refine wpAnyH_take (i := 22) (by simp only [List.getElem?_toArray, List.getElem?_cons_succ, List.getElem?_cons_zero]; exact rfl) (by kernel_rfl) (by kernel_rfl) (by kernel_rfl) (by intro _ _ _ h; exact h) (Or.inr ⟨by rfl, rfl⟩) hHeld ?_
      try simp only [Act.put, List.setIfInBounds_toArray, List.set_cons_zero, List.set_cons_succ]
      refine wpAnyH_take (i := 23) (by simp only [List.getElem?_toArray, List.getElem?_cons_succ, List.getElem?_cons_zero]; exact rfl) (by kernel_rfl) (by kernel_rfl) (by kernel_rfl) (by intro _ _ _ h; exact h) (Or.inr ⟨by rfl, rfl⟩) hHeld ?_
      try simp only [Act.put, List.setIfInBounds_toArray, List.set_cons_zero, List.set_cons_succ]
      refine wpAnyH_take (i := 24) (by simp only [List.getElem?_toArray, List.getElem?_cons_succ, List.getElem?_cons_zero]; exact rfl) (by kernel_rfl) (by kernel_rfl) (by kernel_rfl) (by intro _ _ _ h; exact h) (Or.inr ⟨by rfl, rfl⟩) hHeld ?_
      try simp only [Act.put, List.setIfInBounds_toArray, List.set_cons_zero, List.set_cons_succ]
      refine wpAnyH_take (i := 25) (by simp only [List.getElem?_toArray, List.getElem?_cons_succ, List.getElem?_cons_zero]; exact rfl) (by kernel_rfl) (by kernel_rfl) (by kernel_rfl) (by intro _ _ _ h; exact h) (Or.inr ⟨by rfl, rfl⟩) hHeld ?_
      try simp only [Act.put, List.setIfInBounds_toArray, List.set_cons_zero, List.set_cons_succ]
      refine wpAnyH_take (i := 26) (v := ?v61) (by simp only [List.getElem?_toArray, List.getElem?_cons_succ, List.getElem?_cons_zero]; exact rfl) (by kernel_rfl) (by kernel_rfl) (by kernel_rfl) (by intro _ _ _ h; exact h) (Or.inl ⟨by rfl, ?y61⟩) hHeld ?_
      case y61 => (intro w hSw; (try dsimp only at hSw); go_simp; try (with_reducible rfl))
      try simp only [Act.put, List.setIfInBounds_toArray, List.set_cons_zero, List.set_cons_succ]
      refine wpAnyH_take (i := 27) (v := ?v62) (by simp only [List.getElem?_toArray, List.getElem?_cons_succ, List.getElem?_cons_zero]; exact rfl) (by kernel_rfl) (by kernel_rfl) (by kernel_rfl) (by intro _ _ _ h; exact h) (Or.inl ⟨by rfl, ?y62⟩) hHeld ?_
      case y62 => (intro w hSw; (try dsimp only at hSw); go_simp; try (with_reducible rfl))
      try simp only [Act.put, List.setIfInBounds_toArray, List.set_cons_zero, List.set_cons_succ]
      refine wpAnyH_done (by kernel_rfl) ?_ _
      go_wp2
      go_roundw
      case rel => exact ⟨k + 1, by omega, by go_num, HT2, hqi.trans (hqd.mono hqi.size)⟩
      case measure => simp [intOf]; omega
    have hwn : 0 < row.length := by rw [← HSE.out, List.length_mergeSort]; exact ht0
    have et := htc 0 ht0
    have ew := hwc 0 hwn
    have e1' : t.getD 0 0 = t[0] := by simp [ht0]
    have e2' : row.getD 0 0 = row[0] := by simp [hwn]
    have hti := HTI.out
    rw [e1', e2'] at hti
    have HTI2 := Lib.hid hti
    obtain ⟨rfl, -⟩ := hta ht0
    obtain ⟨rfl, -⟩ := hwa hwn
    have ht1 : decide ((0 : Int) < (t.length : Int)) = true := decide_eq_true (by omega)
    have ht2 : decide (0 < t.length) = true := decide_eq_true ht0
    have hw2 : decide ((0 : Int) < (row.length : Int)) = true := decide_eq_true (by omega)
    have HT0 := Lib.hid ht0
    generalize t[0] = x at *
    generalize row[0] = y at *
    have et0 : wi.cell? ⟨tb, toff, none⟩ = some (.int .i64 x) := by simpa using et
    have ew0 : wi.cell? ⟨wb, woff, none⟩ = some (.int .i64 y) := by simpa using ew
    have ht3 : (0 : Int) < t.length := by omega
    have hw3 : (0 : Int) < row.length := by omega
    clear htc hwc hta hwa e1' e2' hti et ew
    cases hxy : (x != y)
    · have HT2 := Lib.hid (HT.out.next (by rw [HEG2.out, HER2.out]; exact HTI2.out.2 ⟨HSE.out, fun _ => by simpa using hxy⟩))
      go_wp2
      refine wp_region_held_drew (S := (fun w' => w'.cell? ⟨w.heap.size, 0, none⟩ = some (.slice (some ⟨gb, goff, none⟩) g.length gcap) ∧ w'.cell? ⟨gb, goff + k, none⟩ = some (.slice (some ⟨wb, woff, none⟩) row.length wcap) ∧ w'.cell? ⟨tb, toff, none⟩ = some (.int .i64 x) ∧ w'.cell? ⟨wb, woff, none⟩ = some (.int .i64 y))) (by kernel_rfl) ?_ (fun hHeld => ?_)
      · first | exact ⟨‹_›, ‹_›, ‹_›, ‹_›⟩ | assumption | (simp [*, go_sem])
      have hqd := (Below.refl wi.heap.size wi).drew
      generalize wi.drew = wd at hqd hHeld ⊢
      have hHeld2 := hHeld
      obtain ⟨e0, e1, e2, e3⟩ := hHeld2
      refine wpAnyH_take (i := 0) (v := ?v63) (by simp only [List.getElem?_toArray, List.getElem?_cons_zero]; exact rfl) (by kernel_rfl) (by kernel_rfl) (by kernel_rfl) (by intro _ _ _ h; exact h) (Or.inl ⟨by rfl, ?y63⟩) hHeld ?_
      case y63 => (intro w hSw; (try dsimp only at hSw); go_simp; try (with_reducible rfl))
      try simp only [Act.put, List.setIfInBounds_toArray, List.set_cons_zero, List.set_cons_succ]
      refine wpAnyH_take (i := 3) (v := ?v64) (by simp only [List.getElem?_toArray, List.getElem?_cons_succ, List.getElem?_cons_zero]; exact rfl) (by kernel_rfl) (by kernel_rfl) (by kernel_rfl) (by intro _ _ _ h; exact h) (Or.inl ⟨by rfl, ?y64⟩) hHeld ?_
      case y64 => (intro w hSw; (try dsimp only at hSw); go_simp; try (with_reducible rfl))
      try simp only [Act.put, List.setIfInBounds_toArray, List.set_cons_zero, List.set_cons_succ]
      refine wpAnyH_take (i := 4) (v := ?v65) (by simp only [List.getElem?_toArray, List.getElem?_cons_succ, List.getElem?_cons_zero]; exact rfl) (by kernel_rfl) (by kernel_rfl) (by kernel_rfl) (by intro _ _ _ h; exact h) (Or.inl ⟨by rfl, ?y65⟩) hHeld ?_
      case y65 => (intro w hSw; (try dsimp only at hSw); go_simp; try (with_reducible rfl))
      try simp only [Act.put, List.setIfInBounds_toArray, List.set_cons_zero, List.set_cons_succ]
      refine wpAnyH_take (i := 5) (v := ?v66) (by simp only [List.getElem?_toArray, List.getElem?_cons_succ, List.getElem?_cons_zero]; exact rfl) (by kernel_rfl) (by kernel_rfl) (by kernel_rfl) (by intro _ _ _ h; exact h) (Or.inl ⟨by rfl, ?y66⟩) hHeld ?_
      case y66 => (intro w hSw; (try dsimp only at hSw); go_simp; try (with_reducible rfl))
      try simp only [Act.put, List.setIfInBounds_toArray, List.set_cons_zero, List.set_cons_succ]
      refine wpAnyH_take (i := 6) (v := ?v67) (by simp only [List.getElem?_toArray, List.getElem?_cons_succ, List.getElem?_cons_zero]; exact rfl) (by kernel_rfl) (by kernel_rfl) (by kernel_rfl) (by intro _ _ _ h; exact h) (Or.inl ⟨by rfl, ?y67⟩) hHeld ?_
      case y67 => (intro w hSw; (try dsimp only at hSw); go_simp; try (with_reducible rfl))
      try simp only [Act.put, List.setIfInBounds_toArray, List.set_cons_zero, List.set_cons_succ]
      refine wpAnyH_take (i := 7) (v := ?v68) (by simp only [List.getElem?_toArray, List.getElem?_cons_succ, List.getElem?_cons_zero]; exact rfl) (by kernel_rfl) (by kernel_rfl) (by kernel_rfl) (by intro _ _ _ h; exact h) (Or.inl ⟨by rfl, ?y68⟩) hHeld ?_
      case y68 => (intro w hSw; (try dsimp only at hSw); go_simp; try (with_reducible rfl))
      try simp only [Act.put, List.setIfInBounds_toArray, List.set_cons_zero, List.set_cons_succ]
      refine wpAnyH_ready (rs := [1]) (by kernel_rfl) (by simp) ?_
      refine AllReadyH.cons (by simp only [List.getElem?_toArray, List.getElem?_cons_succ, List.getElem?_cons_zero]; exact rfl) (fun K hK => ?_) AllReadyH.nil
      go_simp
      refine (values_any _ _ _ _).mono ?_
      rintro e wn ⟨rfl, hwn⟩
      have hbn : Below wd.heap.size wd wn := by rw [hwn]; exact (Below.refl _ _).alloc (Nat.le_refl _) _
      have cV : wn.cell? ⟨wd.heap.size, 0, none⟩ = some (.slice (some ⟨tb, toff, none⟩) t.length tcap) := by rw [hwn]; simp [go_sem]
      clear hwn
      have hqd := hqd.trans (hbn.mono hqd.size)
      have e0 := (hbn.cell (cell_lt e0)).trans e0
      have e1 := (hbn.cell (cell_lt e1)).trans e1
      have e2 := (hbn.cell (cell_lt e2)).trans e2
      have e3 := (hbn.cell (cell_lt e3)).trans e3
      generalize wd.heap.size = vb at *
      clear hbn
      have hso := sortedOf_any hx20 (r2.below hqd (Nat.le_refl _)) cV
      obtain ⟨wd, rfl⟩ : ∃ wx : World, wx = wn := ⟨_, rfl⟩
      try dsimp only
      refine hK.out _ _ ?h70 (fun hHeld => ?_)
      case h70 => first | exact ⟨‹_›, ‹_›, ‹_›, ‹_›⟩ | assumption | (simp [*, go_sem])
      clear hK K
      try simp only [Act.put, List.setIfInBounds_toArray, List.set_cons_zero, List.set_cons_succ]
      refine wpAnyH_ready (rs := [2]) (by kernel_rfl) (by simp) ?_
      refine AllReadyH.cons (by simp only [List.getElem?_toArray, List.getElem?_cons_succ, List.getElem?_cons_zero]; exact rfl) (fun K hK => ?_) AllReadyH.nil
      go_simp
      refine hso.mono ?_
      rintro e wn ⟨us, rfl, hus, hbn⟩
      clear hso cV
      have hqd := hqd.trans (hbn.mono hqd.size)
      have e0 := (hbn.cell (cell_lt e0)).trans e0
      have e1 := (hbn.cell (cell_lt e1)).trans e1
      have e2 := (hbn.cell (cell_lt e2)).trans e2
      have e3 := (hbn.cell (cell_lt e3)).trans e3
      have hui := Own.ints (xs := t.mergeSort (fun x y => decide (x ≤ y))) hus (by omega)
      have heq := equal_any hui (r1.below hqd (Nat.le_refl _))
      rw [HSR.out] at heq
      obtain ⟨ua, uc, rfl⟩ := hus.isSlice
      clear hus hui hbn
      obtain ⟨wd, rfl⟩ : ∃ wx : World, wx = wn := ⟨_, rfl⟩
      try dsimp only
      refine hK.out _ _ ?h72 (fun hHeld => ?_)
      case h72 => first | exact ⟨‹_›, ‹_›, ‹_›, ‹_›⟩ | assumption | (simp [*, go_sem])
      clear hK K
      try simp only [Act.put, List.setIfInBounds_toArray, List.set_cons_zero, List.set_cons_succ]
      refine wpAnyH_ready (rs := [8]) (by kernel_rfl) (by simp) ?_
      refine AllReadyH.cons (by simp only [List.getElem?_toArray, List.getElem?_cons_succ, List.getElem?_cons_zero]; exact rfl) (fun K hK => ?_) AllReadyH.nil
      go_simp
      refine heq.mono ?_
      rintro e wn ⟨rfl, hdn⟩
      clear heq
      have hqd := hqd.trans ((hdn.below wd.heap.size).mono hqd.size)
      have e0 := (hdn.cell _).trans e0
      have e1 := (hdn.cell _).trans e1
      have e2 := (hdn.cell _).trans e2
      have e3 := (hdn.cell _).trans e3
      clear hdn
      obtain ⟨wd, rfl⟩ : ∃ wx : World, wx = wn := ⟨_, rfl⟩
      try dsimp only
      refine hK.out _ _ ?h74 (fun hHeld => ?_)
      case h74 => first | exact ⟨‹_›, ‹_›, ‹_›, ‹_›⟩ | assumption | (simp [*, go_sem])
      clear hK K
      try simp only [Act.put, List.setIfInBounds_toArray, List.set_cons_zero, List.set_cons_succ]
      refine wpAnyH_take (i := 9) (v := ?v75) (by simp only [List.getElem?_toArray, List.getElem?_cons_succ, List.getElem?_cons_zero]; exact rfl) (by kernel_rfl) (by kernel_rfl) (by kernel_rfl) (by intro _ _ _ h; exact h) (Or.inl ⟨by rfl, ?y75⟩) hHeld ?_
      case y75 => (intro w hSw; (try dsimp only at hSw); go_simp; try (with_reducible rfl))
      try simp only [Act.put, List.setIfInBounds_toArray, List.set_cons_zero, List.set_cons_succ]
      refine wpAnyH_take (i := 10) (v := ?v76) (by simp only [List.getElem?_toArray, List.getElem?_cons_succ, List.getElem?_cons_zero]; exact rfl) (by kernel_rfl) (by kernel_rfl) (by kernel_rfl) (by intro _ _ _ h; exact h) (Or.inl ⟨by rfl, ?y76⟩) hHeld ?_
      case y76 => (intro w hSw; (try dsimp only at hSw); go_simp; try (with_reducible rfl))
      try simp only [Act.put, List.setIfInBounds_toArray, List.set_cons_zero, List.set_cons_succ]
      refine wpAnyH_take (i := 11) (v := ?v77) (by simp only [List.getElem?_toArray, List.getElem?_cons_succ, List.getElem?_cons_zero]; exact rfl) (by kernel_rfl) (by kernel_rfl) (by kernel_rfl) (by intro _ _ _ h; exact h) (Or.inl ⟨by rfl, ?y77⟩) hHeld ?_
      case y77 => (intro w hSw; (try dsimp only at hSw); go_simp; try (with_reducible rfl))
      try simp only [Act.put, List.setIfInBounds_toArray, List.set_cons_zero, List.set_cons_succ]
      refine wpAnyH_take (i := 12) (v := ?v78) (by simp only [List.getElem?_toArray, List.getElem?_cons_succ, List.getElem?_cons_zero]; exact rfl) (by kernel_rfl) (by kernel_rfl) (by kernel_rfl) (by intro _ _ _ h; exact h) (Or.inl ⟨by rfl, ?y78⟩) hHeld ?_
      case y78 => (intro w hSw; (try dsimp only at hSw); go_simp; try (with_reducible rfl))
      try simp only [Act.put, List.setIfInBounds_toArray, List.set_cons_zero, List.set_cons_succ]
      refine wpAnyH_take (i := 13) (v := ?v79) (by simp only [List.getElem?_toArray, List.getElem?_cons_succ, List.getElem?_cons_zero]; exact rfl) (by kernel_rfl) (by kernel_rfl) (by kernel_rfl) (by intro _ _ _ h; exact h) (Or.inl ⟨by rfl, ?y79⟩) hHeld ?_
      case y79 => (intro w hSw; (try dsimp only at hSw); go_simp; try (with_reducible rfl))
      try simp only [Act.put, List.setIfInBounds_toArray, List.set_cons_zero, List.set_cons_succ]
      refine wpAnyH_take (i := 14) (v := ?v80) (by simp only [List.getElem?_toArray, List.getElem?_cons_succ, List.getElem?_cons_zero]; exact rfl) (by kernel_rfl) (by kernel_rfl) (by kernel_rfl) (by intro _ _ _ h; exact h) (Or.inl ⟨by rfl, ?y80⟩) hHeld ?_
      case y80 => (intro w hSw; (try dsimp only at hSw); go_simp; try (with_reducible rfl))
      try simp only [Act.put, List.setIfInBounds_toArray, List.set_cons_zero, List.set_cons_succ]
      refine wpAnyH_take (i := 15) (v := ?v81) (by simp only [List.getElem?_toArray, List.getElem?_cons_succ, List.getElem?_cons_zero]; exact rfl) (by kernel_rfl) (by kernel_rfl) (by kernel_rfl) (by intro _ _ _ h; exact h) (Or.inl ⟨by rfl, ?y81⟩) hHeld ?_
      case y81 => (intro w hSw; (try dsimp only at hSw); go_simp; try (with_reducible rfl))
      try simp only [Act.put, List.setIfInBounds_toArray, List.set_cons_zero, List.set_cons_succ]
      refine wpAnyH_take (i := 16) (v := ?v82) (by simp only [List.getElem?_toArray, List.getElem?_cons_succ, List.getElem?_cons_zero]; exact rfl) (by kernel_rfl) (by kernel_rfl) (by kernel_rfl) (by intro _ _ _ h; exact h) (Or.inl ⟨by rfl, ?y82⟩) hHeld ?_
      case y82 => (intro w hSw; (try dsimp only at hSw); go_simp; try (with_reducible rfl))
      try simp only [Act.put, List.setIfInBounds_toArray, List.set_cons_zero, List.set_cons_succ]
      refine wpAnyH_take (i := 17) (v := ?v83) (by simp only [List.getElem?_toArray, List.getElem?_cons_succ, List.getElem?_cons_zero]; exact rfl) (by kernel_rfl) (by kernel_rfl) (by kernel_rfl) (by intro _ _ _ h; exact h) (Or.inl ⟨by rfl, ?y83⟩) hHeld ?_
      case y83 => (intro w hSw; (try dsimp only at hSw); go_simp; try (with_reducible rfl))
      try simp only [Act.put, List.setIfInBounds_toArray, List.set_cons_zero, List.set_cons_succ]
      refine wpAnyH_take (i := 18) (v := ?v84) (by simp only [List.getElem?_toArray, List.getElem?_cons_succ, List.getElem?_cons_zero]; exact rfl) (by kernel_rfl) (by kernel_rfl) (by kernel_rfl) (by intro _ _ _ h; exact h) (Or.inl ⟨by rfl, ?y84⟩) hHeld ?_
      case y84 => (intro w hSw; (try dsimp only at hSw); go_simp; try (with_reducible rfl))
      try simp only [Act.put, List.setIfInBounds_toArray, List.set_cons_zero, List.set_cons_succ]
      refine wpAnyH_take (i := 19) (v := ?v85) (by simp only [List.getElem?_toArray, List.getElem?_cons_succ, List.getElem?_cons_zero]; exact rfl) (by kernel_rfl) (by kernel_rfl) (by kernel_rfl) (by intro _ _ _ h; exact h) (Or.inl ⟨by rfl, ?y85⟩) hHeld ?_
      case y85 => (intro w hSw; (try dsimp only at hSw); go_simp; try (with_reducible rfl))
      try simp only [Act.put, List.setIfInBounds_toArray, List.set_cons_zero, List.set_cons_succ]
      refine wpAnyH_take (i := 20) (v := ?v86) (by simp only [List.getElem?_toArray, List.getElem?_cons_succ, List.getElem?_cons_zero]; exact rfl) (by kernel_rfl) (by kernel_rfl) (by kernel_rfl) (by intro _ _ _ h; exact h) (Or.inl ⟨by rfl, ?y86⟩) hHeld ?_
      case y86 => (intro w hSw; (try dsimp only at hSw); go_simp; try (with_reducible rfl))
      try simp only [Act.put, List.setIfInBounds_toArray, List.set_cons_zero, List.set_cons_succ]
      refine wpAnyH_take (i := 21) (v := ?v87) (by simp only [List.getElem?_toArray, List.getElem?_cons_succ, List.getElem?_cons_zero]; exact rfl) (by kernel_rfl) (by kernel_rfl) (by kernel_rfl) (by intro _ _ _ h; exact h) (Or.inl ⟨by rfl, ?y87⟩) hHeld ?_
      case y87 => (intro w hSw; (try dsimp only at hSw); go_simp; try (with_reducible rfl))
      try simp only [Act.put, List.setIfInBounds_toArray, List.set_cons_zero, List.set_cons_succ]
      refine wpAnyH_take (i := 22) (v := ?v88) (by simp only [List.getElem?_toArray, List.getElem?_cons_succ, List.getElem?_cons_zero]; exact rfl) (by kernel_rfl) (by kernel_rfl) (by kernel_rfl) (by intro _ _ _ h; exact h) (Or.inl ⟨by rfl, ?y88⟩) hHeld ?_
      case y88 => (intro w hSw; (try dsimp only at hSw); go_simp; try (with_reducible rfl))
      try simp only [Act.put, List.setIfInBounds_toArray, List.set_cons_zero, List.set_cons_succ]
      refine wpAnyH_take (i := 23) (v := ?v89) (by simp only [List.getElem?_toArray, List.getElem?_cons_succ, List.getElem?_cons_zero]; exact rfl) (by kernel_rfl) (by kernel_rfl) (by kernel_rfl) (by intro _ _ _ h; exact h) (Or.inl ⟨by rfl, ?y89⟩) hHeld ?_
      case y89 => (intro w hSw; (try dsimp only at hSw); go_simp; try (with_reducible rfl))
      try simp only [Act.put, List.setIfInBounds_toArray, List.set_cons_zero, List.set_cons_succ]
      refine wpAnyH_take (i := 24) (v := ?v90) (by simp only [List.getElem?_toArray, List.getElem?_cons_succ, List.getElem?_cons_zero]; exact rfl) (by kernel_rfl) (by kernel_rfl) (by kernel_rfl) (by intro _ _ _ h; exact h) (Or.inl ⟨by rfl, ?y90⟩) hHeld ?_
      case y90 => (intro w hSw; (try dsimp only at hSw); go_simp; try (with_reducible rfl))
      try simp only [Act.put, List.setIfInBounds_toArray, List.set_cons_zero, List.set_cons_succ]
      refine wpAnyH_take (i := 25) (v := ?v91) (by simp only [List.getElem?_toArray, List.getElem?_cons_succ, List.getElem?_cons_zero]; exact rfl) (by kernel_rfl) (by kernel_rfl) (by kernel_rfl) (by intro _ _ _ h; exact h) (Or.inl ⟨by rfl, ?y91⟩) hHeld ?_
      case y91 => (intro w hSw; (try dsimp only at hSw); go_simp; try (with_reducible rfl))
      try simp only [Act.put, List.setIfInBounds_toArray, List.set_cons_zero, List.set_cons_succ]
      refine wpAnyH_take (i := 26) (v := ?v92) (by simp only [List.getElem?_toArray, List.getElem?_cons_succ, List.getElem?_cons_zero]; exact rfl) (by kernel_rfl) (by kernel_rfl) (by kernel_rfl) (by intro _ _ _ h; exact h) (Or.inl ⟨by rfl, ?y92⟩) hHeld ?_
      case y92 => (intro w hSw; (try dsimp only at hSw); go_simp; try (with_reducible rfl))
      try simp only [Act.put, List.setIfInBounds_toArray, List.set_cons_zero, List.set_cons_succ]
      refine wpAnyH_take (i := 27) (v := ?v93) (by simp only [List.getElem?_toArray, List.getElem?_cons_succ, List.getElem?_cons_zero]; exact rfl) (by kernel_rfl) (by kernel_rfl) (by kernel_rfl) (by intro _ _ _ h; exact h) (Or.inl ⟨by rfl, ?y93⟩) hHeld ?_
      case y93 => (intro w hSw; (try dsimp only at hSw); go_simp; try (with_reducible rfl))
      try simp only [Act.put, List.setIfInBounds_toArray, List.set_cons_zero, List.set_cons_succ]
      refine wpAnyH_done (by kernel_rfl) ?_ _
      go_wp2
      go_roundw
      case rel => exact ⟨k + 1, by omega, by go_num, HT2, hqi.trans (hqd.mono hqi.size)⟩
      case measure => simp [intOf]; omega
    · have HE := Lib.hid (around_false (g := g) (r := r) fun h => by
        have := h.turn k hlt; rw [HEG2.out, HER2.out] at this
        have := (HTI2.out.1 this).2 HT0.out
        subst this
        simp at hxy)
      go_wp2
      refine wp_region_held_drew (S := (fun w' => w'.cell? ⟨w.heap.size, 0, none⟩ = some (.slice (some ⟨gb, goff, none⟩) g.length gcap) ∧ w'.cell? ⟨gb, goff + k, none⟩ = some (.slice (some ⟨wb, woff, none⟩) row.length wcap) ∧ w'.cell? ⟨tb, toff, none⟩ = some (.int .i64 x) ∧ w'.cell? ⟨wb, woff, none⟩ = some (.int .i64 y))) (by kernel_rfl) ?_ (fun hHeld => ?_)
      · first | exact ⟨‹_›, ‹_›, ‹_›, ‹_›⟩ | assumption | (simp [*, go_sem])
      have hqd := (Below.refl wi.heap.size wi).drew
      generalize wi.drew = wd at hqd hHeld ⊢
      have hHeld2 := hHeld
      obtain ⟨e0, e1, e2, e3⟩ := hHeld2
      refine wpAnyH_take (i := 0) (v := ?v94) (by simp only [List.getElem?_toArray, List.getElem?_cons_zero]; exact rfl) (by kernel_rfl) (by kernel_rfl) (by kernel_rfl) (by intro _ _ _ h; exact h) (Or.inl ⟨by rfl, ?y94⟩) hHeld ?_
      case y94 => (intro w hSw; (try dsimp only at hSw); go_simp; try (with_reducible rfl))
      try simp only [Act.put, List.setIfInBounds_toArray, List.set_cons_zero, List.set_cons_succ]
      refine wpAnyH_take (i := 3) (v := ?v95) (by simp only [List.getElem?_toArray, List.getElem?_cons_succ, List.getElem?_cons_zero]; exact rfl) (by kernel_rfl) (by kernel_rfl) (by kernel_rfl) (by intro _ _ _ h; exact h) (Or.inl ⟨by rfl, ?y95⟩) hHeld ?_
      case y95 => (intro w hSw; (try dsimp only at hSw); go_simp; try (with_reducible rfl))
      try simp only [Act.put, List.setIfInBounds_toArray, List.set_cons_zero, List.set_cons_succ]
      refine wpAnyH_take (i := 4) (v := ?v96) (by simp only [List.getElem?_toArray, List.getElem?_cons_succ, List.getElem?_cons_zero]; exact rfl) (by kernel_rfl) (by kernel_rfl) (by kernel_rfl) (by intro _ _ _ h; exact h) (Or.inl ⟨by rfl, ?y96⟩) hHeld ?_
      case y96 => (intro w hSw; (try dsimp only at hSw); go_simp; try (with_reducible rfl))
      try simp only [Act.put, List.setIfInBounds_toArray, List.set_cons_zero, List.set_cons_succ]
      refine wpAnyH_take (i := 5) (v := ?v97) (by simp only [List.getElem?_toArray, List.getElem?_cons_succ, List.getElem?_cons_zero]; exact rfl) (by kernel_rfl) (by kernel_rfl) (by kernel_rfl) (by intro _ _ _ h; exact h) (Or.inl ⟨by rfl, ?y97⟩) hHeld ?_
      case y97 => (intro w hSw; (try dsimp only at hSw); go_simp; try (with_reducible rfl))
      try simp only [Act.put, List.setIfInBounds_toArray, List.set_cons_zero, List.set_cons_succ]
      refine wpAnyH_take (i := 6) (v := ?v98) (by simp only [List.getElem?_toArray, List.getElem?_cons_succ, List.getElem?_cons_zero]; exact rfl) (by kernel_rfl) (by kernel_rfl) (by kernel_rfl) (by intro _ _ _ h; exact h) (Or.inl ⟨by rfl, ?y98⟩) hHeld ?_
      case y98 => (intro w hSw; (try dsimp only at hSw); go_simp; try (with_reducible rfl))
      try simp only [Act.put, List.setIfInBounds_toArray, List.set_cons_zero, List.set_cons_succ]
      refine wpAnyH_take (i := 7) (v := ?v99) (by simp only [List.getElem?_toArray, List.getElem?_cons_succ, List.getElem?_cons_zero]; exact rfl) (by kernel_rfl) (by kernel_rfl) (by kernel_rfl) (by intro _ _ _ h; exact h) (Or.inl ⟨by rfl, ?y99⟩) hHeld ?_
      case y99 => (intro w hSw; (try dsimp only at hSw); go_simp; try (with_reducible rfl))
      try simp only [Act.put, List.setIfInBounds_toArray, List.set_cons_zero, List.set_cons_succ]
      refine wpAnyH_ready (rs := [1]) (by kernel_rfl) (by simp) ?_
      refine AllReadyH.cons (by simp only [List.getElem?_toArray, List.getElem?_cons_succ, List.getElem?_cons_zero]; exact rfl) (fun K hK => ?_) AllReadyH.nil
      go_simp
      refine (values_any _ _ _ _).mono ?_
      rintro e wn ⟨rfl, hwn⟩
      have hbn : Below wd.heap.size wd wn := by rw [hwn]; exact (Below.refl _ _).alloc (Nat.le_refl _) _
      have cV : wn.cell? ⟨wd.heap.size, 0, none⟩ = some (.slice (some ⟨tb, toff, none⟩) t.length tcap) := by rw [hwn]; simp [go_sem]
      clear hwn
      have hqd := hqd.trans (hbn.mono hqd.size)
      have e0 := (hbn.cell (cell_lt e0)).trans e0
      have e1 := (hbn.cell (cell_lt e1)).trans e1
      have e2 := (hbn.cell (cell_lt e2)).trans e2
      have e3 := (hbn.cell (cell_lt e3)).trans e3
      generalize wd.heap.size = vb at *
      clear hbn
      have hso := sortedOf_any hx20 (r2.below hqd (Nat.le_refl _)) cV
      obtain ⟨wd, rfl⟩ : ∃ wx : World, wx = wn := ⟨_, rfl⟩
      try dsimp only
      refine hK.out _ _ ?h101 (fun hHeld => ?_)
      case h101 => first | exact ⟨‹_›, ‹_›, ‹_›, ‹_›⟩ | assumption | (simp [*, go_sem])
      clear hK K
      try simp only [Act.put, List.setIfInBounds_toArray, List.set_cons_zero, List.set_cons_succ]
      refine wpAnyH_ready (rs := [2]) (by kernel_rfl) (by simp) ?_
      refine AllReadyH.cons (by simp only [List.getElem?_toArray, List.getElem?_cons_succ, List.getElem?_cons_zero]; exact rfl) (fun K hK => ?_) AllReadyH.nil
      go_simp
      refine hso.mono ?_
      rintro e wn ⟨us, rfl, hus, hbn⟩
      clear hso cV
      have hqd := hqd.trans (hbn.mono hqd.size)
      have e0 := (hbn.cell (cell_lt e0)).trans e0
      have e1 := (hbn.cell (cell_lt e1)).trans e1
      have e2 := (hbn.cell (cell_lt e2)).trans e2
      have e3 := (hbn.cell (cell_lt e3)).trans e3
      have hui := Own.ints (xs := t.mergeSort (fun x y => decide (x ≤ y))) hus (by omega)
      have heq := equal_any hui (r1.below hqd (Nat.le_refl _))
      rw [HSR.out] at heq
      obtain ⟨ua, uc, rfl⟩ := hus.isSlice
      clear hus hui hbn
      obtain ⟨wd, rfl⟩ : ∃ wx : World, wx = wn := ⟨_, rfl⟩
      try dsimp only
      refine hK.out _ _ ?h103 (fun hHeld => ?_)
      case h103 => first | exact ⟨‹_›, ‹_›, ‹_›, ‹_›⟩ | assumption | (simp [*, go_sem])
      clear hK K
      try simp only [Act.put, List.setIfInBounds_toArray, List.set_cons_zero, List.set_cons_succ]
      refine wpAnyH_ready (rs := [8]) (by kernel_rfl) (by simp) ?_
      refine AllReadyH.cons (by simp only [List.getElem?_toArray, List.getElem?_cons_succ, List.getElem?_cons_zero]; exact rfl) (fun K hK => ?_) AllReadyH.nil
      go_simp
      refine heq.mono ?_
      rintro e wn ⟨rfl, hdn⟩
      clear heq
      have hqd := hqd.trans ((hdn.below wd.heap.size).mono hqd.size)
      have e0 := (hdn.cell _).trans e0
      have e1 := (hdn.cell _).trans e1
      have e2 := (hdn.cell _).trans e2
      have e3 := (hdn.cell _).trans e3
      clear hdn
      obtain ⟨wd, rfl⟩ : ∃ wx : World, wx = wn := ⟨_, rfl⟩
      try dsimp only
      refine hK.out _ _ ?h105 (fun hHeld => ?_)
      case h105 => first | exact ⟨‹_›, ‹_›, ‹_›, ‹_›⟩ | assumption | (simp [*, go_sem])
      clear hK K
      try simp only [Act.put, List.setIfInBounds_toArray, List.set_cons_zero, List.set_cons_succ]
      refine wpAnyH_take (i := 9) (v := ?v106) (by simp only [List.getElem?_toArray, List.getElem?_cons_succ, List.getElem?_cons_zero]; exact rfl) (by kernel_rfl) (by kernel_rfl) (by kernel_rfl) (by intro _ _ _ h; exact h) (Or.inl ⟨by rfl, ?y106⟩) hHeld ?_
      case y106 => (intro w hSw; (try dsimp only at hSw); go_simp; try (with_reducible rfl))
      try simp only [Act.put, List.setIfInBounds_toArray, List.set_cons_zero, List.set_cons_succ]
      refine wpAnyH_take (i := 10) (v := ?v107) (by simp only [List.getElem?_toArray, List.getElem?_cons_succ, List.getElem?_cons_zero]; exact rfl) (by kernel_rfl) (by kernel_rfl) (by kernel_rfl) (by intro _ _ _ h; exact h) (Or.inl ⟨by rfl, ?y107⟩) hHeld ?_
      case y107 => (intro w hSw; (try dsimp only at hSw); go_simp; try (with_reducible rfl))
      try simp only [Act.put, List.setIfInBounds_toArray, List.set_cons_zero, List.set_cons_succ]
      refine wpAnyH_take (i := 11) (v := ?v108) (by simp only [List.getElem?_toArray, List.getElem?_cons_succ, List.getElem?_cons_zero]; exact rfl) (by kernel_rfl) (by kernel_rfl) (by kernel_rfl) (by intro _ _ _ h; exact h) (Or.inl ⟨by rfl, ?y108⟩) hHeld ?_
      case y108 => (intro w hSw; (try dsimp only at hSw); go_simp; try (with_reducible rfl))
      try simp only [Act.put, List.setIfInBounds_toArray, List.set_cons_zero, List.set_cons_succ]
      refine wpAnyH_take (i := 12) (v := ?v109) (by simp only [List.getElem?_toArray, List.getElem?_cons_succ, List.getElem?_cons_zero]; exact rfl) (by kernel_rfl) (by kernel_rfl) (by kernel_rfl) (by intro _ _ _ h; exact h) (Or.inl ⟨by rfl, ?y109⟩) hHeld ?_
      case y109 => (intro w hSw; (try dsimp only at hSw); go_simp; try (with_reducible rfl))
      try simp only [Act.put, List.setIfInBounds_toArray, List.set_cons_zero, List.set_cons_succ]
      refine wpAnyH_take (i := 13) (v := ?v110) (by simp only [List.getElem?_toArray, List.getElem?_cons_succ, List.getElem?_cons_zero]; exact rfl) (by kernel_rfl) (by kernel_rfl) (by kernel_rfl) (by intro _ _ _ h; exact h) (Or.inl ⟨by rfl, ?y110⟩) hHeld ?_
      case y110 => (intro w hSw; (try dsimp only at hSw); go_simp; try (with_reducible rfl))
      try simp only [Act.put, List.setIfInBounds_toArray, List.set_cons_zero, List.set_cons_succ]
      refine wpAnyH_take (i := 14) (v := ?v111) (by simp only [List.getElem?_toArray, List.getElem?_cons_succ, List.getElem?_cons_zero]; exact rfl) (by kernel_rfl) (by kernel_rfl) (by kernel_rfl) (by intro _ _ _ h; exact h) (Or.inl ⟨by rfl, ?y111⟩) hHeld ?_
      case y111 => (intro w hSw; (try dsimp only at hSw); go_simp; try (with_reducible rfl))
      try simp only [Act.put, List.setIfInBounds_toArray, List.set_cons_zero, List.set_cons_succ]
      refine wpAnyH_take (i := 15) (v := ?v112) (by simp only [List.getElem?_toArray, List.getElem?_cons_succ, List.getElem?_cons_zero]; exact rfl) (by kernel_rfl) (by kernel_rfl) (by kernel_rfl) (by intro _ _ _ h; exact h) (Or.inl ⟨by rfl, ?y112⟩) hHeld ?_
      case y112 => (intro w hSw; (try dsimp only at hSw); go_simp; try (with_reducible rfl))
      try simp only [Act.put, List.setIfInBounds_toArray, List.set_cons_zero, List.set_cons_succ]
      refine wpAnyH_take (i := 16) (v := ?v113) (by simp only [List.getElem?_toArray, List.getElem?_cons_succ, List.getElem?_cons_zero]; exact rfl) (by kernel_rfl) (by kernel_rfl) (by kernel_rfl) (by intro _ _ _ h; exact h) (Or.inl ⟨by rfl, ?y113⟩) hHeld ?_
      case y113 => (intro w hSw; (try dsimp only at hSw); go_simp; try (with_reducible rfl))
      try simp only [Act.put, List.setIfInBounds_toArray, List.set_cons_zero, List.set_cons_succ]
      refine wpAnyH_take (i := 17) (v := ?v114) (by simp only [List.getElem?_toArray, List.getElem?_cons_succ, List.getElem?_cons_zero]; exact rfl) (by kernel_rfl) (by kernel_rfl) (by kernel_rfl) (by intro _ _ _ h; exact h) (Or.inl ⟨by rfl, ?y114⟩) hHeld ?_
      case y114 => (intro w hSw; (try dsimp only at hSw); go_simp; try (with_reducible rfl))
      try simp only [Act.put, List.setIfInBounds_toArray, List.set_cons_zero, List.set_cons_succ]
      refine wpAnyH_take (i := 18) (v := ?v115) (by simp only [List.getElem?_toArray, List.getElem?_cons_succ, List.getElem?_cons_zero]; exact rfl) (by kernel_rfl) (by kernel_rfl) (by kernel_rfl) (by intro _ _ _ h; exact h) (Or.inl ⟨by rfl, ?y115⟩) hHeld ?_
      case y115 => (intro w hSw; (try dsimp only at hSw); go_simp; try (with_reducible rfl))
      try simp only [Act.put, List.setIfInBounds_toArray, List.set_cons_zero, List.set_cons_succ]
      refine wpAnyH_take (i := 19) (v := ?v116) (by simp only [List.getElem?_toArray, List.getElem?_cons_succ, List.getElem?_cons_zero]; exact rfl) (by kernel_rfl) (by kernel_rfl) (by kernel_rfl) (by intro _ _ _ h; exact h) (Or.inl ⟨by rfl, ?y116⟩) hHeld ?_
      case y116 => (intro w hSw; (try dsimp only at hSw); go_simp; try (with_reducible rfl))
      try simp only [Act.put, List.setIfInBounds_toArray, List.set_cons_zero, List.set_cons_succ]
      refine wpAnyH_take (i := 20) (v := ?v117) (by simp only [List.getElem?_toArray, List.getElem?_cons_succ, List.getElem?_cons_zero]; exact rfl) (by kernel_rfl) (by kernel_rfl) (by kernel_rfl) (by intro _ _ _ h; exact h) (Or.inl ⟨by rfl, ?y117⟩) hHeld ?_
      case y117 => (intro w hSw; (try dsimp only at hSw); go_simp; try (with_reducible rfl))
      try simp only [Act.put, List.setIfInBounds_toArray, List.set_cons_zero, List.set_cons_succ]
      refine wpAnyH_take (i := 21) (v := ?v118) (by simp only [List.getElem?_toArray, List.getElem?_cons_succ, List.getElem?_cons_zero]; exact rfl) (by kernel_rfl) (by kernel_rfl) (by kernel_rfl) (by intro _ _ _ h; exact h) (Or.inl ⟨by rfl, ?y118⟩) hHeld ?_
      case y118 => (intro w hSw; (try dsimp only at hSw); go_simp; try (with_reducible rfl))
      try simp only [Act.put, List.setIfInBounds_toArray, List.set_cons_zero, List.set_cons_succ]
      refine wpAnyH_take (i := 22) (v := ?v119) (by simp only [List.getElem?_toArray, List.getElem?_cons_succ, List.getElem?_cons_zero]; exact rfl) (by kernel_rfl) (by kernel_rfl) (by kernel_rfl) (by intro _ _ _ h; exact h) (Or.inl ⟨by rfl, ?y119⟩) hHeld ?_
      case y119 => (intro w hSw; (try dsimp only at hSw); go_simp; try (with_reducible rfl))
      try simp only [Act.put, List.setIfInBounds_toArray, List.set_cons_zero, List.set_cons_succ]
      refine wpAnyH_take (i := 23) (v := ?v120) (by simp only [List.getElem?_toArray, List.getElem?_cons_succ, List.getElem?_cons_zero]; exact rfl) (by kernel_rfl) (by kernel_rfl) (by kernel_rfl) (by intro _ _ _ h; exact h) (Or.inl ⟨by rfl, ?y120⟩) hHeld ?_
      case y120 => (intro w hSw; (try dsimp only at hSw); go_simp; try (with_reducible rfl))
      try simp only [Act.put, List.setIfInBounds_toArray, List.set_cons_zero, List.set_cons_succ]
      refine wpAnyH_take (i := 24) (v := ?v121) (by simp only [List.getElem?_toArray, List.getElem?_cons_succ, List.getElem?_cons_zero]; exact rfl) (by kernel_rfl) (by kernel_rfl) (by kernel_rfl) (by intro _ _ _ h; exact h) (Or.inl ⟨by rfl, ?y121⟩) hHeld ?_
      case y121 => (intro w hSw; (try dsimp only at hSw); go_simp; try (with_reducible rfl))
      try simp only [Act.put, List.setIfInBounds_toArray, List.set_cons_zero, List.set_cons_succ]
      refine wpAnyH_take (i := 25) (v := ?v122) (by simp only [List.getElem?_toArray, List.getElem?_cons_succ, List.getElem?_cons_zero]; exact rfl) (by kernel_rfl) (by kernel_rfl) (by kernel_rfl) (by intro _ _ _ h; exact h) (Or.inl ⟨by rfl, ?y122⟩) hHeld ?_
      case y122 => (intro w hSw; (try dsimp only at hSw); go_simp; try (with_reducible rfl))
      try simp only [Act.put, List.setIfInBounds_toArray, List.set_cons_zero, List.set_cons_succ]
      refine wpAnyH_take (i := 26) (v := ?v123) (by simp only [List.getElem?_toArray, List.getElem?_cons_succ, List.getElem?_cons_zero]; exact rfl) (by kernel_rfl) (by kernel_rfl) (by kernel_rfl) (by intro _ _ _ h; exact h) (Or.inl ⟨by rfl, ?y123⟩) hHeld ?_
      case y123 => (intro w hSw; (try dsimp only at hSw); go_simp; try (with_reducible rfl))
      try simp only [Act.put, List.setIfInBounds_toArray, List.set_cons_zero, List.set_cons_succ]
      refine wpAnyH_take (i := 27) (v := ?v124) (by simp only [List.getElem?_toArray, List.getElem?_cons_succ, List.getElem?_cons_zero]; exact rfl) (by kernel_rfl) (by kernel_rfl) (by kernel_rfl) (by intro _ _ _ h; exact h) (Or.inl ⟨by rfl, ?y124⟩) hHeld ?_
      case y124 => (intro w hSw; (try dsimp only at hSw); go_simp; try (with_reducible rfl))
      try simp only [Act.put, List.setIfInBounds_toArray, List.set_cons_zero, List.set_cons_succ]
      refine wpAnyH_done (by kernel_rfl) ?_ _
      go_wp2
      go_ret
      exact ⟨ret_bool HE.out.symm, hq1.trans ((hqi.trans (hqd.mono hqi.size)).mono hq1.size)⟩
set_option maxRecDepth 100000 in
set_option maxHeartbeats 8000000 in
theorem specAroundOk_any {S S' : Nat → Prop} {gv rv : Value} {g r : List (List Int)} {w : World} (hvg : SlR S w gv g) (hvr : SlR S' w rv r) :
    Calls Tryz.prog 12 #[.agg #[gv], .agg #[rv]] w fun e w' => e = .returned (.bool (aroundB g r)) ∧ Below w.heap.size w w' := by
  have hq0 : Below w.heap.size w ((w.alloc (.cells #[gv] 26)).alloc (.cells #[rv] 28)) := ((Below.refl _ _).alloc (Nat.le_refl _) _).alloc (by simp) _
  have hgo := specGraphOk_any _ _ _ (hvg.below hq0 (Nat.le_refl _))
  obtain ⟨ga, gb, goff, gcap, gf, rfl, hgl, hga, hgc⟩ := hvg
  obtain ⟨ra, rb, roff, rcap, rf, rfl, hrl, hra, hrc⟩ := hvr
  by_cases hg : GOk g
  case neg =>
    rw [gokB_false hg] at hgo
    have HE := Lib.hid (around_false (g := g) (r := r) fun h => hg h.gok)
    go_enter Tryz.func12, Tryz.ntmps12
    go_wp2_with fail
    refine hgo.mono ?_
    rintro e w1 ⟨rfl, hb1⟩
    go_wp2
    go_ret
    exact ⟨ret_bool HE.out.symm, hq0.trans (hb1.mono hq0.size)⟩
  rw [gokB_true hg] at hgo
  by_cases hne : r.length = g.length
  case neg =>
    have hn0 : ((r.length : Int) != (g.length : Int)) = true := by rw [bne_iff_ne]; omega
    have HE := Lib.hid (around_false (g := g) (r := r) fun h => hne h.len)
    clear hne
    go_enter Tryz.func12, Tryz.ntmps12
    go_wp2_with fail
    refine hgo.mono ?_
    rintro e w1 ⟨rfl, hb1⟩
    have c0 : w1.cell? ⟨w.heap.size, 0, none⟩ = some (.slice ga g.length gcap) := (hb1.cell (p := ⟨w.heap.size, 0, none⟩) (by simp <;> omega)).trans (by simp [go_sem])
    have c1 : w1.cell? ⟨w.heap.size + 1, 0, none⟩ = some (.slice ra r.length rcap) := (hb1.cell (p := ⟨w.heap.size + 1, 0, none⟩) (by simp)).trans (by simp [go_sem])
    go_wp2
    go_ret
    exact ⟨ret_bool HE.out.symm, hq0.trans (hb1.mono hq0.size)⟩
  have HN := Lib.hid hne
  have h16 := hg.hi
  have hlo := hg.lo
  rw [hne]
  rw [hne] at hrl hra hq0 hgo
  have hn0 : ((g.length : Int) != (g.length : Int)) = false := by simp
  clear hne
  go_enter Tryz.func12, Tryz.ntmps12
  go_wp2_with fail
  refine hgo.mono ?_
  rintro e w1 ⟨rfl, hb1⟩
  have hq1 := hq0.trans (hb1.mono hq0.size)
  have c0 : w1.cell? ⟨w.heap.size, 0, none⟩ = some (.slice ga g.length gcap) := (hb1.cell (p := ⟨w.heap.size, 0, none⟩) (by simp <;> omega)).trans (by simp [go_sem])
  have c1 : w1.cell? ⟨w.heap.size + 1, 0, none⟩ = some (.slice ra g.length rcap) := (hb1.cell (p := ⟨w.heap.size + 1, 0, none⟩) (by simp)).trans (by simp [go_sem])
  have HG := Lib.hid hg
  have HGC := Lib.hid hgc
  have HRC := Lib.hid hrc
  clear hgo hb1 hg hgc hrc
  go_wp2
  go_loopw [5, 6, 7] (fun iv _ _ wr => ∃ k : Nat, k ≤ g.length ∧ iv = .int .i64 k ∧ RowKit.Hid (AroTo g r k) ∧ Drawn w1 wr) (fun iv _ _ _ => g.length - (intOf iv).toNat)
  case atStart => exact ⟨0, by omega, rfl, Lib.hid (AroTo.zero g r), Drawn.refl _⟩
  case round =>
    obtain ⟨k, hk, rfl, HT, hqd⟩ := hrel
    obtain ⟨wi, rfl⟩ : ∃ wx : World, wx = wr := ⟨_, rfl⟩
    have c0' := (hqd.cell _).trans c0
    have c1' := (hqd.cell _).trans c1
    by_cases hlt : k < g.length
    case neg =>
      have HE := Lib.hid (around_true (g := g) (r := r) ⟨HG.out, HN.out, fun v hv => HT.out v (by omega)⟩)
      go_wp2
      go_ret
      exact ⟨ret_bool HE.out.symm, hq1.trans ((hqd.below w1.heap.size).mono hq1.size)⟩
    have hltr : k < r.length := by have := HN.out; omega
    have hlti : (k : Int) < g.length := by omega
    obtain ⟨k1, r1⟩ := HGC.out k hlt
    obtain ⟨k2, r2⟩ := HRC.out k hltr
    have eg : g.getD k [] = g[k] := by simp [hlt]
    have er : r.getD k [] = r[k] := by simp [hltr]
    have HEG := Lib.hid eg
    have HER := Lib.hid er
    have k1 := ((hq1.cell (cell_lt k1)).trans k1)
    have k1 := ((hqd.cell _).trans k1)
    have k2 := ((hq1.cell (cell_lt k2)).trans k2)
    have k2 := ((hqd.cell _).trans k2)
    have r1 := (r1.below hq1 (Nat.le_refl _)).drawn hqd
    have r2 := (r2.below hq1 (Nat.le_refl _)).drawn hqd
    obtain ⟨rfl, -⟩ := hga (by omega)
    obtain ⟨rfl, -⟩ := hra (by omega)
    clear eg er
    generalize hrow : g[k] = row at *
    generalize hturn : r[k] = t at *
    have HEG2 := Lib.hid (show g.getD k [] = row from HEG.out)
    have HER2 := Lib.hid (show r.getD k [] = t from HER.out)
    clear hrow hturn HEG HER
    obtain ⟨ta, tb, toff, tcap, hte, htl, hta, htc⟩ := r2
    obtain ⟨wa, wb, woff, wcap, hwe, hwl, hwa, hwc⟩ := r1
    rw [hte] at k2
    rw [hwe] at k1
    have r1 : SlI S wi .i64 (.slice wa row.length wcap) row := ⟨wa, wb, woff, wcap, rfl, hwl, hwa, hwc⟩
    have r2 : SlI S' wi .i64 (.slice ta t.length tcap) t := ⟨ta, tb, toff, tcap, rfl, htl, hta, htc⟩
    clear hte hwe
    by_cases hll : t.length = row.length
    case neg =>
      have hl0 : ((t.length : Int) != (row.length : Int)) = true := by rw [bne_iff_ne]; omega
      have HE := Lib.hid (around_false (g := g) (r := r) fun h => hll (by have := (h.turn k hlt).len; rw [HEG2.out, HER2.out] at this; exact this))
      clear hll
      go_wp2
      go_quiet (fail)
      go_wp2
      go_ret
      exact ⟨ret_bool HE.out.symm, hq1.trans (((hqd.drewN _).below w1.heap.size).mono hq1.size)⟩
    have HLL := Lib.hid hll
    have hl0 : ((t.length : Int) != (t.length : Int)) = false := by simp
    rw [← hll] at k1
    have htw : row.length = t.length := hll.symm
    rw [htw] at hwl hwa r1
    clear hll htw
    by_cases ht0 : 0 < t.length
    case neg =>
      have htn : t.length = 0 := by omega
      have HT2 := Lib.hid (HT.out.next (by rw [HEG2.out, HER2.out]; exact ⟨HLL.out, fun h => absurd h ht0, fun i hi => by omega⟩))
      have ht1 : decide ((0 : Int) < (t.length : Int)) = false := decide_eq_false (by omega)
      have ht2 : decide (0 < t.length) = false := decide_eq_false ht0
      generalize t.length = tl at *
      subst htn
      clear ht0
      go_wp2
      go_quiet (fail)
      go_wp2
      go_loopw [7] (fun iv wr => iv = .int .i64 0 ∧ Drawn w1 wr) (fun _ _ => 0)
      case atStart => exact ⟨rfl, hqd.drewN _⟩
      case round =>
        obtain ⟨rfl, hqd⟩ := hrel
        go_wp2
        go_roundw
        case rel => exact ⟨k + 1, by omega, by go_num, HT2, hqd⟩
        case measure => simp [intOf]; omega
    have hwn : 0 < row.length := by have := HLL.out; omega
    have et := htc 0 ht0
    have ew := hwc 0 hwn
    have e1' : t.getD 0 0 = t[0] := by simp [ht0]
    have e2' : row.getD 0 0 = row[0] := by simp [hwn]
    have HX1 := Lib.hid e1'
    have HX2 := Lib.hid e2'
    obtain ⟨rfl, -⟩ := hta ht0
    obtain ⟨rfl, -⟩ := hwa ht0
    have ht1 : decide ((0 : Int) < (t.length : Int)) = true := decide_eq_true (by omega)
    have ht2 : decide (0 < t.length) = true := decide_eq_true ht0
    have HT0 := Lib.hid ht0
    generalize t[0] = x at *
    generalize row[0] = y at *
    have et0 : wi.cell? ⟨tb, toff, none⟩ = some (.int .i64 x) := by simpa using et
    have ew0 : wi.cell? ⟨wb, woff, none⟩ = some (.int .i64 y) := by simpa using ew
    have ht3 : (0 : Int) < t.length := by omega
    have HTC := Lib.hid htc
    clear htc hwc hta hwa e1' e2' et ew
    cases hxy : (x != y)
    case true =>
      have HE := Lib.hid (around_false (g := g) (r := r) fun h => by
        have := (h.turn k hlt).first; rw [HEG2.out, HER2.out, HX1.out, HX2.out] at this
        have := this HT0.out
        subst this
        simp at hxy)
      go_wp2
      go_quiet (fail)
      go_wp2
      go_ret
      exact ⟨ret_bool HE.out.symm, hq1.trans (((hqd.drewN _).below w1.heap.size).mono hq1.size)⟩
    have HF := Lib.hid (show t.getD 0 0 = row.getD 0 0 by rw [HX1.out, HX2.out]; simpa using hxy)
    go_wp2
    go_quiet (fail)
    go_wp2
    go_loopw [7] (fun iv wr => ∃ i : Nat, i ≤ t.length ∧ iv = .int .i64 i ∧ RowKit.Hid (TurnTo row t i) ∧ Drawn wi wr) (fun iv _ => t.length - (intOf iv).toNat)
    case atStart => exact ⟨0, by omega, rfl, Lib.hid (fun _ h => absurd h (Nat.not_lt_zero _)), Drawn.drewN (Drawn.refl _) _⟩
    case round =>
      obtain ⟨i, hi, rfl, HU, hqj⟩ := hrel
      obtain ⟨wj, rfl⟩ : ∃ wx : World, wx = wr := ⟨_, rfl⟩
      by_cases hit : i < t.length
      case neg =>
        have HT2 := Lib.hid (HT.out.next (by rw [HEG2.out, HER2.out]; exact ⟨HLL.out, fun _ => HF.out, fun j hj => HU.out j (by omega)⟩))
        go_wp2
        go_roundw
        case rel => exact ⟨k + 1, by omega, by go_num, HT2, hqd.trans hqj⟩
        case measure => simp [intOf]; omega
      have hc := HTC.out i hit
      have hc := (hqj.cell _).trans hc
      have c0' := (hqj.cell _).trans c0'
      have k1 := (hqj.cell _).trans k1
      have hiti : (i : Int) < t.length := by omega
      have r1 := r1.drawn hqj
      have r2 := (r2.drawn hqj).take (m := i) (by omega)
      have ei : t.getD i 0 = t[i] := by simp [hit]
      have HEI := Lib.hid ei
      clear ei
      generalize t[i] = z at *
      have hh1 := fun n => l1Has_any _ _ z _ (r1.drewN n)
      have hh2 := fun n => l1Has_any _ _ z _ (r2.drewN n)
      by_cases hz1 : z ∈ row
      case neg =>
        have HE := Lib.hid (around_false (g := g) (r := r) fun h => by
          have := ((h.turn k hlt).all i (by rw [HER2.out]; exact hit)).1; rw [HEG2.out, HER2.out, HEI.out] at this; exact hz1 this)
        have hd1 := decide_eq_false hz1
        rw [hd1] at hh1
        clear hz1 hd1
        go_wp2
        go_quiet ((go_at_call 41; exact quiet_same (hh1 _)))
        go_wp2
        go_ret
        exact ⟨ret_bool HE.out.symm, hq1.trans ((((hqd.trans hqj).drewN _).below w1.heap.size).mono hq1.size)⟩
      have hd1 := decide_eq_true hz1
      rw [hd1] at hh1
      by_cases hz2 : z ∈ t.take i
      case pos =>
        have HE := Lib.hid (around_false (g := g) (r := r) fun h => by
          have := ((h.turn k hlt).all i (by rw [HER2.out]; exact hit)).2; rw [HER2.out, HEI.out] at this; exact this hz2)
        have hd2 := decide_eq_true hz2
        rw [hd2] at hh2
        clear hz1 hd1 hz2 hd2
        go_wp2
        go_quiet ((go_at_call 41; first | (with_reducible exact quiet_same (hh1 _)) | (with_reducible exact quiet_same (hh2 _)) | fail))
        go_wp2
        go_ret
        exact ⟨ret_bool HE.out.symm, hq1.trans ((((hqd.trans hqj).drewN _).below w1.heap.size).mono hq1.size)⟩
      have HU2 := Lib.hid (HU.out.next (by rw [HEI.out]; exact ⟨hz1, hz2⟩))
      have hd2 := decide_eq_false hz2
      rw [hd2] at hh2
      clear hz1 hd1 hz2 hd2
      go_wp2
      go_quiet ((go_at_call 41; first | (with_reducible exact quiet_same (hh1 _)) | (with_reducible exact quiet_same (hh2 _)) | fail))
      go_wp2
      go_roundw
      case rel => exact ⟨i + 1, by omega, by go_num, HU2, hqj.drewN _⟩
      case measure => simp [intOf]; omega
/-- A right rotation system, by its numbers. -/
def tOf (r : List (List Int)) : List (List Nat) := r.map fun l => l.map Int.toNat
theorem tOf_len (r : List (List Int)) : (tOf r).length = r.length := by simp [tOf]
theorem tOf_get (r : List (List Int)) (u : Nat) : (tOf r).getD u [] = (r.getD u []).map Int.toNat := by
  unfold tOf
  by_cases h : u < r.length
  · simp [h]
  · simp [h]
theorem turn_perm {row t : List Int} (h : TurnOk row t) : t.Nodup ∧ ∀ x, x ∈ t ↔ x ∈ row := by
  have hn : t.Nodup := nodup_takeA.2 fun i hi => (h.all i hi).2
  have h3 : ∀ x ∈ t, x ∈ row := fun x hx => by
    obtain ⟨i, hi, rfl⟩ := List.getElem_of_mem hx
    have := (h.all i hi).1
    simpa [hi] using this
  refine ⟨hn, fun x => ⟨h3 x, fun hx => Classical.byContradiction fun hno => ?_⟩⟩
  have := nodup_lenA (l := t) (E := row.erase x) hn (fun y hy => by
    rw [List.mem_erase_of_ne (fun e => hno (by rw [← e]; exact hy))]
    exact h3 y hy)
  rw [List.length_erase_of_mem hx] at this
  have := List.length_pos_of_mem hx
  have := h.len
  omega
theorem aro_row {g r : List (List Int)} (h : AroundP g r) (u : Nat) : ∀ x, x ∈ r.getD u [] ↔ x ∈ g.getD u [] := fun x => by
  by_cases hu : u < g.length
  · exact (turn_perm (h.turn u hu)).2 x
  · have e1 : g.getD u [] = [] := by simp [show g.length ≤ u by omega]
    have e2 : r.getD u [] = [] := by have := h.len; simp [show r.length ≤ u by omega]
    rw [e1, e2]
theorem aro_ge {g r : List (List Int)} (h : AroundP g r) {u : Nat} {x : Int} (hx : x ∈ r.getD u []) : 0 ≤ x ∧ x < g.length ∧ u < g.length := by
  have h1 := (aro_row h u x).1 hx
  have hu : u < g.length := by
    apply Classical.byContradiction
    intro hu
    have e1 : g.getD u [] = [] := by simp [show g.length ≤ u by omega]
    rw [e1] at h1; cases h1
  have e : g.getD u [] = g[u] := by simp [hu]
  rw [e] at h1
  have := h.gok.ge hu x h1
  exact ⟨this.1, this.2, hu⟩
theorem aro_mem {g r : List (List Int)} (h : AroundP g r) (u v : Nat) : v ∈ (tOf r).getD u [] ↔ (v : Int) ∈ g.getD u [] := by
  rw [tOf_get, List.mem_map]
  constructor
  · rintro ⟨x, hx, rfl⟩
    have := aro_ge h hx
    rw [Int.toNat_of_nonneg this.1]
    exact (aro_row h u x).1 hx
  · intro hv
    exact ⟨(v : Int), (aro_row h u _).2 hv, by simp⟩
theorem aro_eq {g r : List (List Int)} (h : AroundP g r) : r = (tOf r).map natsI := by
  apply List.ext_getElem (by simp [tOf])
  intro i h1 h2
  simp only [tOf, List.getElem_map]
  have e : r.getD i [] = r[i] := by simp [h1]
  unfold natsI
  rw [List.map_map]
  have hid : List.map ((fun n : Nat => (n : Int)) ∘ Int.toNat) r[i] = List.map id r[i] := List.map_congr_left fun x hx => by
    have := aro_ge h (u := i) (by rw [e]; exact hx)
    simp; omega
  rw [hid, List.map_id]
theorem aro_symm {g : List (List Int)} (hg : GOk g) {u v : Nat} (h : (v : Int) ∈ g.getD u []) : v < g.length ∧ (u : Int) ∈ g.getD v [] := by
  have hu : u < g.length := by
    apply Classical.byContradiction
    intro hu
    have e1 : g.getD u [] = [] := by simp [show g.length ≤ u by omega]
    rw [e1] at h; cases h
  have e : g.getD u [] = g[u] := by simp [hu]
  rw [e] at h
  have h1 := hg.ge hu _ h
  have h2 := hg.symm u hu _ h
  exact ⟨by omega, by simpa using h2⟩
theorem aro_rot {g r : List (List Int)} (h : AroundP g r) : RotN (tOf r) := by
  refine ⟨by rw [tOf_len, h.len]; exact h.gok.hi, fun u => ?_, fun u v hv => ?_⟩
  · rw [tOf_get]
    by_cases hu : u < g.length
    · have hn := (turn_perm (h.turn u hu)).1
      rw [List.Nodup, List.pairwise_map]
      refine List.Pairwise.imp_of_mem ?_ hn
      intro a b ha hb hab e
      have h1 := aro_ge h ha
      have h2 := aro_ge h hb
      omega
    · have e2 : r.getD u [] = [] := by have := h.len; simp [show r.length ≤ u by omega]
      rw [e2]; simp
  · have h1 := (aro_mem h u v).1 hv
    have h2 := aro_symm h.gok h1
    exact ⟨by rw [tOf_len, h.len]; exact h2.1, (aro_mem h v u).2 h2.2⟩
noncomputable def facesF (g r : List (List Int)) : List (List Int) := if aroundB g r = true then (facesN (tOf r)).map natsI else []
theorem facesF_small (g r : List (List Int)) : SmallR (facesF g r) 1048576 := by
  unfold facesF
  split
  · rename_i hc
    have hr := aro_rot (around_iff.1 hc)
    obtain ⟨h1, h2⟩ := facesN_small hr
    refine ⟨by rw [List.length_map]; omega, fun i hi _ => ?_⟩
    rw [List.getElem_map, natsI_len]
    have := (h2 _ (List.getElem_mem (by simpa using hi))).1
    omega
  · exact ⟨by simp, fun i hi => by simp at hi⟩
set_option maxRecDepth 100000 in
set_option maxHeartbeats 8000000 in
theorem implFacesOf_any {S S' : Nat → Prop} {gv rv : Value} {g r : List (List Int)} {w : World} (hvg : SlR S w gv g) (hvr : SlR S' w rv r) (hs : SmallR r 1048576) :
    Calls Tryz.prog 7 #[.agg #[gv], .agg #[rv]] w fun e w' => ∃ u, e = .returned u ∧ OwnR w' w.heap.size w'.heap.size 36 2 u (facesF g r) ∧ Below w.heap.size w w' := by
  have hq0 : Below w.heap.size w ((w.alloc (.cells #[gv] 26)).alloc (.cells #[rv] 28)) := ((Below.refl _ _).alloc (Nat.le_refl _) _).alloc (by simp) _
  obtain ⟨ga, gc, rfl⟩ := hvg.slice
  obtain ⟨ra, rc, rfl⟩ := hvr.slice
  have hao := implAroundOk_any (hvg.below hq0 (Nat.le_refl _)) (hvr.below hq0 (Nat.le_refl _)) (fun x hx => by
    obtain ⟨i, hi, rfl⟩ := List.getElem_of_mem hx
    have := hs.2 i hi hi; omega)
  by_cases ha : aroundB g r = true
  case neg =>
    have HE := Lib.hid (show facesF g r = [] by rw [facesF, if_neg ha])
    rw [Bool.not_eq_true] at ha
    rw [ha] at hao
    clear ha
    rw [HE.out]
    go_enter Tryz.func7, Tryz.ntmps7
    go_wp2_with fail
    refine hao.mono ?_
    rintro e w1 ⟨rfl, hb1⟩
    go_wp2
    go_ret
    exact ⟨_, rfl, ⟨[], rfl, Own.nil _ _ _ _, fun b hb => by simp [Value.ownBlock] at hb, ApartL.nil, fun i hi => by simp at hi⟩, hq0.trans (hb1.mono hq0.size)⟩
  have hP := around_iff.1 ha
  have HE := Lib.hid (show facesF g r = (facesN (tOf r)).map natsI by rw [facesF, if_pos ha])
  rw [ha] at hao
  rw [HE.out]
  have HRT := Lib.hid (aro_rot hP)
  have HEQ := Lib.hid (aro_eq hP)
  clear ha hP
  go_enter Tryz.func7, Tryz.ntmps7
  go_wp2_with fail
  refine hao.mono ?_
  rintro e w1 ⟨rfl, hb1⟩
  have hq1 := hq0.trans (hb1.mono hq0.size)
  have c1 : w1.cell? ⟨w.heap.size + 1, 0, none⟩ = some (.slice ra r.length rc) := (hb1.cell (p := ⟨w.heap.size + 1, 0, none⟩) (by simp)).trans (by simp [go_sem])
  have htn := turnsOf_any (hvr.below hq1 (Nat.le_refl _)) hs
  clear hao
  go_wp2_with fail
  refine htn.mono ?_
  rintro e w2 ⟨tu, rfl, htu, hb2⟩
  clear htn
  have hq2 := hq1.trans (hb2.mono hq1.size)
  have htr := htu.rows hs
  rw [HEQ.out] at htr
  have hfa := faces_any HRT.out htr
  go_wp2_with fail
  refine hfa.mono ?_
  rintro e w3 ⟨fu, mb, rfl, hfu, hb3⟩
  clear hfa htr htu
  have hq3 := hq2.trans (hb3.mono hq2.size)
  have hsm := facesN_small HRT.out
  have hfr := hfu.rows (g := (facesN (tOf r)).map natsI) ⟨by rw [List.length_map]; omega, fun i hi _ => by
    rw [List.getElem_map, natsI_len]
    have := (hsm.2 _ (List.getElem_mem (by simpa using hi))).1
    omega⟩
  have hF256 := hsm.1
  have HSM := Lib.hid hsm.2
  generalize hFe : facesN (tOf r) = F at *
  have HFE := Lib.hid hFe
  clear hfu hsm hFe
  obtain ⟨fa, fb, foff, fcap, ff, rfl, hfl, hfa, hfc⟩ := hfr
  rw [List.length_map] at *
  have HFC := Lib.hid hfc
  have hq4 : Below w.heap.size w (w3.alloc (.cells #[] 36)) := hq3.alloc hq3.size _
  have hb34 : Below w3.heap.size w3 (w3.alloc (.cells #[] 36)) := (Below.refl _ _).alloc (Nat.le_refl _) _
  have hq3s := hq3.size
  have hR0 : OwnR (w3.alloc (.cells #[] 36)) w3.heap.size (w3.alloc (.cells #[] 36)).heap.size 36 2 (.slice (some ⟨w3.heap.size, 0, none⟩) 0 0) [] := by
    refine ⟨[], rfl, ?_, fun b hb => by simp [Value.ownBlock] at hb; simp; omega, ApartL.nil, fun i hi => by simp at hi⟩
    have := World.ownsRow_lit (base := w3.heap.size) (e := 36) (size := 1) w3 #[] 0 (by omega) (by unfold maxLen; omega) rfl
    simpa [Own] using this
  clear hfc
  go_wp2
  go_loopw [23, 7] (fun i o wr => ∃ k : Nat, k ≤ F.length ∧ i = .int .i64 k ∧ OwnR wr w3.heap.size wr.heap.size 36 2 o ((F.take k).map natsI) ∧ Below w3.heap.size w3 wr) (fun i _ _ => F.length - (intOf i).toNat)
  case atStart => exact ⟨0, Nat.zero_le _, rfl, hR0, hb34⟩
  case round =>
    clear hR0 hq4 hb34
    obtain ⟨k, hk, rfl, hR, hq⟩ := hrel
    obtain ⟨wi, rfl⟩ : ∃ wx : World, wx = wr := ⟨_, rfl⟩
    by_cases hlt : k < F.length
    case neg =>
      obtain rfl : k = F.length := by omega
      rw [List.take_length] at hR
      go_wp2
      go_ret
      exact ⟨_, rfl, by rw [HFE.out]; exact hR.weaken hq3s (Nat.le_refl _), hq3.trans (hq.mono hq3s)⟩
    obtain ⟨k2, r2⟩ := HFC.out k (by rw [List.length_map]; exact hlt)
    rw [List.getElem_map] at r2
    have hk20 := (HSM.out _ (List.getElem_mem hlt)).1
    have k2 := (hq.cell (cell_lt k2)).trans k2
    have hwd := wide_any (r2.below hq (Nat.le_refl _)) (by rw [natsI_len]; omega)
    have HT := Lib.hid (show (F.take (k + 1)).map natsI = (F.take k).map natsI ++ [natsI F[k]] by rw [List.take_succ_eq_append_getElem hlt, List.map_append]; rfl)
    obtain ⟨rfl, -⟩ := hfa (by omega)
    have hB := hq.size
    have hlti : (k : Int) < F.length := by omega
    generalize F[k] = row at *
    generalize ff k = rk at *
    clear r2
    go_wp2_with fail
    refine hwd.mono ?_
    rintro e w4 ⟨u2, rfl, hu2, hb4⟩
    clear hwd
    have hq4 := hq.trans (hb4.mono hB)
    have hB4 := hq4.size
    obtain ⟨vs, hvl, hown, hbC, hap, hrows⟩ := hR
    rw [List.length_map, List.length_take, Nat.min_eq_left hk] at hvl hown
    have hown2 := hown.below hb4 (Nat.le_refl _)
    have hrows2 : ∀ i (h : i < ((F.take k).map natsI).length) (h2 : i < vs.length), Own w4 w3.heap.size 2 1 vs[i] ((F.take k).map natsI)[i].length (((F.take k).map natsI)[i].map (.int .i64)) ∧ (∀ b, vs[i].ownBlock = some b → b < wi.heap.size ∧ _) := fun i h h2 => ⟨(hrows i h h2).1.below hb4 (Nat.le_refl _), (hrows i h h2).2⟩
    have hgeu := fun b hb => (hu2.lt b hb).1
    have hu2 := hu2.weak (B' := w3.heap.size) (by omega)
    have hbs2 := hb4.size
    obtain ⟨ua, uc, rfl⟩ := hu2.isSlice
    obtain ⟨oa, oc, rfl⟩ := hown2.isSlice
    clear hrows hown
    go_wp2_with (at_builtin; refine wpList_append1 elRows rfl _ _ rfl hown2 rfl (by first | rfl | simp) rfl (by omega) (by omega) ?_; intro o5 w5 hown5 hkept hmv)
    have hR5 : OwnR w5 w3.heap.size w5.heap.size 36 2 o5 ((F.take k).map natsI ++ [natsI row]) := ownR_snoc (by rw [List.length_map, List.length_take, Nat.min_eq_left hk]; exact hvl) hbs2 hap hrows2 hbC (by rw [List.length_map, List.length_take, Nat.min_eq_left hk]; exact hown5) hu2 hgeu hkept (by
      rcases hmv with h | h
      · exact .inl h
      · exact .inr ⟨_, h, by simp⟩)
    have hq5 : Below w3.heap.size w3 w5 := hkept.below hq4 hq4.size (fun c h => (hown2.lt c h).1)
    go_roundw
    case rel => exact ⟨k + 1, by omega, by go_num, by rw [HT.out]; exact hR5, hq5⟩
    case measure => simp [intOf]; omega
set_option maxHeartbeats 4000000 in
theorem specFacesOf_any {S S' : Nat → Prop} {gv rv : Value} {g r : List (List Int)} {w : World} (hvg : SlR S w gv g) (hvr : SlR S' w rv r) :
    Calls Tryz.prog 8 #[.agg #[gv], .agg #[rv]] w fun e w' => ∃ u, e = .returned u ∧ SlR (fun b => b < w'.heap.size) w' u (facesF g r) ∧ Below w.heap.size w w' := by
  have hq0 : Below w.heap.size w ((w.alloc (.cells #[gv] 26)).alloc (.cells #[rv] 28)) := ((Below.refl _ _).alloc (Nat.le_refl _) _).alloc (by simp) _
  obtain ⟨ga, gc, rfl⟩ := hvg.slice
  obtain ⟨ra, rc, rfl⟩ := hvr.slice
  have hao := specAroundOk_any (hvg.below hq0 (Nat.le_refl _)) (hvr.below hq0 (Nat.le_refl _))
  by_cases ha : aroundB g r = true
  case neg =>
    have HE := Lib.hid (show facesF g r = [] by rw [facesF, if_neg ha])
    rw [Bool.not_eq_true] at ha
    rw [ha] at hao
    clear ha
    rw [HE.out]
    go_enter Tryz.func8, Tryz.ntmps8
    go_wp2_with fail
    refine hao.mono ?_
    rintro e w1 ⟨rfl, hb1⟩
    have hq1 := hq0.trans (hb1.mono hq0.size)
    go_wp2
    go_ret
    exact ⟨_, rfl, ⟨_, w1.heap.size, 0, 0, fun _ => undef, rfl, by simp, fun h => by simp at h, fun i hi => by simp at hi⟩, hq1.alloc hq1.size _⟩
  have hP := around_iff.1 ha
  have HE := Lib.hid (show facesF g r = (facesN (tOf r)).map natsI by rw [facesF, if_pos ha])
  have HSM := Lib.hid (facesF_small g r)
  rw [ha] at hao
  have HRT := Lib.hid (aro_rot hP)
  have HEQ := Lib.hid (aro_eq hP)
  have HL0 := Lib.hid (show 0 < (tOf r).length by rw [tOf_len, hP.len]; exact hP.gok.lo)
  clear ha hP
  go_enter Tryz.func8, Tryz.ntmps8
  go_wp2_with fail
  refine hao.mono ?_
  rintro e w1 ⟨rfl, hb1⟩
  have hq1 := hq0.trans (hb1.mono hq0.size)
  have c1 : w1.cell? ⟨w.heap.size + 1, 0, none⟩ = some (.slice ra r.length rc) := (hb1.cell (p := ⟨w.heap.size + 1, 0, none⟩) (by simp)).trans (by simp [go_sem])
  have htr := hvr.below hq1 (Nat.le_refl _)
  rw [show SlR S' w1 (.slice ra r.length rc) r = SlR S' w1 (.slice ra r.length rc) ((tOf r).map natsI) by rw [← HEQ.out]] at htr
  have hfa := l22Faces_any HRT.out HL0.out htr
  clear hao
  go_wp2_with fail
  refine hfa.mono ?_
  rintro e w2 ⟨fu, rfl, hfu, hb2⟩
  go_wp2
  go_ret
  refine ⟨_, rfl, ?_, hq1.trans (hb2.mono hq1.size)⟩
  rw [← HE.out] at hfu
  exact (hfu.rows HSM.out).weak fun b hb => hb.2
