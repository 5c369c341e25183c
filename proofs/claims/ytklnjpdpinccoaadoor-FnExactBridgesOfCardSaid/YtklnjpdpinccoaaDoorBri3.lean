/- Bridges of the reference; both, and the law. -/
import Derived.Test.YtklnjpdpinccoaaDoorBri2
namespace Go.Proofs.YtklnjpdpinccoaaDoor
open Go.RowKit
noncomputable def brRow (g : List (List Int)) (k : Nat) (row : List Int) : List (List Int) := (edgeRow k row).filter (isBr g)
noncomputable def brTo (g : List (List Int)) (k : Nat) : List (List Int) := (edgesTo g k).filter (isBr g)
theorem brTo_all (g : List (List Int)) : brTo g g.length = bridgesL g := rfl
theorem brTo_succ {g : List (List Int)} {k : Nat} (hk : k < g.length) : brTo g (k + 1) = brTo g k ++ brRow g k g[k] := by
  have e : g.getD k [] = g[k] := by simp [hk]
  unfold brTo brRow
  rw [edgesTo, List.filter_append, e]
theorem brRow_yes {g : List (List Int)} {k j : Nat} {row : List Int} (hj : j < row.length) (h : (k : Int) < row[j]) (hb : isBr g [(k : Int), row[j]] = true) : brRow g k (row.take (j + 1)) = brRow g k (row.take j) ++ [[(k : Int), row[j]]] := by
  unfold brRow
  rw [edgeRow_yes hj h, List.filter_append]; simp only [List.filter_cons, hb, if_true, List.filter_nil]
theorem brRow_not {g : List (List Int)} {k j : Nat} {row : List Int} (hj : j < row.length) (h : (k : Int) < row[j]) (hb : isBr g [(k : Int), row[j]] = false) : brRow g k (row.take (j + 1)) = brRow g k (row.take j) := by
  unfold brRow
  rw [edgeRow_yes hj h, List.filter_append]; simp only [List.filter_cons, hb, Bool.false_eq_true, if_false, List.filter_nil, List.append_nil]
theorem brRow_no {g : List (List Int)} {k j : Nat} {row : List Int} (hj : j < row.length) (h : ¬ (k : Int) < row[j]) : brRow g k (row.take (j + 1)) = brRow g k (row.take j) := by
  unfold brRow
  rw [edgeRow_no hj h]
theorem brTo_len {g : List (List Int)} (hg : GOk g) {k : Nat} (hk : k ≤ g.length) : (brTo g k).length ≤ 32 * k := Nat.le_trans (List.length_filter_le _ _) (edgesTo_len hg k hk)
theorem brRow_len (g : List (List Int)) (k : Nat) (row : List Int) : (brRow g k row).length ≤ row.length := Nat.le_trans (List.length_filter_le _ _) (edgeRow_len k row)
theorem range_bits {n : Nat} (hn : n ≤ 16) : rangeI n = bitsI (firstN n) := sorted_ext (rangeI_sorted _) (bitsI_sorted _) fun x => by rw [mem_bits_firstN hn, mem_rangeI]
theorem meet4B {α β γ δ : Type} {H G : α → β → γ → δ → Prop} {R : Prop} (rest : ∀ a b c d, H a b c d → G a b c d) (orders : (∀ a b c d, H a b c d → G a b c d) → R) : R := orders rest
set_option maxRecDepth 100000 in
set_option maxHeartbeats 8000000 in
theorem l19Bridges_any {S : Nat → Prop} {v : Value} {g : List (List Int)} {w : World} (hg : GOk g) (hv : SlR S w v g) :
    Calls Tryd.prog 46 #[.agg #[v]] w fun e w' => ∃ u, e = .returned u ∧ OwnR w' w.heap.size w'.heap.size 34 2 u (bridgesL g) ∧ Below w.heap.size w w' := by
  have h16 := hg.hi
  have HG := Lib.hid hg
  have hgb := fun (W : World) (hb : Below w.heap.size w W) => hv.below hb (Nat.le_refl _)
  obtain ⟨a, b, off, cap, fr, rfl, hl, ha, hc0⟩ := hv
  have hq0 : Below w.heap.size w ((w.alloc (.cells #[.slice a g.length cap] 27)).alloc (.cells #[] 34)) := ((Below.refl _ _).alloc (Nat.le_refl _) _).alloc (by simp) _
  have hR0 : OwnR ((w.alloc (.cells #[.slice a g.length cap] 27)).alloc (.cells #[] 34)) (w.heap.size + 1) ((w.alloc (.cells #[.slice a g.length cap] 27)).alloc (.cells #[] 34)).heap.size 34 2 (.slice (some ⟨w.heap.size + 1, 0, none⟩) 0 0) (brTo g 0) := by
    have ho0 : Own ((w.alloc (.cells #[.slice a g.length cap] 27)).alloc (.cells #[] 34)) (w.heap.size + 1) 34 1 (.slice (some ⟨w.heap.size + 1, 0, none⟩) 0 0) 0 [] := by
      have := World.ownsRow_lit (base := w.heap.size + 1) (e := 34) (size := 1) (w.alloc (.cells #[.slice a g.length cap] 27)) #[] 0 (by simp) (by unfold maxLen; omega) rfl
      simpa [Own] using this
    exact ⟨[], rfl, ho0, fun b hb => (ho0.lt b hb).2, ApartL.nil, fun i hi => by simp [brTo, edgesTo] at hi⟩
  go_enter Tryd.func46, Tryd.ntmps46
  go_wp2
  go_loopw [3, 4] (fun o i wr => ∃ k : Nat, k ≤ g.length ∧ i = .int .i64 k ∧ OwnR wr (w.heap.size + 1) wr.heap.size 34 2 o (brTo g k) ∧ Below w.heap.size w wr ∧ wr.cell? ⟨w.heap.size, 0, none⟩ = some (.slice a g.length cap)) (fun _ i _ => g.length - (intOf i).toNat)
  case atStart => exact ⟨0, Nat.zero_le _, rfl, hR0, hq0, by simp [go_sem]⟩
  case round =>
    clear hR0 hq0
    obtain ⟨k, hk, rfl, hR, hq, hbx⟩ := hrel
    obtain ⟨oa, oc, rfl⟩ := hR.isSlice
    by_cases hlt : k < g.length
    case neg =>
      obtain rfl : k = g.length := by omega
      rw [brTo_all] at hR
      go_wp2
      go_ret
      exact ⟨_, rfl, by rw [brTo_all]; exact hR.weaken (by omega) (Nat.le_refl _), hq⟩
    obtain ⟨hcell2, hrow⟩ := hc0 k hlt
    obtain ⟨rfl, -⟩ := ha (by omega)
    have HST := Lib.hid (brTo_succ hlt)
    have hEl := brTo_len HG.out (show k ≤ g.length by omega)
    have hrl := HG.out.rowlenS hlt
    have hmem : ∀ z ∈ g[k], 0 ≤ z ∧ z < g.length := HG.out.ge hlt
    have HMEM := Lib.hid hmem
    have HEDG := Lib.hid (fun (z : Nat) (h : (z : Int) ∈ g[k]) => HG.out.symD hlt (v := z) (by rw [show g.getD k [] = g[k] by simp [hlt]]; exact h))
    clear hmem
    generalize brTo g k = E at *
    generalize g[k] = row at *
    obtain ⟨ra, rb, ro, rc, hre, hrlc, hra, hrc⟩ := hrow
    rw [hre] at hcell2
    have hcx := (hq.cell (p := ⟨b, off + k, none⟩) (cell_lt hcell2)).trans hcell2
    have hR1 : OwnR wr (w.heap.size + 1) wr.heap.size 34 2 (.slice oa E.length oc) (E ++ brRow g k (row.take 0)) := by simpa [brRow, edgeRow] using hR
    clear hR hre
    go_wp2
    go_loopw [3, 5] (fun o i wr => ∃ j : Nat, j ≤ row.length ∧ i = .int .i64 j ∧ OwnR wr (w.heap.size + 1) wr.heap.size 34 2 o (E ++ brRow g k (row.take j)) ∧ Below w.heap.size w wr ∧ wr.cell? ⟨w.heap.size, 0, none⟩ = some (.slice (some ⟨b, off, none⟩) g.length cap)) (fun _ i _ => row.length - (intOf i).toNat)
    case atStart => exact ⟨0, Nat.zero_le _, rfl, hR1, hq, hbx⟩
    case round =>
      clear hR1 hq hbx hcx
      obtain ⟨wi, rfl⟩ : ∃ wx : World, wx = wr := ⟨_, rfl⟩
      obtain ⟨j, hj, rfl, hR, hq, hbx⟩ := hrel
      have hcx := (hq.cell (p := ⟨b, off + k, none⟩) (cell_lt hcell2)).trans hcell2
      by_cases hjl : j < row.length
      case neg =>
        obtain rfl : j = row.length := by omega
        rw [List.take_length] at hR
        go_wp2
        go_roundw
        case rel => exact ⟨k + 1, by omega, by go_num, by rw [HST.out]; exact hR, hq, hbx⟩
        case measure => simp [intOf]; omega
      have hcr := hrc j hjl
      obtain ⟨rfl, -⟩ := hra (by omega)
      have hcz := (hq.cell (p := ⟨rb, ro + j, none⟩) (cell_lt hcr)).trans hcr
      obtain ⟨z, hz⟩ := Int.eq_ofNat_of_zero_le (HMEM.out _ (List.getElem_mem hjl)).1
      have hzn := HEDG.out z (by rw [← hz]; exact List.getElem_mem hjl)
      by_cases hgt : k < z
      case neg =>
        have HE := Lib.hid (show E ++ brRow g k (row.take (j + 1)) = E ++ brRow g k (row.take j) by rw [brRow_no hjl (by rw [hz]; omega)])
        rw [hz] at hcz hcr
        have hx1 : decide ((k : Int) < (z : Int)) = false := decide_eq_false (by omega)
        have hx2 : decide (k < z) = false := decide_eq_false (by omega)
        generalize E ++ brRow g k (row.take j) = F at *
        obtain ⟨oa2, oc2, rfl⟩ := hR.isSlice
        clear hz
        go_wp2
        refine wp_region_held_drew (S := (fun w' => w'.cell? ⟨w.heap.size, 0, none⟩ = some (.slice (some ⟨b, off, none⟩) g.length cap))) (by kernel_rfl) ?_ (fun hHeld => ?_)
        · first | assumption | (simp [*, go_sem])
        have hdb := (Below.refl wi.heap.size wi).drew
        have hR2 := (hR.below hdb (Nat.le_refl _))
        have hq2 := hq.drew
        have hsz : wi.drew.heap.size = wi.heap.size := rfl
        rw [← hsz] at hR2
        generalize wi.drew = wd at hR2 hq2 hHeld ⊢
        have hbx2 := hHeld
        refine wpAnyH_take (i := 0) (v := ?v1) (by simp only [List.getElem?_toArray, List.getElem?_cons_zero]; exact rfl) (by kernel_rfl) (by kernel_rfl) (by kernel_rfl) (by intro _ _ _ h; exact h) (Or.inl ⟨by rfl, ?y1⟩) hHeld ?_
        case y1 => (intro w hSw; (try dsimp only at hSw); go_simp; try (with_reducible rfl))
        try simp only [Act.put, List.setIfInBounds_toArray, List.set_cons_zero, List.set_cons_succ]
        refine wpAnyH_take (i := 1) (v := ?v2) (by simp only [List.getElem?_toArray, List.getElem?_cons_succ, List.getElem?_cons_zero]; exact rfl) (by kernel_rfl) (by kernel_rfl) (by kernel_rfl) (by intro _ _ _ h; exact h) (Or.inl ⟨by rfl, ?y2⟩) hHeld ?_
        case y2 => (intro w hSw; (try dsimp only at hSw); go_simp; try (with_reducible rfl))
        try simp only [Act.put, List.setIfInBounds_toArray, List.set_cons_zero, List.set_cons_succ]
        refine wpAnyH_take (i := 2) (v := ?v3) (by simp only [List.getElem?_toArray, List.getElem?_cons_succ, List.getElem?_cons_zero]; exact rfl) (by kernel_rfl) (by kernel_rfl) (by kernel_rfl) (by intro _ _ _ h; exact h) (Or.inl ⟨by rfl, ?y3⟩) hHeld ?_
        case y3 => (intro w hSw; (try dsimp only at hSw); go_simp; try (with_reducible rfl))
        try simp only [Act.put, List.setIfInBounds_toArray, List.set_cons_zero, List.set_cons_succ]
        refine wpAnyH_take (i := 3) (v := ?v4) (by simp only [List.getElem?_toArray, List.getElem?_cons_succ, List.getElem?_cons_zero]; exact rfl) (by kernel_rfl) (by kernel_rfl) (by kernel_rfl) (by intro _ _ _ h; exact h) (Or.inl ⟨by rfl, ?y4⟩) hHeld ?_
        case y4 => (intro w hSw; (try dsimp only at hSw); go_simp; try (with_reducible rfl))
        try simp only [Act.put, List.setIfInBounds_toArray, List.set_cons_zero, List.set_cons_succ]
        refine wpAnyH_take (i := 4) (by simp only [List.getElem?_toArray, List.getElem?_cons_succ, List.getElem?_cons_zero]; exact rfl) (by kernel_rfl) (by kernel_rfl) (by kernel_rfl) (by intro _ _ _ h; exact h) (Or.inr ⟨by rfl, rfl⟩) hHeld ?_
        try simp only [Act.put, List.setIfInBounds_toArray, List.set_cons_zero, List.set_cons_succ]
        refine wpAnyH_take (i := 5) (by simp only [List.getElem?_toArray, List.getElem?_cons_succ, List.getElem?_cons_zero]; exact rfl) (by kernel_rfl) (by kernel_rfl) (by kernel_rfl) (by intro _ _ _ h; exact h) (Or.inr ⟨by rfl, rfl⟩) hHeld ?_
        try simp only [Act.put, List.setIfInBounds_toArray, List.set_cons_zero, List.set_cons_succ]
        refine wpAnyH_take (i := 6) (by simp only [List.getElem?_toArray, List.getElem?_cons_succ, List.getElem?_cons_zero]; exact rfl) (by kernel_rfl) (by kernel_rfl) (by kernel_rfl) (by intro _ _ _ h; exact h) (Or.inr ⟨by rfl, rfl⟩) hHeld ?_
        try simp only [Act.put, List.setIfInBounds_toArray, List.set_cons_zero, List.set_cons_succ]
        refine wpAnyH_take (i := 7) (by simp only [List.getElem?_toArray, List.getElem?_cons_succ, List.getElem?_cons_zero]; exact rfl) (by kernel_rfl) (by kernel_rfl) (by kernel_rfl) (by intro _ _ _ h; exact h) (Or.inr ⟨by rfl, rfl⟩) hHeld ?_
        try simp only [Act.put, List.setIfInBounds_toArray, List.set_cons_zero, List.set_cons_succ]
        refine wpAnyH_take (i := 8) (by simp only [List.getElem?_toArray, List.getElem?_cons_succ, List.getElem?_cons_zero]; exact rfl) (by kernel_rfl) (by kernel_rfl) (by kernel_rfl) (by intro _ _ _ h; exact h) (Or.inr ⟨by rfl, rfl⟩) hHeld ?_
        try simp only [Act.put, List.setIfInBounds_toArray, List.set_cons_zero, List.set_cons_succ]
        refine wpAnyH_take (i := 9) (by simp only [List.getElem?_toArray, List.getElem?_cons_succ, List.getElem?_cons_zero]; exact rfl) (by kernel_rfl) (by kernel_rfl) (by kernel_rfl) (by intro _ _ _ h; exact h) (Or.inr ⟨by rfl, rfl⟩) hHeld ?_
        try simp only [Act.put, List.setIfInBounds_toArray, List.set_cons_zero, List.set_cons_succ]
        refine wpAnyH_take (i := 10) (by simp only [List.getElem?_toArray, List.getElem?_cons_succ, List.getElem?_cons_zero]; exact rfl) (by kernel_rfl) (by kernel_rfl) (by kernel_rfl) (by intro _ _ _ h; exact h) (Or.inr ⟨by rfl, rfl⟩) hHeld ?_
        try simp only [Act.put, List.setIfInBounds_toArray, List.set_cons_zero, List.set_cons_succ]
        refine wpAnyH_take (i := 11) (by simp only [List.getElem?_toArray, List.getElem?_cons_succ, List.getElem?_cons_zero]; exact rfl) (by kernel_rfl) (by kernel_rfl) (by kernel_rfl) (by intro _ _ _ h; exact h) (Or.inr ⟨by rfl, rfl⟩) hHeld ?_
        try simp only [Act.put, List.setIfInBounds_toArray, List.set_cons_zero, List.set_cons_succ]
        refine wpAnyH_take (i := 12) (by simp only [List.getElem?_toArray, List.getElem?_cons_succ, List.getElem?_cons_zero]; exact rfl) (by kernel_rfl) (by kernel_rfl) (by kernel_rfl) (by intro _ _ _ h; exact h) (Or.inr ⟨by rfl, rfl⟩) hHeld ?_
        try simp only [Act.put, List.setIfInBounds_toArray, List.set_cons_zero, List.set_cons_succ]
        refine wpAnyH_take (i := 13) (by simp only [List.getElem?_toArray, List.getElem?_cons_succ, List.getElem?_cons_zero]; exact rfl) (by kernel_rfl) (by kernel_rfl) (by kernel_rfl) (by intro _ _ _ h; exact h) (Or.inr ⟨by rfl, rfl⟩) hHeld ?_
        try simp only [Act.put, List.setIfInBounds_toArray, List.set_cons_zero, List.set_cons_succ]
        refine wpAnyH_take (i := 14) (by simp only [List.getElem?_toArray, List.getElem?_cons_succ, List.getElem?_cons_zero]; exact rfl) (by kernel_rfl) (by kernel_rfl) (by kernel_rfl) (by intro _ _ _ h; exact h) (Or.inr ⟨by rfl, rfl⟩) hHeld ?_
        try simp only [Act.put, List.setIfInBounds_toArray, List.set_cons_zero, List.set_cons_succ]
        refine wpAnyH_take (i := 15) (v := ?v16) (by simp only [List.getElem?_toArray, List.getElem?_cons_succ, List.getElem?_cons_zero]; exact rfl) (by kernel_rfl) (by kernel_rfl) (by kernel_rfl) (by intro _ _ _ h; exact h) (Or.inl ⟨by rfl, ?y16⟩) hHeld ?_
        case y16 => (intro w hSw; (try dsimp only at hSw); go_simp; try (with_reducible rfl))
        try simp only [Act.put, List.setIfInBounds_toArray, List.set_cons_zero, List.set_cons_succ]
        refine wpAnyH_done (by kernel_rfl) ?_ _
        go_wp2
        go_roundw
        case rel => exact ⟨j + 1, by omega, by go_num, by rw [HE.out]; exact hR2, hq2, hbx2⟩
        case measure => simp [intOf]; omega
      have hx1 : decide ((k : Int) < (z : Int)) = true := decide_eq_true (by omega)
      have hx2 : decide (k < z) = true := decide_eq_true hgt
      have HYES := Lib.hid (fun (h : isBr g [(k : Int), (z : Int)] = true) => show E ++ brRow g k (row.take (j + 1)) = (E ++ brRow g k (row.take j)) ++ [[(k : Int), (z : Int)]] by rw [brRow_yes hjl (by rw [hz]; omega) (by rw [hz]; exact h), hz, List.append_assoc])
      have HNOT := Lib.hid (fun (h : isBr g [(k : Int), (z : Int)] = false) => show E ++ brRow g k (row.take (j + 1)) = E ++ brRow g k (row.take j) by rw [brRow_not hjl (by rw [hz]; omega) (by rw [hz]; exact h)])
      have hel := brRow_len g k (row.take j)
      have htl : (row.take j).length ≤ row.length := by simp; omega
      have hEE : (E ++ brRow g k (row.take j)).length ≤ 1000 := by rw [List.length_append]; omega
      rw [hz] at hcz hcr
      have hcut := fun (W : World) (hb : Below w.heap.size w W) => l19Cut_any (u := k) (z := z) HG.out (hgb W hb) hlt hzn.1 (by omega)
      have hall := fun (W : World) (hb : Below w.heap.size w W) => l16All_any _ _ W (hgb W hb) (by omega)
      have hGL := cutG_len g k z
      have hGok := cutG_ok HG.out hlt hzn.1
      have hF2 : firstN g.length < 2 ^ g.length := by unfold firstN; have := Nat.two_pow_pos g.length; omega
      have hIB := Lib.hid (show isBr g [(k : Int), (z : Int)] = !(reachN (adjN (netsL (cutG g k z)) false) (firstN g.length) k).testBit z by
        rw [netsL_cutG HG.out, show adjN (cutN (netsL g) k z) false = cutN (netsL g) k z by simp [adjN]]; rfl)
      have hrch := fun (W : World) (x y : Value) (h1 : SlR (fun _ => True) W x (cutG g k z)) (h2 : SlI (fun _ => True) W .i64 y (bitsI (firstN g.length))) => l16Reach_any (t := false) (f := k) (s := firstN g.length) hGok h1 h2 (by rw [hGL]; exact hF2) (by rw [hGL]; exact hlt)
      have hRL := reachN_lt (adjN (netsL (cutG g k z)) false) (firstN g.length) k
      rw [range_bits h16] at hall
      generalize reachN (adjN (netsL (cutG g k z)) false) (firstN g.length) k = R at *
      generalize cutG g k z = G at *
      generalize E ++ brRow g k (row.take j) = F at *
      obtain ⟨oa2, oc2, rfl⟩ := hR.isSlice
      have hdm : decide ((z : Int) ∈ bitsI R) = R.testBit z := by
        rw [Bool.eq_iff_iff, decide_eq_true_eq, mem_bitsI hRL, Int.toNat_natCast]
        exact ⟨fun h => h.2, fun h => ⟨by omega, h⟩⟩
      have hhas := fun (W : World) (r : Value) (h : SlI (fun b => r.ownBlock = some b) W .i64 r (bitsI R)) => l1Has_any _ _ (z : Int) W h
      rw [hdm] at hhas
      generalize R.testBit z = bb at *
      clear hz hGok hGL hel htl hdm
      go_wp2
      apply meet4B (H := fun (_ _ _ : Value) (w1 : World) => OwnR w1 (w.heap.size + 1) w1.heap.size 34 2 (.slice oa2 F.length oc2) F ∧ Below w.heap.size w w1 ∧ w1.cell? ⟨w.heap.size, 0, none⟩ = some (.slice (some ⟨b, off, none⟩) g.length cap))
      case orders =>
        intro rest
        refine wp_region_held_drew (S := (fun w' => w'.cell? ⟨w.heap.size, 0, none⟩ = some (.slice (some ⟨b, off, none⟩) g.length cap))) (by kernel_rfl) ?_ (fun hHeld => ?_)
        · first | assumption | (simp [*, go_sem])
        have hdb := (Below.refl wi.heap.size wi).drew
        have hR2 := (hR.below hdb (Nat.le_refl _))
        have hq2 := hq.drew
        have hsz : wi.drew.heap.size = wi.heap.size := rfl
        rw [← hsz] at hR2
        clear hsz
        generalize wi.drew = wd at hR2 hq2 hHeld ⊢
        have hbx2 := hHeld
        refine wpAnyH_take (i := 0) (v := ?v17) (by simp only [List.getElem?_toArray, List.getElem?_cons_zero]; exact rfl) (by kernel_rfl) (by kernel_rfl) (by kernel_rfl) (by intro _ _ _ h; exact h) (Or.inl ⟨by rfl, ?y17⟩) hHeld ?_
        case y17 => (intro w hSw; (try dsimp only at hSw); go_simp; try (with_reducible rfl))
        try simp only [Act.put, List.setIfInBounds_toArray, List.set_cons_zero, List.set_cons_succ]
        refine wpAnyH_take (i := 1) (v := ?v18) (by simp only [List.getElem?_toArray, List.getElem?_cons_succ, List.getElem?_cons_zero]; exact rfl) (by kernel_rfl) (by kernel_rfl) (by kernel_rfl) (by intro _ _ _ h; exact h) (Or.inl ⟨by rfl, ?y18⟩) hHeld ?_
        case y18 => (intro w hSw; (try dsimp only at hSw); go_simp; try (with_reducible rfl))
        try simp only [Act.put, List.setIfInBounds_toArray, List.set_cons_zero, List.set_cons_succ]
        refine wpAnyH_take (i := 2) (v := ?v19) (by simp only [List.getElem?_toArray, List.getElem?_cons_succ, List.getElem?_cons_zero]; exact rfl) (by kernel_rfl) (by kernel_rfl) (by kernel_rfl) (by intro _ _ _ h; exact h) (Or.inl ⟨by rfl, ?y19⟩) hHeld ?_
        case y19 => (intro w hSw; (try dsimp only at hSw); go_simp; try (with_reducible rfl))
        try simp only [Act.put, List.setIfInBounds_toArray, List.set_cons_zero, List.set_cons_succ]
        refine wpAnyH_take (i := 3) (v := ?v20) (by simp only [List.getElem?_toArray, List.getElem?_cons_succ, List.getElem?_cons_zero]; exact rfl) (by kernel_rfl) (by kernel_rfl) (by kernel_rfl) (by intro _ _ _ h; exact h) (Or.inl ⟨by rfl, ?y20⟩) hHeld ?_
        case y20 => (intro w hSw; (try dsimp only at hSw); go_simp; try (with_reducible rfl))
        try simp only [Act.put, List.setIfInBounds_toArray, List.set_cons_zero, List.set_cons_succ]
        refine wpAnyH_take (i := 4) (v := ?v21) (by simp only [List.getElem?_toArray, List.getElem?_cons_succ, List.getElem?_cons_zero]; exact rfl) (by kernel_rfl) (by kernel_rfl) (by kernel_rfl) (by intro _ _ _ h; exact h) (Or.inl ⟨by rfl, ?y21⟩) hHeld ?_
        case y21 => (intro w hSw; (try dsimp only at hSw); go_simp; try (with_reducible rfl))
        try simp only [Act.put, List.setIfInBounds_toArray, List.set_cons_zero, List.set_cons_succ]
        refine wpAnyH_take (i := 5) (v := ?v22) (by simp only [List.getElem?_toArray, List.getElem?_cons_succ, List.getElem?_cons_zero]; exact rfl) (by kernel_rfl) (by kernel_rfl) (by kernel_rfl) (by intro _ _ _ h; exact h) (Or.inl ⟨by rfl, ?y22⟩) hHeld ?_
        case y22 => (intro w hSw; (try dsimp only at hSw); go_simp; try (with_reducible rfl))
        try simp only [Act.put, List.setIfInBounds_toArray, List.set_cons_zero, List.set_cons_succ]
        refine wpAnyH_take (i := 6) (v := ?v23) (by simp only [List.getElem?_toArray, List.getElem?_cons_succ, List.getElem?_cons_zero]; exact rfl) (by kernel_rfl) (by kernel_rfl) (by kernel_rfl) (by intro _ _ _ h; exact h) (Or.inl ⟨by rfl, ?y23⟩) hHeld ?_
        case y23 => (intro w hSw; (try dsimp only at hSw); go_simp; try (with_reducible rfl))
        try simp only [Act.put, List.setIfInBounds_toArray, List.set_cons_zero, List.set_cons_succ]
        refine wpAnyH_take (i := 8) (v := ?v24) (by simp only [List.getElem?_toArray, List.getElem?_cons_succ, List.getElem?_cons_zero]; exact rfl) (by kernel_rfl) (by kernel_rfl) (by kernel_rfl) (by intro _ _ _ h; exact h) (Or.inl ⟨by rfl, ?y24⟩) hHeld ?_
        case y24 => (intro w hSw; (try dsimp only at hSw); go_simp; try (with_reducible rfl))
        try simp only [Act.put, List.setIfInBounds_toArray, List.set_cons_zero, List.set_cons_succ]
        refine wpAnyH_take (i := 10) (v := ?v25) (by simp only [List.getElem?_toArray, List.getElem?_cons_succ, List.getElem?_cons_zero]; exact rfl) (by kernel_rfl) (by kernel_rfl) (by kernel_rfl) (by intro _ _ _ h; exact h) (Or.inl ⟨by rfl, ?y25⟩) hHeld ?_
        case y25 => (intro w hSw; (try dsimp only at hSw); go_simp; try (with_reducible rfl))
        try simp only [Act.put, List.setIfInBounds_toArray, List.set_cons_zero, List.set_cons_succ]
        refine wpAnyH_take (i := 12) (v := ?v26) (by simp only [List.getElem?_toArray, List.getElem?_cons_succ, List.getElem?_cons_zero]; exact rfl) (by kernel_rfl) (by kernel_rfl) (by kernel_rfl) (by intro _ _ _ h; exact h) (Or.inl ⟨by rfl, ?y26⟩) hHeld ?_
        case y26 => (intro w hSw; (try dsimp only at hSw); go_simp; try (with_reducible rfl))
        try simp only [Act.put, List.setIfInBounds_toArray, List.set_cons_zero, List.set_cons_succ]
        refine wpAnyH_ready (rs := [7]) (by kernel_rfl) (by simp) ?_
        refine AllReadyH.cons (by simp only [List.getElem?_toArray, List.getElem?_cons_succ, List.getElem?_cons_zero]; exact rfl) (fun K hK => ?_) AllReadyH.nil
        go_simp
        refine (hcut _ hq2).mono ?_
        rintro e wn ⟨x, rfl, hx, hbn⟩
        have hx := hx.weak (S' := fun _ => True) (fun _ _ => trivial)
        have hR2 := (hR2.below hbn (Nat.le_refl _)).weaken (Nat.le_refl _) hbn.size
        have hq2 := hq2.trans (hbn.mono hq2.size)
        have hbx2 := (hbn.cell (cell_lt hbx2)).trans hbx2
        try (have hy := hy.below hbn (Nat.le_refl _))
        obtain ⟨wd, rfl⟩ : ∃ wx : World, wx = wn := ⟨_, rfl⟩
        try dsimp only
        refine hK.out _ _ ?h28 (fun hHeld => ?_)
        case h28 => first | assumption | (simp [*, go_sem])
        clear hK K
        try simp only [Act.put, List.setIfInBounds_toArray, List.set_cons_zero, List.set_cons_succ]
        refine wpAnyH_ready (rs := [9]) (by kernel_rfl) (by simp) ?_
        refine AllReadyH.cons (by simp only [List.getElem?_toArray, List.getElem?_cons_succ, List.getElem?_cons_zero]; exact rfl) (fun K hK => ?_) AllReadyH.nil
        go_simp
        refine (hall _ hq2).mono ?_
        rintro e wn ⟨y, rfl, hy0, hbn⟩
        have hy := (Own.ints (xs := bitsI (firstN g.length)) hy0 (by omega)).weak (S' := fun _ => True) (fun _ _ => trivial)
        have hR2 := (hR2.below hbn (Nat.le_refl _)).weaken (Nat.le_refl _) hbn.size
        have hq2 := hq2.trans (hbn.mono hq2.size)
        have hbx2 := (hbn.cell (cell_lt hbx2)).trans hbx2
        try (have hx := hx.below hbn (Nat.le_refl _))
        obtain ⟨wd, rfl⟩ : ∃ wx : World, wx = wn := ⟨_, rfl⟩
        try dsimp only
        refine hK.out _ _ ?h30 (fun hHeld => ?_)
        case h30 => first | assumption | (simp [*, go_sem])
        clear hK K
        try simp only [Act.put, List.setIfInBounds_toArray, List.set_cons_zero, List.set_cons_succ]
        refine wpAnyH_ready (rs := [11]) (by kernel_rfl) (by simp) ?_
        refine AllReadyH.cons (by simp only [List.getElem?_toArray, List.getElem?_cons_succ, List.getElem?_cons_zero]; exact rfl) (fun K hK => ?_) AllReadyH.nil
        go_simp
        refine (hrch _ x y hx hy).mono ?_
        rintro e wn ⟨r, rfl, hr, hbn⟩
        have hR2 := (hR2.below hbn (Nat.le_refl _)).weaken (Nat.le_refl _) hbn.size
        have hq2 := hq2.trans (hbn.mono hq2.size)
        have hbx2 := (hbn.cell (cell_lt hbx2)).trans hbx2
        obtain ⟨wd, rfl⟩ : ∃ wx : World, wx = wn := ⟨_, rfl⟩
        try dsimp only
        refine hK.out _ _ ?h32 (fun hHeld => ?_)
        case h32 => first | assumption | (simp [*, go_sem])
        clear hK K
        try simp only [Act.put, List.setIfInBounds_toArray, List.set_cons_zero, List.set_cons_succ]
        refine wpAnyH_ready (rs := [13]) (by kernel_rfl) (by simp) ?_
        refine AllReadyH.cons (by simp only [List.getElem?_toArray, List.getElem?_cons_succ, List.getElem?_cons_zero]; exact rfl) (fun K hK => ?_) AllReadyH.nil
        go_simp
        refine (hhas _ r hr.ints).mono ?_
        rintro e wn ⟨rfl, rfl⟩
        try dsimp only
        refine hK.out _ _ ?h34 (fun hHeld => ?_)
        case h34 => first | assumption | (simp [*, go_sem])
        clear hK K
        try simp only [Act.put, List.setIfInBounds_toArray, List.set_cons_zero, List.set_cons_succ]
        refine wpAnyH_take (i := 14) (v := ?v35) (by simp only [List.getElem?_toArray, List.getElem?_cons_succ, List.getElem?_cons_zero]; exact rfl) (by kernel_rfl) (by kernel_rfl) (by kernel_rfl) (by intro _ _ _ h; exact h) (Or.inl ⟨by rfl, ?y35⟩) hHeld ?_
        case y35 => (intro w hSw; (try dsimp only at hSw); go_simp; try (with_reducible rfl))
        try simp only [Act.put, List.setIfInBounds_toArray, List.set_cons_zero, List.set_cons_succ]
        refine wpAnyH_take (i := 15) (v := ?v36) (by simp only [List.getElem?_toArray, List.getElem?_cons_succ, List.getElem?_cons_zero]; exact rfl) (by kernel_rfl) (by kernel_rfl) (by kernel_rfl) (by intro _ _ _ h; exact h) (Or.inl ⟨by rfl, ?y36⟩) hHeld ?_
        case y36 => (intro w hSw; (try dsimp only at hSw); go_simp; try (with_reducible rfl))
        try simp only [Act.put, List.setIfInBounds_toArray, List.set_cons_zero, List.set_cons_succ]
        refine wpAnyH_done (by kernel_rfl) ?_ _
        exact rest x y r wd ⟨hR2, hq2, hbx2⟩
      case rest =>
        intro x y r wi ⟨hR, hq, hbx⟩
        cases bb with
        | true =>
          have HE := Lib.hid (HNOT.out (by rw [hIB.out]; rfl))
          go_wp2
          go_roundw
          case rel => exact ⟨j + 1, by omega, by go_num, by rw [HE.out]; exact hR, hq, hbx⟩
          case measure => simp [intOf]; omega
        | false =>
          have HE := Lib.hid (HYES.out (by rw [hIB.out]; rfl))
          obtain ⟨vs, hvl, hown, hbC, hap, hrows⟩ := hR
          have hB2 : w.heap.size + 1 ≤ wi.heap.size := cell_lt hbx
          have hba : Below wi.heap.size wi (wi.alloc (.cells #[.int .i64 (k : Int), .int .i64 (z : Int)] 2)) := (Below.refl _ _).alloc (Nat.le_refl _) _
          have hown2 := hown.below hba (Nat.le_refl _)
          have hrows2 : ∀ i (h : i < F.length) (h2 : i < vs.length), Own (wi.alloc (.cells #[.int .i64 (k : Int), .int .i64 (z : Int)] 2)) (w.heap.size + 1) 2 1 vs[i] F[i].length (F[i].map (.int .i64)) ∧ (∀ b, vs[i].ownBlock = some b → b < wi.heap.size ∧ _) := fun i h h2 => ⟨(hrows i h h2).1.below hba (Nat.le_refl _), (hrows i h h2).2⟩
          have hv2 : Own (wi.alloc (.cells #[.int .i64 (k : Int), .int .i64 (z : Int)] 2)) (w.heap.size + 1) 2 1 (.slice (some ⟨wi.heap.size, 0, none⟩) 2 2) [(k : Int), (z : Int)].length ([(k : Int), (z : Int)].map (.int .i64)) := World.ownsRow_lit (base := w.heap.size + 1) (e := 2) (size := 1) wi #[.int .i64 (k : Int), .int .i64 (z : Int)] 2 hB2 (by unfold maxLen; omega) rfl
          have hq2 := hq.trans (hba.mono hq.size)
          have hbx2 := (hba.cell (cell_lt hbx)).trans hbx
          clear hrows hown
          go_wp2_with (at_builtin; refine wpList_append1b elRows rfl _ _ rfl hown2 rfl (by first | rfl | simp) rfl rfl (by omega) (by simp; omega) ?_; intro o5 w5 hown5 hkept hmv)
          have hR5 : OwnR w5 (w.heap.size + 1) w5.heap.size 34 2 o5 (F ++ [[(k : Int), (z : Int)]]) := ownR_snoc hvl (by simp) hap hrows2 hbC hown5 hv2 (fun b hb => by simp [Value.ownBlock] at hb; omega) hkept (by
            rcases hmv with h | h
            · exact .inl h
            · exact .inr ⟨_, h, by simp⟩)
          have hq5 := hkept.below hq2 hq2.size (fun c h => by have := (hown2.lt c h).1; omega)
          have hbx5 : w5.cell? ⟨w.heap.size, 0, none⟩ = some (.slice (some ⟨b, off, none⟩) g.length cap) := (World.cell?_of_block (a := ⟨w.heap.size, 0, none⟩) (hkept.2.2.2.2 w.heap.size (cell_lt hbx2) (fun e => by have := (hown2.lt _ e.symm).1; omega))).trans hbx2
          go_roundw
          case rel => exact ⟨j + 1, by omega, by go_num, by rw [HE.out]; exact hR5, hq5, hbx5⟩
          case measure => simp [intOf]; omega
noncomputable def bridgesF (g : List (List Int)) : List (List Int) := if gokB g = true then bridgesL g else []
theorem bridgesF_small (g : List (List Int)) : SmallR (bridgesF g) 1048576 := by
  unfold bridgesF
  split
  · rename_i h; exact bridges_small (gokB_iff.1 h)
  · exact ⟨by simp, fun i hi => by simp at hi⟩
theorem specBridgesOf_any {S : Nat → Prop} {v : Value} {g : List (List Int)} {w : World} (hv : SlR S w v g) :
    Calls Tryd.prog 11 #[.agg #[v]] w fun e w' => ∃ u, e = .returned u ∧ SlR (fun b => b < w'.heap.size) w' u (bridgesF g) ∧ Below w.heap.size w w' := by
  have hq0 : Below w.heap.size w (w.alloc (.cells #[v] 27)) := (Below.refl _ _).alloc (Nat.le_refl _) _
  have hok := specGraphOk_any _ _ _ (hv.below hq0 (Nat.le_refl _))
  have hgb := fun (W : World) (hb : Below w.heap.size w W) => hv.below hb (Nat.le_refl _)
  obtain ⟨ga, gc, rfl⟩ := hv.slice
  by_cases hg0 : gokB g = true
  case neg =>
    have hg' : gokB g = false := by simpa using hg0
    have HE := Lib.hid (show bridgesF g = [] by rw [bridgesF, hg']; rfl)
    rw [hg'] at hok
    rw [HE.out]
    clear hg0 hg'
    go_enter Tryd.func11, Tryd.ntmps11
    go_wp2_with (go_at_call 45; refine hok.mono ?_; rintro e w1 ⟨rfl, hb1⟩)
    go_ret
    have hq1 := hq0.trans (hb1.mono hq0.size)
    exact ⟨_, rfl, ⟨_, w1.heap.size, 0, 0, fun _ => undef, rfl, by simp, fun h => by simp at h, fun i hi => by simp at hi⟩, hq1.alloc hq1.size _⟩
  have HE := Lib.hid (show bridgesF g = bridgesL g by rw [bridgesF, if_pos hg0])
  have hg := gokB_iff.1 hg0
  rw [hg0] at hok
  have hbr := fun (W : World) (hb : Below w.heap.size w W) => l19Bridges_any hg (hgb W hb)
  have HSM := Lib.hid (bridges_small hg)
  rw [HE.out]
  clear hg0
  go_enter Tryd.func11, Tryd.ntmps11
  go_wp2_with fail
  refine hok.mono ?_
  rintro e w1 ⟨rfl, hb1⟩
  have hq1 := hq0.trans (hb1.mono hq0.size)
  have c1 : w1.cell? ⟨w.heap.size, 0, none⟩ = some (.slice ga g.length gc) := (hb1.cell (p := ⟨w.heap.size, 0, none⟩) (by simp)).trans (by simp [go_sem])
  go_wp2_with fail
  refine (hbr _ hq1).mono ?_
  rintro e w2 ⟨u, rfl, hu, hb2⟩
  go_wp2
  go_ret
  exact ⟨_, rfl, (hu.rows HSM.out).weak (fun b hb => hb.2), hq1.trans (hb2.mono hq1.size)⟩
theorem implBridgesOf_any {S : Nat → Prop} {v : Value} {g : List (List Int)} {w : World} (ht : Tab w) (hv : SlR S w v g) :
    Calls Tryd.prog 13 #[.agg #[v]] w fun e w' => ∃ u, e = .returned u ∧ OwnR w' w.heap.size w'.heap.size 34 2 u (bridgesF g) ∧ Below w.heap.size w w' := by
  have hq0 : Below w.heap.size w (w.alloc (.cells #[v] 27)) := (Below.refl _ _).alloc (Nat.le_refl _) _
  have hok := implGraphOk_any _ _ _ (hv.below hq0 (Nat.le_refl _))
  have hgb := fun (W : World) (hb : Below w.heap.size w W) => hv.below hb (Nat.le_refl _)
  obtain ⟨ga, gc, rfl⟩ := hv.slice
  by_cases hg0 : gokB g = true
  case neg =>
    have hg' : gokB g = false := by simpa using hg0
    have HE := Lib.hid (show bridgesF g = [] by rw [bridgesF, hg']; rfl)
    rw [hg'] at hok
    rw [HE.out]
    clear hg0 hg'
    go_enter Tryd.func13, Tryd.ntmps13
    go_wp2_with (go_at_call 48; refine hok.mono ?_; rintro e w1 ⟨rfl, hb1⟩)
    go_ret
    exact ⟨_, rfl, ⟨[], rfl, Own.nil _ _ _ _, fun b hb => by simp [Value.ownBlock] at hb, ApartL.nil, fun i hi => by simp at hi⟩, hq0.trans (hb1.mono hq0.size)⟩
  have HE := Lib.hid (show bridgesF g = bridgesL g by rw [bridgesF, if_pos hg0])
  have hg := gokB_iff.1 hg0
  rw [hg0] at hok
  have hbr := fun (W : World) (hb : Below w.heap.size w W) => bridgesOf_any (ht.below hb (Nat.le_refl _)) hg (hgb W hb)
  rw [HE.out]
  clear hg0
  go_enter Tryd.func13, Tryd.ntmps13
  go_wp2_with fail
  refine hok.mono ?_
  rintro e w1 ⟨rfl, hb1⟩
  have hq1 := hq0.trans (hb1.mono hq0.size)
  have c1 : w1.cell? ⟨w.heap.size, 0, none⟩ = some (.slice ga g.length gc) := (hb1.cell (p := ⟨w.heap.size, 0, none⟩) (by simp)).trans (by simp [go_sem])
  go_wp2_with fail
  refine (hbr _ hq1).mono ?_
  rintro e w2 ⟨u, rfl, hu, hb2⟩
  go_wp2
  go_ret
  exact ⟨_, rfl, hu.weaken hq1.size (Nat.le_refl _), hq1.trans (hb2.mono hq1.size)⟩
theorem conBridgesOf {g0 : List (List Int)} (hsm0 : SmallR g0 1048576) : ∃ (r0 : List (List Int)), (∀ {S0 : Nat → Prop} {v0 : Value} {w : World}, SlR S0 w v0 g0 → Calls Tryd.prog 11 #[.agg #[v0]] w fun e w' => ∃ u0, e = .returned (u0) ∧ SlR (fun b => b < w'.heap.size) w' u0 r0 ∧ Below w.heap.size w w') ∧
    (∀ {S0 : Nat → Prop} {v0 : Value} {w : World}, Tab w → SlR S0 w v0 g0 → Calls Tryd.prog 13 #[.agg #[v0]] w fun e w' => ∃ u0, e = .returned (u0) ∧ OwnR w' w.heap.size w'.heap.size 34 2 u0 r0 ∧ Below w.heap.size w w') ∧
    SmallR r0 1048576 := by
  exact ⟨bridgesF g0, fun h0 => specBridgesOf_any h0, fun ht h0 => implBridgesOf_any ht h0, bridgesF_small g0⟩
set_option maxHeartbeats 16000000 in
theorem lawBridgesOf_any {S0 : Nat → Prop} (v0 : Value) (g0 : List (List Int)) (w : World) (ht : Tab w) (hv0 : SlR S0 w v0 g0) :
    Calls Tryd.prog 3 #[.agg #[v0]] w fun e w' => e = .returned (.bool true) ∧ Below w.heap.size w w' := by
  obtain ⟨a0, c0, rfl⟩ := hv0.slice
  have q0 : Below w.heap.size w (w.alloc (.cells #[.slice a0 g0.length c0] 24)) := (Below.refl _ _).alloc (Nat.le_refl _) _
  go_enter Tryd.func3, Tryd.ntmps3
  go_wp2_with fail
  refine (szGraph_any _ _ _ _ (hv0.below q0 (Nat.le_refl _)) (by omega) (by omega)).mono ?_
  rintro e w1 ⟨r1, rfl, hr1, hs1, hm1, hb1⟩
  have q1 := q0.trans (hb1.mono q0.size)
  have z0 := q0.size
  have z1 : w.heap.size + 1 ≤ w1.heap.size := by have := hb1.size; simp at this; omega
  have b0_1 : w1.cell? ⟨w.heap.size, 0, none⟩ = some (.slice a0 g0.length c0) := (hb1.cell (p := ⟨w.heap.size, 0, none⟩) (by simp <;> omega)).trans (by simp [go_sem])
  by_cases hneg1 : r1 < 0
  case pos =>
    go_wp2
    go_ret
    exact ⟨rfl, q1⟩
  have hsm0 : SmallR g0 1048576 := hm1 (by omega)
  obtain ⟨r0, hS, hI, hN0⟩ := conBridgesOf hsm0
  go_wp2_with fail
  refine (toGraphR_any (hv0.below q1 (Nat.le_refl _)) hsm0).mono ?_
  rintro e w2 ⟨x2, rfl, y2_2, hb2⟩
  have q2 := q1.trans (hb2.mono q1.size)
  have z2 := hb2.size
  have b0_2 : w2.cell? ⟨w.heap.size, 0, none⟩ = some (.slice a0 g0.length c0) := (hb2.cell (p := ⟨w.heap.size, 0, none⟩) (cell_lt b0_1)).trans b0_1
  obtain ⟨xa2, xc2, rfl⟩ := y2_2.isSlice
  go_wp2_with fail
  refine (hS (y2_2.rows hsm0)).mono ?_
  rintro e w3 ⟨w0u0, rfl, w0_0_3, hb3⟩
  have q3 := q2.trans (hb3.mono q2.size)
  have z3 := hb3.size
  have b0_3 : w3.cell? ⟨w.heap.size, 0, none⟩ = some (.slice a0 g0.length c0) := (hb3.cell (p := ⟨w.heap.size, 0, none⟩) (cell_lt b0_2)).trans b0_2
  have y2_3 := y2_2.below hb3 (Nat.le_refl _)
  obtain ⟨w0a0, w0c0, rfl⟩ := w0_0_3.slice
  go_wp2_with fail
  refine (toGraphR_any (hv0.below q3 (Nat.le_refl _)) hsm0).mono ?_
  rintro e w4 ⟨x4, rfl, y4_4, hb4⟩
  have q4 := q3.trans (hb4.mono q3.size)
  have z4 := hb4.size
  have b0_4 : w4.cell? ⟨w.heap.size, 0, none⟩ = some (.slice a0 g0.length c0) := (hb4.cell (p := ⟨w.heap.size, 0, none⟩) (cell_lt b0_3)).trans b0_3
  have y2_4 := y2_3.below hb4 (Nat.le_refl _)
  have w0_0_4 := w0_0_3.below hb4 (Nat.le_refl _)
  obtain ⟨xa4, xc4, rfl⟩ := y4_4.isSlice
  have hb5 : Below w4.heap.size w4 (w4.alloc (.cells #[.slice xa4 g0.length xc4] 27)) := (Below.refl _ _).alloc (Nat.le_refl _) _
  obtain ⟨w5, ew5⟩ : ∃ x, x = (w4.alloc (.cells #[.slice xa4 g0.length xc4] 27)) := ⟨_, rfl⟩
  rw [← ew5] at hb5
  have l5_5 : w5.cell? ⟨w4.heap.size, 0, none⟩ = some (.slice xa4 g0.length xc4) := by rw [ew5]; simp [go_sem]
  have zz5 : w5.heap.size = w4.heap.size + 1 := by rw [ew5]; simp
  have q5 := q4.trans (hb5.mono q4.size)
  have z5 := hb5.size
  have b0_5 : w5.cell? ⟨w.heap.size, 0, none⟩ = some (.slice a0 g0.length c0) := (hb5.cell (p := ⟨w.heap.size, 0, none⟩) (cell_lt b0_4)).trans b0_4
  have y2_5 := y2_4.below hb5 (Nat.le_refl _)
  have w0_0_5 := w0_0_4.below hb5 (Nat.le_refl _)
  have y4_5 := y4_4.below hb5 (Nat.le_refl _)
  have b0_5e : (w4.alloc (.cells #[.slice xa4 g0.length xc4] 27)).cell? ⟨w.heap.size, 0, none⟩ = some (.slice a0 g0.length c0) := by rw [← ew5]; exact b0_5
  have l5_5e : (w4.alloc (.cells #[.slice xa4 g0.length xc4] 27)).cell? ⟨w4.heap.size, 0, none⟩ = some (.slice xa4 g0.length xc4) := by rw [← ew5]; exact l5_5
  go_wp2_with fail
  rw [← ew5]
  refine (hI (ht.below q5 (Nat.le_refl _)) (y4_5.rows hsm0)).mono ?_
  rintro e w6 ⟨g0u0, rfl, g0_0_6, hb6⟩
  have q6 := q5.trans (hb6.mono q5.size)
  have z6 := hb6.size
  have b0_6 : w6.cell? ⟨w.heap.size, 0, none⟩ = some (.slice a0 g0.length c0) := (hb6.cell (p := ⟨w.heap.size, 0, none⟩) (cell_lt b0_5)).trans b0_5
  have l5_6 : w6.cell? ⟨w4.heap.size, 0, none⟩ = some (.slice xa4 g0.length xc4) := (hb6.cell (p := ⟨w4.heap.size, 0, none⟩) (cell_lt l5_5)).trans l5_5
  have y2_6 := y2_5.below hb6 (Nat.le_refl _)
  have w0_0_6 := w0_0_5.below hb6 (Nat.le_refl _)
  have y4_6 := y4_5.below hb6 (Nat.le_refl _)
  obtain ⟨g0a0, g0c0, rfl⟩ := g0_0_6.isSlice
  go_wp2_with fail
  refine (eqR_same (g0_0_6.rows hN0) w0_0_6).mono ?_
  rintro e w7 ⟨rfl, hb7⟩
  have q7 := q6.trans (hb7.mono q6.size)
  have z7 := hb7.size
  have b0_7 : w7.cell? ⟨w.heap.size, 0, none⟩ = some (.slice a0 g0.length c0) := (hb7.cell (p := ⟨w.heap.size, 0, none⟩) (cell_lt b0_6)).trans b0_6
  have l5_7 : w7.cell? ⟨w4.heap.size, 0, none⟩ = some (.slice xa4 g0.length xc4) := (hb7.cell (p := ⟨w4.heap.size, 0, none⟩) (cell_lt l5_6)).trans l5_6
  have y2_7 := y2_6.below hb7 (Nat.le_refl _)
  have w0_0_7 := w0_0_6.below hb7 (Nat.le_refl _)
  have y4_7 := y4_6.below hb7 (Nat.le_refl _)
  have g0_0_7 := g0_0_6.below hb7 (Nat.le_refl _)
  go_wp2
  refine wp_region_held_drew (S := (fun w' => w'.cell? ⟨w.heap.size, 0, none⟩ = some (.slice a0 g0.length c0) ∧ w'.cell? ⟨w4.heap.size, 0, none⟩ = some (.slice xa4 g0.length xc4))) (by kernel_rfl) ?_ (fun hHeld => ?_)
  · first | exact ⟨‹_›, ‹_›⟩ | assumption | (simp [*, go_sem])
  refine wpAnyH_take (i := 0) (v := ?v37) (by simp only [List.getElem?_toArray, List.getElem?_cons_zero]; exact rfl) (by kernel_rfl) (by kernel_rfl) (by kernel_rfl) (by intro _ _ _ h; exact h) (Or.inl ⟨by rfl, ?y37⟩) hHeld ?_
  case y37 => (intro w hSw; (try dsimp only at hSw); go_simp; try (with_reducible rfl))
  try simp only [Act.put, List.setIfInBounds_toArray, List.set_cons_zero, List.set_cons_succ]
  refine wpAnyH_take (i := 1) (v := ?v38) (by simp only [List.getElem?_toArray, List.getElem?_cons_succ, List.getElem?_cons_zero]; exact rfl) (by kernel_rfl) (by kernel_rfl) (by kernel_rfl) (by intro _ _ _ h; exact h) (Or.inl ⟨by rfl, ?y38⟩) hHeld ?_
  case y38 => (intro w hSw; (try dsimp only at hSw); go_simp; try (with_reducible rfl))
  try simp only [Act.put, List.setIfInBounds_toArray, List.set_cons_zero, List.set_cons_succ]
  refine wpAnyH_ready (rs := [2]) (by kernel_rfl) (by simp) ?_
  refine AllReadyH.cons (by simp only [List.getElem?_toArray, List.getElem?_cons_succ, List.getElem?_cons_zero]; exact rfl) (fun K hK => ?_) AllReadyH.nil
  go_simp
  have q7d := q7.drew
  have y2_7k := y2_7
  have y2_7 := y2_7.below ((Below.refl w7.heap.size w7).drew) (Nat.le_refl _)
  have w0_0_7k := w0_0_7
  have w0_0_7 := w0_0_7.below ((Below.refl w7.heap.size w7).drew) (Nat.le_refl _)
  have y4_7k := y4_7
  have y4_7 := y4_7.below ((Below.refl w7.heap.size w7).drew) (Nat.le_refl _)
  have g0_0_7k := g0_0_7
  have g0_0_7 := g0_0_7.below ((Below.refl w7.heap.size w7).drew) (Nat.le_refl _)
  refine (toGraph_any _ _ _ (hv0.below q7d (Nat.le_refl _)) hsm0).mono ?_
  rintro e w8 ⟨x8, rfl, y8_8, hb8⟩
  replace hb8 : Below w7.heap.size w7 w8 := ⟨hb8.os, hb8.tape, hb8.output, hb8.size, hb8.block⟩
  replace y2_7 := y2_7k
  replace w0_0_7 := w0_0_7k
  replace y4_7 := y4_7k
  replace g0_0_7 := g0_0_7k
  have q8 := q7.trans (hb8.mono q7.size)
  have z8 := hb8.size
  have b0_8 : w8.cell? ⟨w.heap.size, 0, none⟩ = some (.slice a0 g0.length c0) := (hb8.cell (p := ⟨w.heap.size, 0, none⟩) (cell_lt b0_7)).trans b0_7
  have l5_8 : w8.cell? ⟨w4.heap.size, 0, none⟩ = some (.slice xa4 g0.length xc4) := (hb8.cell (p := ⟨w4.heap.size, 0, none⟩) (cell_lt l5_7)).trans l5_7
  have y2_8 := y2_7.below hb8 (Nat.le_refl _)
  have w0_0_8 := w0_0_7.below hb8 (Nat.le_refl _)
  have y4_8 := y4_7.below hb8 (Nat.le_refl _)
  have g0_0_8 := g0_0_7.below hb8 (Nat.le_refl _)
  try dsimp only
  refine hK.out _ _ ?h40 (fun hHeld => ?_)
  case h40 => first | exact ⟨‹_›, ‹_›⟩ | assumption | (simp [*, go_sem])
  clear hK K
  try simp only [Act.put, List.setIfInBounds_toArray, List.set_cons_zero, List.set_cons_succ]
  refine wpAnyH_ready (rs := [3]) (by kernel_rfl) (by simp) ?_
  refine AllReadyH.cons (by simp only [List.getElem?_toArray, List.getElem?_cons_succ, List.getElem?_cons_zero]; exact rfl) (fun K hK => ?_) AllReadyH.nil
  go_simp
  refine (eqG_same (y4_8.rows hsm0) y8_8).mono ?_
  rintro e w9 ⟨rfl, hb9⟩
  have q9 := q8.trans (hb9.mono q8.size)
  have z9 := hb9.size
  have b0_9 : w9.cell? ⟨w.heap.size, 0, none⟩ = some (.slice a0 g0.length c0) := (hb9.cell (p := ⟨w.heap.size, 0, none⟩) (cell_lt b0_8)).trans b0_8
  have l5_9 : w9.cell? ⟨w4.heap.size, 0, none⟩ = some (.slice xa4 g0.length xc4) := (hb9.cell (p := ⟨w4.heap.size, 0, none⟩) (cell_lt l5_8)).trans l5_8
  have y2_9 := y2_8.below hb9 (Nat.le_refl _)
  have w0_0_9 := w0_0_8.below hb9 (Nat.le_refl _)
  have y4_9 := y4_8.below hb9 (Nat.le_refl _)
  have g0_0_9 := g0_0_8.below hb9 (Nat.le_refl _)
  have y8_9 := y8_8.below hb9 (Nat.le_refl _)
  try dsimp only
  refine hK.out _ _ ?h42 (fun hHeld => ?_)
  case h42 => first | exact ⟨‹_›, ‹_›⟩ | assumption | (simp [*, go_sem])
  clear hK K
  try simp only [Act.put, List.setIfInBounds_toArray, List.set_cons_zero, List.set_cons_succ]
  refine wpAnyH_take (i := 4) (v := ?v43) (by simp only [List.getElem?_toArray, List.getElem?_cons_succ, List.getElem?_cons_zero]; exact rfl) (by kernel_rfl) (by kernel_rfl) (by kernel_rfl) (by intro _ _ _ h; exact h) (Or.inl ⟨by rfl, ?y43⟩) hHeld ?_
  case y43 => (intro w hSw; (try dsimp only at hSw); go_simp; try (with_reducible rfl))
  try simp only [Act.put, List.setIfInBounds_toArray, List.set_cons_zero, List.set_cons_succ]
  refine wpAnyH_done (by kernel_rfl) ?_ _
  go_wp2_with fail
  refine (markG_any y4_9 hsm0 (by omega) (by omega) (by omega)).mono ?_
  rintro e w10 ⟨k10, rfl, hk10, hl10, ht10⟩
  have q10 := ht10.below q9 (by have := q9.size; omega) q9.size
  have z10 := ht10.size
  have b0_10 : w10.cell? ⟨w.heap.size, 0, none⟩ = some (.slice a0 g0.length c0) := (ht10.cell (p := ⟨w.heap.size, 0, none⟩) (cell_lt b0_9) (by have : w.heap.size < w9.heap.size := cell_lt b0_9; show w.heap.size < _ ∨ _ ≤ w.heap.size; omega)).trans b0_9
  have l5_10 : w10.cell? ⟨w4.heap.size, 0, none⟩ = some (.slice xa4 g0.length xc4) := (ht10.cell (p := ⟨w4.heap.size, 0, none⟩) (cell_lt l5_9) (by have : w4.heap.size < w9.heap.size := cell_lt l5_9; show w4.heap.size < _ ∨ _ ≤ w4.heap.size; omega)).trans l5_9
  have y2_10 := y2_9.between ht10 (by omega)
  have w0_0_10 := w0_0_9.betweenR ht10 (fun b (hb : b < w3.heap.size) => ⟨by omega, by omega⟩)
  have g0_0_10 := g0_0_9.between ht10 (by omega)
  have hkn10 : ¬ k10 < 0 := by omega
  go_wp2_with fail
  refine (eqR_same (g0_0_10.rows hN0) w0_0_10).mono ?_
  rintro e w11 ⟨rfl, hb11⟩
  have q11 := q10.trans (hb11.mono q10.size)
  have z11 := hb11.size
  have b0_11 : w11.cell? ⟨w.heap.size, 0, none⟩ = some (.slice a0 g0.length c0) := (hb11.cell (p := ⟨w.heap.size, 0, none⟩) (cell_lt b0_10)).trans b0_10
  have l5_11 : w11.cell? ⟨w4.heap.size, 0, none⟩ = some (.slice xa4 g0.length xc4) := (hb11.cell (p := ⟨w4.heap.size, 0, none⟩) (cell_lt l5_10)).trans l5_10
  have y2_11 := y2_10.below hb11 (Nat.le_refl _)
  have w0_0_11 := w0_0_10.below hb11 (Nat.le_refl _)
  have g0_0_11 := g0_0_10.below hb11 (Nat.le_refl _)
  go_wp2_with fail
  refine (markRR_any g0_0_11 hN0 (k := 1) (by omega) (by omega)).mono ?_
  rintro e w12 ⟨rfl, g0_0_12, ht12⟩
  have q12 := ht12.below q11 (by have := q11.size; omega) q11.size
  have z12 := ht12.size
  have b0_12 : w12.cell? ⟨w.heap.size, 0, none⟩ = some (.slice a0 g0.length c0) := (ht12.cell (p := ⟨w.heap.size, 0, none⟩) (cell_lt b0_11) (by have : w.heap.size < w11.heap.size := cell_lt b0_11; show w.heap.size < _ ∨ _ ≤ w.heap.size; omega)).trans b0_11
  have l5_12 : w12.cell? ⟨w4.heap.size, 0, none⟩ = some (.slice xa4 g0.length xc4) := (ht12.cell (p := ⟨w4.heap.size, 0, none⟩) (cell_lt l5_11) (by have : w4.heap.size < w11.heap.size := cell_lt l5_11; show w4.heap.size < _ ∨ _ ≤ w4.heap.size; omega)).trans l5_11
  have y2_12 := y2_11.between ht12 (by omega)
  have w0_0_12 := w0_0_11.betweenR ht12 (fun b (hb : b < w3.heap.size) => ⟨by omega, by omega⟩)
  have hmn12 : ¬ (1 + (sumL r0 : Int)) < 0 := by omega
  go_wp2_with fail
  refine (heldRR_any (g0_0_12.rows (marksR_small hN0)) hN0 (k := 1) (by omega) (by omega)).mono ?_
  rintro e w13 ⟨rfl, hb13⟩
  have q13 := q12.trans (hb13.mono q12.size)
  have z13 := hb13.size
  have b0_13 : w13.cell? ⟨w.heap.size, 0, none⟩ = some (.slice a0 g0.length c0) := (hb13.cell (p := ⟨w.heap.size, 0, none⟩) (cell_lt b0_12)).trans b0_12
  have l5_13 : w13.cell? ⟨w4.heap.size, 0, none⟩ = some (.slice xa4 g0.length xc4) := (hb13.cell (p := ⟨w4.heap.size, 0, none⟩) (cell_lt l5_12)).trans l5_12
  have y2_13 := y2_12.below hb13 (Nat.le_refl _)
  have w0_0_13 := w0_0_12.below hb13 (Nat.le_refl _)
  have g0_0_13 := g0_0_12.below hb13 (Nat.le_refl _)
  have hmn13 : ¬ (1 + (sumL r0 : Int)) < 0 := by omega
  go_wp2_with fail
  refine (toGraphR_any (hv0.below q13 (Nat.le_refl _)) hsm0).mono ?_
  rintro e w14 ⟨x14, rfl, y14_14, hb14⟩
  have q14 := q13.trans (hb14.mono q13.size)
  have z14 := hb14.size
  have b0_14 : w14.cell? ⟨w.heap.size, 0, none⟩ = some (.slice a0 g0.length c0) := (hb14.cell (p := ⟨w.heap.size, 0, none⟩) (cell_lt b0_13)).trans b0_13
  have l5_14 : w14.cell? ⟨w4.heap.size, 0, none⟩ = some (.slice xa4 g0.length xc4) := (hb14.cell (p := ⟨w4.heap.size, 0, none⟩) (cell_lt l5_13)).trans l5_13
  have y2_14 := y2_13.below hb14 (Nat.le_refl _)
  have w0_0_14 := w0_0_13.below hb14 (Nat.le_refl _)
  have g0_0_14 := g0_0_13.below hb14 (Nat.le_refl _)
  obtain ⟨xa14, xc14, rfl⟩ := y14_14.isSlice
  go_wp2_with fail
  refine (hI (ht.below q14 (Nat.le_refl _)) (y14_14.rows hsm0)).mono ?_
  rintro e w15 ⟨h0u0, rfl, h0_0_15, hb15⟩
  have q15 := q14.trans (hb15.mono q14.size)
  have z15 := hb15.size
  have b0_15 : w15.cell? ⟨w.heap.size, 0, none⟩ = some (.slice a0 g0.length c0) := (hb15.cell (p := ⟨w.heap.size, 0, none⟩) (cell_lt b0_14)).trans b0_14
  have l5_15 : w15.cell? ⟨w4.heap.size, 0, none⟩ = some (.slice xa4 g0.length xc4) := (hb15.cell (p := ⟨w4.heap.size, 0, none⟩) (cell_lt l5_14)).trans l5_14
  have y2_15 := y2_14.below hb15 (Nat.le_refl _)
  have w0_0_15 := w0_0_14.below hb15 (Nat.le_refl _)
  have g0_0_15 := g0_0_14.below hb15 (Nat.le_refl _)
  have y14_15 := y14_14.below hb15 (Nat.le_refl _)
  obtain ⟨h0a0, h0c0, rfl⟩ := h0_0_15.isSlice
  go_wp2_with fail
  refine (eqR_same (h0_0_15.rows hN0) w0_0_15).mono ?_
  rintro e w16 ⟨rfl, hb16⟩
  have q16 := q15.trans (hb16.mono q15.size)
  have z16 := hb16.size
  have b0_16 : w16.cell? ⟨w.heap.size, 0, none⟩ = some (.slice a0 g0.length c0) := (hb16.cell (p := ⟨w.heap.size, 0, none⟩) (cell_lt b0_15)).trans b0_15
  have l5_16 : w16.cell? ⟨w4.heap.size, 0, none⟩ = some (.slice xa4 g0.length xc4) := (hb16.cell (p := ⟨w4.heap.size, 0, none⟩) (cell_lt l5_15)).trans l5_15
  have y2_16 := y2_15.below hb16 (Nat.le_refl _)
  have w0_0_16 := w0_0_15.below hb16 (Nat.le_refl _)
  have g0_0_16 := g0_0_15.below hb16 (Nat.le_refl _)
  have y14_16 := y14_15.below hb16 (Nat.le_refl _)
  have h0_0_16 := h0_0_15.below hb16 (Nat.le_refl _)
  go_wp2_with fail
  refine (heldRR_any (g0_0_16.rows (marksR_small hN0)) hN0 (k := 1) (by omega) (by omega)).mono ?_
  rintro e w17 ⟨rfl, hb17⟩
  have q17 := q16.trans (hb17.mono q16.size)
  have z17 := hb17.size
  have b0_17 : w17.cell? ⟨w.heap.size, 0, none⟩ = some (.slice a0 g0.length c0) := (hb17.cell (p := ⟨w.heap.size, 0, none⟩) (cell_lt b0_16)).trans b0_16
  have l5_17 : w17.cell? ⟨w4.heap.size, 0, none⟩ = some (.slice xa4 g0.length xc4) := (hb17.cell (p := ⟨w4.heap.size, 0, none⟩) (cell_lt l5_16)).trans l5_16
  have y2_17 := y2_16.below hb17 (Nat.le_refl _)
  have w0_0_17 := w0_0_16.below hb17 (Nat.le_refl _)
  have g0_0_17 := g0_0_16.below hb17 (Nat.le_refl _)
  have y14_17 := y14_16.below hb17 (Nat.le_refl _)
  have h0_0_17 := h0_0_16.below hb17 (Nat.le_refl _)
  have hmn17 : ¬ (1 + (sumL r0 : Int)) < 0 := by omega
  go_wp2
  go_ret
  exact ⟨rfl, q17⟩
end Go.Proofs.YtklnjpdpinccoaaDoor
