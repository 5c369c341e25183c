/- An edge cut, by the reference. -/
import Derived.Test.YthpbeiihlembnaaDoorLink
import Derived.Test.YthpbeiihlembnaaDoorOrb3
import Derived.Test.YthpbeiihlembnaaDoorCutG
import Derived.Test.YthpbeiihlembnaaDoorFit4
import Derived.Test.YthpbeiihlembnaaDoorThere
namespace Go.Proofs.YthpbeiihlembnaaDoor
open Go.RowKit
set_option maxRecDepth 100000 in
set_option maxHeartbeats 8000000 in
theorem l1CopyGraph_any {S : Nat → Prop} {v : Value} {g : List (List Int)} {w : World} (hv : SlR S w v g) (hs : SmallR g 1000) (hn : g.length ≤ 1000) :
    Calls Tryd.prog 148 #[.agg #[v]] w fun e w' => ∃ u, e = .returned (.agg #[u]) ∧ OwnR w' w.heap.size w'.heap.size 26 2 u g ∧ Below w.heap.size w w' := by
  obtain ⟨a, b, off, cap, f, rfl, hl, ha, hc0⟩ := hv
  obtain ⟨W, hW⟩ : ∃ W, W = ((w.alloc (.cells #[.slice a g.length cap] 29)).alloc (.cells #[.slice none 0 0] 29)).alloc (.cells #[.slice none 0 0] 29) := ⟨_, rfl⟩
  have hq0 : Below w.heap.size w W := by rw [hW]; exact (((Below.refl _ _).alloc (Nat.le_refl _) _).alloc (by simp) _).alloc (by simp; omega) _
  have hr0 : Own W (w.heap.size + 1) 29 1 (.slice (some ⟨w.heap.size + 1, 0, none⟩) 1 1) 1 [.slice none 0 0] := by
    rw [hW]
    have h := (own_new (w.alloc (.cells #[.slice a g.length cap] 29)) (w.heap.size + 1) 29 (.slice none 0 0) (by simp)).alloc (.cells #[.slice none 0 0] 29)
    rw [show (w.alloc (.cells #[.slice a g.length cap] 29)).heap.size = w.heap.size + 1 by simp] at h
    exact h
  have ho0 : Own W (w.heap.size + 1) 29 1 (.slice (some ⟨w.heap.size + 1 + 1, 0, none⟩) 1 1) 1 [.slice none 0 0] := by
    rw [hW]
    have h := own_new ((w.alloc (.cells #[.slice a g.length cap] 29)).alloc (.cells #[.slice none 0 0] 29)) (w.heap.size + 1) 29 (.slice none 0 0) (by simp)
    rw [show ((w.alloc (.cells #[.slice a g.length cap] 29)).alloc (.cells #[.slice none 0 0] 29)).heap.size = w.heap.size + 1 + 1 by simp] at h
    exact h
  have cg0 : W.cell? ⟨w.heap.size, 0, none⟩ = some (.slice a g.length cap) := by rw [hW]; simp [go_sem]
  have hS0 : OwnR W (w.heap.size + 3) W.heap.size 26 2 (.slice none 0 0) [] := ⟨[], rfl, Own.nil _ _ _ _, fun b hb => by simp [Value.ownBlock] at hb, ApartL.nil, fun i hi => by simp at hi⟩
  have hz0 : w.heap.size + 3 ≤ W.heap.size := by rw [hW]; simp
  have HG := Lib.hid (fun k (hk : k < g.length) => show g.take (k + 1) = g.take k ++ [g[k]] from List.take_succ_eq_append_getElem hk)
  have HS := Lib.hid hs
  have hWW := Lib.hid hW
  clear hW hs
  go_enter Tryd.func148, Tryd.ntmps148
  go_wp2
  rw [← hWW.out]
  go_loopw [4] (fun i wr => ∃ (k : Nat) (o : Value), k ≤ g.length ∧ i = .int .i64 k ∧ OwnR wr (w.heap.size + 3) wr.heap.size 26 2 o (g.take k) ∧ Own wr (w.heap.size + 1) 29 1 (.slice (some ⟨w.heap.size + 1, 0, none⟩) 1 1) 1 [.slice none 0 0] ∧ Own wr (w.heap.size + 1) 29 1 (.slice (some ⟨w.heap.size + 1 + 1, 0, none⟩) 1 1) 1 [o] ∧ Below w.heap.size w wr ∧ w.heap.size + 3 ≤ wr.heap.size ∧ wr.cell? ⟨w.heap.size, 0, none⟩ = some (.slice a g.length cap)) (fun i _ => g.length - (RowKit.intOf i).toNat)
  case atStart => exact ⟨0, _, Nat.zero_le _, rfl, by rw [List.take_zero]; exact hS0, hr0, ho0, hq0, hz0, cg0⟩
  case round =>
    clear hS0 hr0 ho0 hq0 hz0 cg0
    obtain ⟨k, o, hk, rfl, hS, hr, ho, hq, hsz, cg⟩ := hrel
    obtain ⟨wi, rfl⟩ : ∃ wx : World, wx = wr := ⟨_, rfl⟩
    have hlen : (g.take k).length = k := by rw [List.length_take]; omega
    obtain ⟨o1, o2, -, o3⟩ := own_cell ho
    obtain ⟨r1, r2, -, r3⟩ := own_cell hr
    obtain ⟨oa, oc, rfl⟩ := hS.isSlice
    rw [hlen] at hS ho o1
    have HLN := Lib.hid hlen
    clear hlen
    by_cases hlt : k < g.length
    case neg =>
      obtain rfl : k = g.length := by omega
      have HT := Lib.hid (show g.take g.length = g from List.take_length)
      go_wp2
      refine bodyPost_ret (v := .agg #[.slice oa g.length oc]) (by simp [results, Tryd.results148, go_sem, r1]) rfl ⟨_, rfl, ?_, hq.setCell (by simp) _⟩
      have h6 := (hS.setOther hr (by decide) (by decide) (.slice oa g.length oc)).weaken (B1 := w.heap.size) (C1 := (wi.setCell ⟨w.heap.size + 1, 0, none⟩ (.slice oa g.length oc)).heap.size) (by omega) (by simp)
      rw [HT.out] at h6
      exact h6
    obtain ⟨hcr0, hrow0⟩ := hc0 k hlt
    obtain ⟨rfl, -⟩ := ha (by omega)
    have hcr := (hq.cell (p := ⟨b, off + k, none⟩) (cell_lt hcr0)).trans hcr0
    have hrow := hrow0.below hq (Nat.le_refl _)
    have HGK := Lib.hid (HG.out k hlt)
    have hrl : g[k].length ≤ 1000 := by have := HS.out.2 k hlt hlt; omega
    have hbl : b < w.heap.size := cell_lt hcr0
    generalize g[k] = l at *
    obtain ⟨la, lc, hre⟩ := hrow.slice
    rw [hre] at hcr hrow
    clear hcr0 hrow0 hre HG r1 r2 r3 o2 o3
    go_wp2
    refine wp_region_late (S := (fun w' => w'.cell? ⟨w.heap.size + 1 + 1, 0, none⟩ = some (.slice oa k oc) ∧ w'.cell? ⟨w.heap.size, 0, none⟩ = some (.slice (some ⟨b, off, none⟩) g.length cap) ∧ w'.cell? ⟨b, off + k, none⟩ = some (.slice la l.length lc))) (late := [11]) (by kernel_rfl) ?_ (fun hHeld => ?_)
    · first | exact ⟨‹_›, ‹_›, ‹_›⟩ | (simp [*, go_sem])
    have hdw : Drawn wi wi.drew := (Drawn.refl _).drew
    generalize wi.drew = wd at hdw hHeld ⊢
    have hde : wd.heap.size = wi.heap.size := (by rw [hdw.heap])
    refine wpLate_take (i := 0) (v := ?v1) (by simp only [List.getElem?_toArray, List.getElem?_cons_zero]; exact rfl) (by kernel_rfl) (by kernel_rfl) (by kernel_rfl) (by intro _ _ _ h; exact h) (Or.inl ⟨by rfl, ?y1⟩) ?_
    case y1 => (intro w _; go_simp; try (with_reducible rfl))
    try simp only [Act.put, List.setIfInBounds_toArray, List.set_cons_zero, List.set_cons_succ]
    refine wpLate_load (i := 1) (v := ?v2) (by simp only [List.getElem?_toArray, List.getElem?_cons_succ, List.getElem?_cons_zero]; exact rfl) (by kernel_rfl) (by kernel_rfl) (by kernel_rfl) (by kernel_rfl) (by intro _ _ _ h; exact h) (Or.inl ⟨by rfl, ?y2⟩) hHeld ?_
    case y2 => (intro w hSw; (try dsimp only at hSw); go_simp; try (with_reducible rfl))
    try simp only [Act.put, List.setIfInBounds_toArray, List.set_cons_zero, List.set_cons_succ]
    refine wpLate_take (i := 2) (v := ?v3) (by simp only [List.getElem?_toArray, List.getElem?_cons_succ, List.getElem?_cons_zero]; exact rfl) (by kernel_rfl) (by kernel_rfl) (by kernel_rfl) (by intro _ _ _ h; exact h) (Or.inl ⟨by rfl, ?y3⟩) ?_
    case y3 => (intro w _; go_simp; try (with_reducible rfl))
    try simp only [Act.put, List.setIfInBounds_toArray, List.set_cons_zero, List.set_cons_succ]
    refine wpLate_load (i := 3) (v := ?v4) (by simp only [List.getElem?_toArray, List.getElem?_cons_succ, List.getElem?_cons_zero]; exact rfl) (by kernel_rfl) (by kernel_rfl) (by kernel_rfl) (by kernel_rfl) (by intro _ _ _ h; exact h) (Or.inl ⟨by rfl, ?y4⟩) hHeld ?_
    case y4 => (intro w hSw; (try dsimp only at hSw); go_simp; try (with_reducible rfl))
    try simp only [Act.put, List.setIfInBounds_toArray, List.set_cons_zero, List.set_cons_succ]
    refine wpLate_take (i := 4) (v := ?v5) (by simp only [List.getElem?_toArray, List.getElem?_cons_succ, List.getElem?_cons_zero]; exact rfl) (by kernel_rfl) (by kernel_rfl) (by kernel_rfl) (by intro _ _ _ h; exact h) (Or.inl ⟨by rfl, ?y5⟩) ?_
    case y5 => (intro w _; go_simp; try (with_reducible rfl))
    try simp only [Act.put, List.setIfInBounds_toArray, List.set_cons_zero, List.set_cons_succ]
    refine wpLate_take (i := 5) (v := ?v6) (by simp only [List.getElem?_toArray, List.getElem?_cons_succ, List.getElem?_cons_zero]; exact rfl) (by kernel_rfl) (by kernel_rfl) (by kernel_rfl) (by intro _ _ _ h; exact h) (Or.inl ⟨by rfl, ?y6⟩) ?_
    case y6 => (intro w _; go_simp; try (with_reducible rfl))
    try simp only [Act.put, List.setIfInBounds_toArray, List.set_cons_zero, List.set_cons_succ]
    refine wpLate_load (i := 6) (v := ?v7) (by simp only [List.getElem?_toArray, List.getElem?_cons_succ, List.getElem?_cons_zero]; exact rfl) (by kernel_rfl) (by kernel_rfl) (by kernel_rfl) (by kernel_rfl) (by intro _ _ _ h; exact h) (Or.inl ⟨by rfl, ?y7⟩) hHeld ?_
    case y7 => (intro w hSw; (try dsimp only at hSw); go_simp; try (with_reducible rfl))
    try simp only [Act.put, List.setIfInBounds_toArray, List.set_cons_zero, List.set_cons_succ]
    refine wpLate_one (i := 7) (by kernel_rfl) (by simp only [List.getElem?_toArray, List.getElem?_cons_succ, List.getElem?_cons_zero]; exact rfl) (by kernel_rfl) (fun K hK => ?_)
    go_simp
    refine (l1Copy_any _ _ _ (hrow.drawn hdw) (by omega)).mono ?_
    rintro e w3 ⟨xc, rfl, hxc, hb3⟩
    have hqd := hq.trans (hdw.below _)
    have hq3 := hqd.trans (hb3.mono hqd.size)
    have hSd := hS.below (hdw.below wi.heap.size) (Nat.le_refl _)
    have hS3 := hSd.below (hb3.mono (Nat.le_refl _)) (by rw [hdw.heap]; exact Nat.le_refl _)
    have ho3 := (ho.drawn hdw).below hb3 (Nat.le_refl _)
    have hr3 := (hr.drawn hdw).below hb3 (Nat.le_refl _)
    have cg3 := (hb3.cell (cell_lt hHeld.2.1)).trans hHeld.2.1
    have cr3 := (hb3.cell (cell_lt hHeld.2.2)).trans hHeld.2.2
    obtain ⟨p1, p2, -, p3⟩ := own_cell ho3
    obtain ⟨xa, xcap, rfl⟩ := hxc.isSlice
    have hsz3 : w.heap.size + 3 ≤ wd.heap.size := by rw [hdw.heap]; exact hsz
    try dsimp only
    refine hK.out _ _ ?h8 (fun hHeld => ?_)
    case h8 => first | exact ⟨‹_›, ‹_›, ‹_›⟩ | (simp [*, go_sem])
    clear hK K
    try simp only [Act.put, List.setIfInBounds_toArray, List.set_cons_zero, List.set_cons_succ]
    refine wpLate_one (i := 8) (by kernel_rfl) (by simp only [List.getElem?_toArray, List.getElem?_cons_succ, List.getElem?_cons_zero]; exact rfl) (by kernel_rfl) (fun K hK => ?_)
    go_simp
    have hbb : Below w3.heap.size w3 (w3.alloc (.cells #[.slice xa l.length xcap] 26)) := (Below.refl _ _).alloc (Nat.le_refl _) _
    have p1b := (hbb.cell (cell_lt p1)).trans p1
    have cg3b := (hbb.cell (cell_lt cg3)).trans cg3
    have cr3b := (hbb.cell (cell_lt cr3)).trans cr3
    try dsimp only
    refine hK.out _ _ ?h9 (fun hHeld => ?_)
    case h9 => first | exact ⟨‹_›, ‹_›, ‹_›⟩ | (simp [*, go_sem])
    clear hK K
    try simp only [Act.put, List.setIfInBounds_toArray, List.set_cons_zero, List.set_cons_succ]
    refine wpLate_one (i := 9) (by kernel_rfl) (by simp only [List.getElem?_toArray, List.getElem?_cons_succ, List.getElem?_cons_zero]; exact rfl) (by kernel_rfl) (fun K hK => ?_)
    rw [if_pos (by rfl)]
    obtain ⟨vs, hvl, hown, hbC, hap, hrows⟩ := hS3
    rw [HLN.out] at hvl hown
    refine opWp_append1S elRows _ _ rfl hown rfl rfl rfl rfl (by omega) (by have := hb3.size; omega) ?_
    intro o5 w5 hown5 hkept hmv
    have hS5 : OwnR w5 (w.heap.size + 3) w5.heap.size 26 2 o5 (g.take k ++ [l]) := ownR_snoc (C := wi.heap.size) (v := .slice xa l.length xcap) (by rw [HLN.out]; exact hvl) (by have := hb3.size; omega) hap hrows hbC (by rw [HLN.out]; exact hown5) (hxc.weak hsz3) (fun b hb => by have := hxc.ge b hb; omega) hkept (hmv.elim Or.inl (fun h => Or.inr ⟨_, h, by simp⟩))
    have ho5 := ho3.otherT hown (by decide) hkept
    have hr5 := hr3.otherT hown (by decide) hkept
    have hq5 := hkept.below hq3 hq3.size (fun b hb => by have := (hown.lt b hb).1; omega)
    have cg5 := (World.cell?_of_block (a := ⟨w.heap.size, 0, none⟩) (hkept.2.2.2.2 w.heap.size (cell_lt cg3) (fun e => by have := (hown.lt w.heap.size e.symm).1; omega))).trans cg3
    have cr5 := (World.cell?_of_block (a := ⟨b, off + k, none⟩) (hkept.2.2.2.2 b (cell_lt cr3) (fun e => by have := (hown.lt b e.symm).1; omega))).trans cr3
    obtain ⟨p1, p2, -, p3⟩ := own_cell ho5
    obtain ⟨oa5, oc5, rfl⟩ := hown5.isSlice
    try dsimp only
    refine hK.out _ _ ?h10 (fun hHeld => ?_)
    case h10 => first | exact ⟨‹_›, ‹_›, ‹_›⟩ | (simp [*, go_sem])
    clear hK K
    try simp only [Act.put, List.setIfInBounds_toArray, List.set_cons_zero, List.set_cons_succ]
    refine wpLate_take (i := 10) (v := ?v11) (by simp only [List.getElem?_toArray, List.getElem?_cons_succ, List.getElem?_cons_zero]; exact rfl) (by kernel_rfl) (by kernel_rfl) (by kernel_rfl) (by intro _ _ _ h; exact h) (Or.inl ⟨by rfl, ?y11⟩) ?_
    case y11 => (intro w _; go_simp; try (with_reducible rfl))
    try simp only [Act.put, List.setIfInBounds_toArray, List.set_cons_zero, List.set_cons_succ]
    refine wpLate_late (i := 11) (by kernel_rfl) (by simp only [List.getElem?_toArray, List.getElem?_cons_succ, List.getElem?_cons_zero]; exact rfl) (by kernel_rfl) (fun K hK => ?_)
    go_simp
    skip
    try dsimp only
    refine hK.out _ _ ?_
    clear hK K
    try simp only [Act.put, List.setIfInBounds_toArray, List.set_cons_zero, List.set_cons_succ]
    refine wpLate_done (by kernel_rfl) ?_ _
    have ho6 := own_set ho5 (.slice oa5 (k + 1) oc5)
    have hr6 : Own (w5.setCell ⟨w.heap.size + 1 + 1, 0, none⟩ (.slice oa5 (k + 1) oc5)) (w.heap.size + 1) 29 1 (.slice (some ⟨w.heap.size + 1, 0, none⟩) 1 1) 1 [.slice none 0 0] := hr5.keep (fun b hb => Below.heap_setCell _ _ _ _ (by have : w.heap.size + 1 = b := (by simpa [Value.ownBlock] using hb); simp; omega))
    have hS6 : OwnR (w5.setCell ⟨w.heap.size + 1 + 1, 0, none⟩ (.slice oa5 (k + 1) oc5)) (w.heap.size + 3) (w5.setCell ⟨w.heap.size + 1 + 1, 0, none⟩ (.slice oa5 (k + 1) oc5)).heap.size 26 2 (.slice oa5 (k + 1) oc5) (g.take k ++ [l]) := (hS5.setOther ho5 (by decide) (by decide) (.slice oa5 (k + 1) oc5)).weaken (Nat.le_refl _) (by simp)
    have hq6 : Below w.heap.size w (w5.setCell ⟨w.heap.size + 1 + 1, 0, none⟩ (.slice oa5 (k + 1) oc5)) := hq5.setCell (by first | (simp; done) | (simp; omega)) _
    have cg6 := (World.cell?_of_block (a := ⟨w.heap.size, 0, none⟩) (Below.heap_setCell w5 ⟨w.heap.size + 1 + 1, 0, none⟩ (.slice oa5 (k + 1) oc5) _ (by simp; omega))).trans cg5
    have hz6 : w.heap.size + 3 ≤ (w5.setCell ⟨w.heap.size + 1 + 1, 0, none⟩ (.slice oa5 (k + 1) oc5)).heap.size := by have := hkept.2.2.2.1; have := hbb.size; have := hb3.size; simp at *; omega
    generalize w5.setCell ⟨w.heap.size + 1 + 1, 0, none⟩ (.slice oa5 (k + 1) oc5) = w6 at *
    go_wp2
    go_roundw
    case rel => exact ⟨k + 1, _, by omega, by go_num, by rw [HGK.out]; exact hS6, hr6, ho6, hq6, hz6, cg6⟩
    case measure => simp [RowKit.intOf]; omega
theorem wout_bits {m u : Nat} (hm : m < 4294967296) (hu : u < 32) : wout (bitsI m) (u : Int) = bitsI (andN m (bit u)) := by
  refine sorted_ext ((bitsI_sorted m).filter _) (bitsI_sorted _) fun x => ?_
  rw [wout, List.mem_filter, mem_bits_andN hm (bit_lt hu), mem_bitsI (bit_lt hu), testBit_bit]
  simp only [decide_eq_true_eq]
  constructor
  · rintro ⟨h1, h2⟩
    exact ⟨h1, fun h => h2 (by have := h.1; have := h.2; omega)⟩
  · rintro ⟨h1, h2⟩
    refine ⟨h1, fun e => h2 ⟨by omega, by omega⟩⟩
set_option maxHeartbeats 2000000 in
theorem l2Pair_any {S : Nat → Prop} {v : Value} {g : List (List Int)} {s u : Nat} {w : World} (hg : GOk g) (hv : SlR S w v g) (hs : s < g.length) (hu : u < g.length) (hne : s ≠ u) :
    Calls Tryd.prog 147 #[.agg #[v], .int .i64 (s : Int), .int .i64 (u : Int)] w fun e w' => e = .returned (.bool true) ∧ Below w.heap.size w w' := by
  obtain ⟨va, vc, rfl⟩ := hv.slice
  have hb0 : Below w.heap.size w (w.alloc (.cells #[.slice va g.length vc] 29)) := (Below.refl _ _).alloc (Nat.le_refl _) _
  have hgo := specGraphOk_any _ _ _ (hv.below hb0 (Nat.le_refl _))
  rw [gokB_iff.2 hg] at hgo
  have h16 := hg.hi
  have t1 := fun (W : World) (h : Below w.heap.size w W) => l1There_any (x := (s : Int)) h16 (hv.below h (Nat.le_refl _))
  have t2 := fun (W : World) (h : Below w.heap.size w W) => l1There_any (x := (u : Int)) h16 (hv.below h (Nat.le_refl _))
  rw [inB_true (by omega)] at t1 t2
  have hn1 : ((s : Int) == (u : Int)) = false := by rw [beq_eq_false_iff_ne]; omega
  have hn2 : (s == u) = false := by rw [beq_eq_false_iff_ne]; exact hne
  have hn3 : ((s : Int) != (u : Int)) = true := by rw [bne_iff_ne]; omega
  clear hne
  go_enter Tryd.func147, Tryd.ntmps147
  go_wp2_with fail
  refine hgo.mono ?_
  rintro e w1 ⟨rfl, hb1⟩
  have hq1 := hb0.trans (hb1.mono hb0.size)
  have c1 : w1.cell? ⟨w.heap.size, 0, none⟩ = some (.slice va g.length vc) := (hb1.cell (p := ⟨w.heap.size, 0, none⟩) (by simp)).trans (by simp [go_sem])
  clear hgo
  go_wp2_with fail
  refine (t1 _ hq1).mono ?_
  rintro e w2 ⟨rfl, hb2⟩
  have hq2 := hq1.trans (hb2.mono hq1.size)
  have c2 := (hb2.cell (cell_lt c1)).trans c1
  go_wp2_with fail
  refine (t2 _ hq2).mono ?_
  rintro e w3 ⟨rfl, hb3⟩
  have hq3 := hq2.trans (hb3.mono hq2.size)
  go_wp2
  go_ret
  exact ⟨rfl, hq3⟩
set_option maxRecDepth 100000 in
set_option maxHeartbeats 8000000 in
theorem CutEdge_any {S : Nat → Prop} {v : Value} {g : List (List Int)} {s u : Nat} {w : World} (hg : GOk g) (hv : SlR S w v g) (hs : s < g.length) (hu : u < g.length) (hne : s ≠ u) (he : (u : Int) ∈ g.getD s []) :
    Calls Tryd.prog 82 #[.agg #[v], .int .i64 (s : Int), .int .i64 (u : Int)] w fun e w' => ∃ x, e = .returned (.tuple #[.agg #[x], .bool true]) ∧ OwnR w' w.heap.size w'.heap.size 26 2 x (cutG g s u) ∧ Below w.heap.size w w' := by
  obtain ⟨va, vc, rfl⟩ := hv.slice
  obtain ⟨W, hW⟩ : ∃ W, W = (w.alloc (.cells #[.slice va g.length vc] 29)).alloc (.cells #[.slice none 0 0] 29) := ⟨_, rfl⟩
  have hq0 : Below w.heap.size w W := by rw [hW]; exact ((Below.refl _ _).alloc (Nat.le_refl _) _).alloc (by simp) _
  have hr0 : Own W (w.heap.size + 1) 29 1 (.slice (some ⟨w.heap.size + 1, 0, none⟩) 1 1) 1 [.slice none 0 0] := by
    rw [hW]
    have h := own_new (w.alloc (.cells #[.slice va g.length vc] 29)) (w.heap.size + 1) 29 (.slice none 0 0) (by simp)
    rw [show (w.alloc (.cells #[.slice va g.length vc] 29)).heap.size = w.heap.size + 1 by simp] at h
    exact h
  have c0 : W.cell? ⟨w.heap.size, 0, none⟩ = some (.slice va g.length vc) := by rw [hW]; simp [go_sem]
  have h16 := hg.hi
  -- by masks
  obtain ⟨M, hM⟩ : ∃ M, M = netsL g := ⟨_, rfl⟩
  have hgM : g = M.map bitsI := by
    rw [hM]
    apply List.ext_getElem (by simp [netsL])
    intro i h1 h2
    rw [row_bits hg h1]
    simp [netsL, h1]
  have hMl : M.length = g.length := by rw [hM, netsL_len]
  have hM32 : ∀ m ∈ M, m < 4294967296 := by rw [hM]; exact netsL_lt hg
  have hcut : cutG g s u = ((M.set s (andN (M.getD s 0) (bit u))).set u (andN (M.getD u 0) (bit s))).map bitsI := by
    have e1 : (M.set s (andN (M.getD s 0) (bit u))).getD u 0 = M.getD u 0 := by simp [List.getD_eq_getElem?_getD, List.getElem?_set_ne hne]
    rw [cutG, ← hM, cutN, cutAt, cutAt, e1]
  have hq0s := hq0.size
  have hpr := l2Pair_any hg (hv.below hq0 (Nat.le_refl _)) hs hu hne
  have hed := fun (W' : World) (h : Below w.heap.size w W') => l1Edge_any (x := (u : Int)) (hv.below h (Nat.le_refl _)) hs
  rw [decide_eq_true he] at hed
  have hcp := fun (W' : World) (h : Below w.heap.size w W') => l1CopyGraph_any (hv.below h (Nat.le_refl _)) (show SmallR g 1000 from ⟨by omega, fun i hi _ => by have := hg.rowlen hi; omega⟩) (by omega)
  have HWW := Lib.hid hW
  have HC := Lib.hid hcut
  have HM32 := Lib.hid hM32
  have HNE := Lib.hid hne
  have HML := Lib.hid hMl
  have HGM := Lib.hid hgM
  have hsM : s < M.length := by omega
  have huM : u < M.length := by omega
  clear hW hcut hM32 hne he hM hgM hg hMl
  rw [HC.out]
  rw [HWW.out] at hpr
  go_enter Tryd.func82, Tryd.ntmps82
  go_wp2_with fail
  refine hpr.mono ?_
  rintro e w1 ⟨rfl, hb1⟩
  rw [← HWW.out] at hb1
  have hq1 := hq0.trans (hb1.mono hq0.size)
  have c1 := (hb1.cell (cell_lt c0)).trans c0
  have hr1 := hr0.below hb1 (Nat.le_refl _)
  clear hpr c0 hr0
  go_wp2_with fail
  refine (hed _ hq1).mono ?_
  rintro e w2 ⟨rfl, hb2⟩
  have hq2 := hq1.trans (hb2.mono hq1.size)
  have c2 := (hb2.cell (cell_lt c1)).trans c1
  have hr2 := hr1.below hb2 (Nat.le_refl _)
  clear hed c1 hr1
  go_wp2_with fail
  refine (hcp _ hq2).mono ?_
  rintro e w3 ⟨x, rfl, hx, hb3⟩
  have hq3 := hq2.trans (hb3.mono hq2.size)
  have hr3 := hr2.below hb3 (Nat.le_refl _)
  have hz3 := hb3.size
  have hz2 := hq2.size
  have hz2b := (own_cell hr2).2.2.2
  clear hcp c2 hr2
  rw [HGM.out] at hx
  obtain ⟨ab, uc, rfl⟩ : ∃ ab uc, x = .slice (some ⟨ab, 0, none⟩) M.length uc := by
    obtain ⟨vs, -, h, -⟩ := hx
    rw [List.length_map] at h
    exact own_some h (by omega)
  go_wp2_with fail
  have hm1 : M.getD s 0 = M[s] := by simp [hsM]
  have hm2 : M.getD u 0 = M[u] := by simp [huM]
  have hl1 : (bitsI M[s]).length ≤ 32 := bitsI_len _
  have hl2 : (bitsI M[u]).length ≤ 32 := bitsI_len _
  have HI := Lib.hid (show (M.set s (andN M[s] (bit u)))[u]'(by simpa using huM) = M[u] from List.getElem_set_ne HNE.out _)
  have hb4 : Below w3.heap.size w3 (w3.alloc (.cells #[.slice (some ⟨ab, 0, none⟩) M.length uc] 29)) := (Below.refl _ _).alloc (Nat.le_refl _) _
  have hx4 := hx.below hb4 (Nat.le_refl _)
  have hr4 := hr3.below hb4 (Nat.le_refl _)
  have hq4 := hq3.trans (hb4.mono hq3.size)
  have hbox := own_new w3 w3.heap.size 29 (.slice (some ⟨ab, 0, none⟩) M.length uc) (Nat.le_refl _)
  obtain ⟨ra, rc, hcr, -, -, hab, hBab⟩ := hx4.rowM hsM
  have hab3 : ab < w3.heap.size := by
    obtain ⟨vs, -, h, -⟩ := hx
    exact (h.lt ab rfl).2
  have hlm : (M.map bitsI).length = M.length := by simp
  have hw1l := wout_bits (HM32.out M[s] (List.getElem_mem hsM)) (show u < 32 by omega)
  have hw2l := wout_bits (HM32.out M[u] (List.getElem_mem huM)) (show s < 32 by omega)
  have HW1 := Lib.hid hw1l
  have HW2 := Lib.hid hw2l
  have cbx := (own_cell hbox).1
  clear hx hr3 hq3 hw1l hw2l hm1 hm2
  refine wp_region_late (S := (fun w' => w'.cell? ⟨w3.heap.size, 0, none⟩ = some (.slice (some ⟨ab, 0, none⟩) M.length uc) ∧ w'.cell? ⟨ab, s, none⟩ = some (.slice ra (bitsI M[s]).length rc))) (late := [11]) (by kernel_rfl) ?_ (fun hHeld => ?_)
  · first | exact ⟨‹_›, ‹_›⟩ | (simp [*, go_sem])
  obtain ⟨d0, dr⟩ := hHeld
  have hu1 := hx4.drewR
  have hq5 := hq4.drew
  have hr5 := hr4.drawn (Drawn.refl _).drew
  have hbx5 := hbox.drawn (Drawn.refl _).drew
  have hsz5 : (w3.alloc (.cells #[.slice (some ⟨ab, 0, none⟩) M.length uc] 29)).drew.heap.size = w3.heap.size + 1 := by simp [World.drew]
  generalize World.drew _ = wd at d0 dr hu1 hq5 hr5 hbx5 hsz5 ⊢
  have hHeld : (fun w' => World.cell? w' ⟨w3.heap.size, 0, none⟩ = some (.slice (some ⟨ab, 0, none⟩) M.length uc) ∧ World.cell? w' ⟨ab, s, none⟩ = some (.slice ra (bitsI M[s]).length rc)) wd := ⟨d0, dr⟩
  obtain ⟨ra', rc', hc1, hf1, hown1, -, -⟩ := hu1.rowM hsM
  obtain ⟨rfl, rfl⟩ : ra' = ra ∧ rc' = rc := by simpa using (Option.some.inj (hc1.symm.trans dr))
  refine wpLate_take (i := 0) (v := ?v13) (by simp only [List.getElem?_toArray, List.getElem?_cons_zero]; exact rfl) (by kernel_rfl) (by kernel_rfl) (by kernel_rfl) (by intro _ _ _ h; exact h) (Or.inl ⟨by rfl, ?y13⟩) ?_
  case y13 => (intro w _; go_simp; try (with_reducible rfl))
  try simp only [Act.put, List.setIfInBounds_toArray, List.set_cons_zero, List.set_cons_succ]
  refine wpLate_load (i := 1) (v := ?v14) (by simp only [List.getElem?_toArray, List.getElem?_cons_succ, List.getElem?_cons_zero]; exact rfl) (by kernel_rfl) (by kernel_rfl) (by kernel_rfl) (by kernel_rfl) (by intro _ _ _ h; exact h) (Or.inl ⟨by rfl, ?y14⟩) hHeld ?_
  case y14 => (intro w hSw; (try dsimp only at hSw); go_simp; try (with_reducible rfl))
  try simp only [Act.put, List.setIfInBounds_toArray, List.set_cons_zero, List.set_cons_succ]
  refine wpLate_take (i := 2) (v := ?v15) (by simp only [List.getElem?_toArray, List.getElem?_cons_succ, List.getElem?_cons_zero]; exact rfl) (by kernel_rfl) (by kernel_rfl) (by kernel_rfl) (by intro _ _ _ h; exact h) (Or.inl ⟨by rfl, ?y15⟩) ?_
  case y15 => (intro w _; go_simp; try (with_reducible rfl))
  try simp only [Act.put, List.setIfInBounds_toArray, List.set_cons_zero, List.set_cons_succ]
  refine wpLate_take (i := 3) (v := ?v16) (by simp only [List.getElem?_toArray, List.getElem?_cons_succ, List.getElem?_cons_zero]; exact rfl) (by kernel_rfl) (by kernel_rfl) (by kernel_rfl) (by intro _ _ _ h; exact h) (Or.inl ⟨by rfl, ?y16⟩) ?_
  case y16 => (intro w _; go_simp; try (with_reducible rfl))
  try simp only [Act.put, List.setIfInBounds_toArray, List.set_cons_zero, List.set_cons_succ]
  refine wpLate_load (i := 4) (v := ?v17) (by simp only [List.getElem?_toArray, List.getElem?_cons_succ, List.getElem?_cons_zero]; exact rfl) (by kernel_rfl) (by kernel_rfl) (by kernel_rfl) (by kernel_rfl) (by intro _ _ _ h; exact h) (Or.inl ⟨by rfl, ?y17⟩) hHeld ?_
  case y17 => (intro w hSw; (try dsimp only at hSw); go_simp; try (with_reducible rfl))
  try simp only [Act.put, List.setIfInBounds_toArray, List.set_cons_zero, List.set_cons_succ]
  refine wpLate_take (i := 5) (v := ?v18) (by simp only [List.getElem?_toArray, List.getElem?_cons_succ, List.getElem?_cons_zero]; exact rfl) (by kernel_rfl) (by kernel_rfl) (by kernel_rfl) (by intro _ _ _ h; exact h) (Or.inl ⟨by rfl, ?y18⟩) ?_
  case y18 => (intro w _; go_simp; try (with_reducible rfl))
  try simp only [Act.put, List.setIfInBounds_toArray, List.set_cons_zero, List.set_cons_succ]
  refine wpLate_take (i := 6) (v := ?v19) (by simp only [List.getElem?_toArray, List.getElem?_cons_succ, List.getElem?_cons_zero]; exact rfl) (by kernel_rfl) (by kernel_rfl) (by kernel_rfl) (by intro _ _ _ h; exact h) (Or.inl ⟨by rfl, ?y19⟩) ?_
  case y19 => (intro w _; go_simp; try (with_reducible rfl))
  try simp only [Act.put, List.setIfInBounds_toArray, List.set_cons_zero, List.set_cons_succ]
  refine wpLate_load (i := 7) (v := ?v20) (by simp only [List.getElem?_toArray, List.getElem?_cons_succ, List.getElem?_cons_zero]; exact rfl) (by kernel_rfl) (by kernel_rfl) (by kernel_rfl) (by kernel_rfl) (by intro _ _ _ h; exact h) (Or.inl ⟨by rfl, ?y20⟩) hHeld ?_
  case y20 => (intro w hSw; (try dsimp only at hSw); go_simp; try (with_reducible rfl))
  try simp only [Act.put, List.setIfInBounds_toArray, List.set_cons_zero, List.set_cons_succ]
  refine wpLate_take (i := 8) (v := ?v21) (by simp only [List.getElem?_toArray, List.getElem?_cons_succ, List.getElem?_cons_zero]; exact rfl) (by kernel_rfl) (by kernel_rfl) (by kernel_rfl) (by intro _ _ _ h; exact h) (Or.inl ⟨by rfl, ?y21⟩) ?_
  case y21 => (intro w _; go_simp; try (with_reducible rfl))
  try simp only [Act.put, List.setIfInBounds_toArray, List.set_cons_zero, List.set_cons_succ]
  refine wpLate_one (i := 9) (by kernel_rfl) (by simp only [List.getElem?_toArray, List.getElem?_cons_succ, List.getElem?_cons_zero]; exact rfl) (by kernel_rfl) (fun K hK => ?_)
  go_simp
  refine (l2Without_any (Own.ints (xs := bitsI M[s]) hown1 (by omega)) (by omega)).mono ?_
  rintro e wn ⟨v1, rfl, hv1, hbn⟩
  rw [HW1.out] at hv1
  obtain ⟨v1a, v1c, rfl⟩ := Own.isSlice hv1
  have hR1 := ownR_set hu1 hbn (by omega) (by omega) (by rw [hlm]; exact hsM) hv1
  rw [← List.map_set] at hR1
  have hf1 := (hbn.frozen (p := ⟨ab, s, none⟩) (by show ab < _; omega)).trans hf1
  have d0 := (hbn.cell (cell_lt d0)).trans d0
  have dr := (hbn.cell (cell_lt dr)).trans dr
  have hq6 := hq5.trans (hbn.mono hq5.size)
  have hr6 := hr5.below hbn (Nat.le_refl _)
  have hbx6 := hbx5.below hbn (Nat.le_refl _)
  try dsimp only
  refine hK.out _ _ ?h22 (fun hHeld => ?_)
  case h22 => first | exact ⟨‹_›, ‹_›⟩ | (simp [*, go_sem])
  clear hK K
  try simp only [Act.put, List.setIfInBounds_toArray, List.set_cons_zero, List.set_cons_succ]
  refine wpLate_take (i := 10) (v := ?v23) (by simp only [List.getElem?_toArray, List.getElem?_cons_succ, List.getElem?_cons_zero]; exact rfl) (by kernel_rfl) (by kernel_rfl) (by kernel_rfl) (by intro _ _ _ h; exact h) (Or.inl ⟨by rfl, ?y23⟩) ?_
  case y23 => (intro w _; go_simp; try (with_reducible rfl))
  try simp only [Act.put, List.setIfInBounds_toArray, List.set_cons_zero, List.set_cons_succ]
  refine wpLate_late (i := 11) (by kernel_rfl) (by simp only [List.getElem?_toArray, List.getElem?_cons_succ, List.getElem?_cons_zero]; exact rfl) (by kernel_rfl) (fun K hK => ?_)
  go_simp
  skip
  try dsimp only
  refine hK.out _ _ ?_
  clear hK K
  try simp only [Act.put, List.setIfInBounds_toArray, List.set_cons_zero, List.set_cons_succ]
  refine wpLate_done (by kernel_rfl) ?_ _
  have hwn := hbn.size
  have hq7 : Below w.heap.size w (wn.setCell ⟨ab, s, none⟩ (.slice v1a (bitsI (andN M[s] (bit u))).length v1c)) := hq6.setCell (by simp; omega) _
  have d7 : (wn.setCell ⟨ab, s, none⟩ (.slice v1a (bitsI (andN M[s] (bit u))).length v1c)).cell? ⟨w3.heap.size, 0, none⟩ = some (.slice (some ⟨ab, 0, none⟩) M.length uc) := (World.cell?_of_block (a := ⟨w3.heap.size, 0, none⟩) (Below.heap_setCell _ _ _ _ (by simp; omega))).trans d0
  have hr7 := hr6.keep (w' := (wn.setCell ⟨ab, s, none⟩ (.slice v1a (bitsI (andN M[s] (bit u))).length v1c))) (fun b hb => Below.heap_setCell _ _ _ _ (by have hbe : w.heap.size + 1 = b := (by simpa [Value.ownBlock] using hb); (simp; omega)))
  have hbx7 := hbx6.keep (w' := (wn.setCell ⟨ab, s, none⟩ (.slice v1a (bitsI (andN M[s] (bit u))).length v1c))) (fun b hb => Below.heap_setCell _ _ _ _ (by have hbe : w3.heap.size = b := (by simpa [Value.ownBlock] using hb); (simp; omega)))
  have hM1l : (M.set s (andN M[s] (bit u))).length = M.length := by simp
  have huM1 : u < (M.set s (andN M[s] (bit u))).length := by rw [hM1l]; exact huM
  have hsz7 : wn.heap.size = (wn.setCell ⟨ab, s, none⟩ (.slice v1a (bitsI (andN M[s] (bit u))).length v1c)).heap.size := by simp
  have HM1L := Lib.hid hM1l
  rw [← hM1l] at hR1 d7
  have hC1 : wn.heap.size ≤ (wn.setCell ⟨ab, s, none⟩ (.slice v1a (bitsI (andN M[s] (bit u))).length v1c)).heap.size := by simp
  have hle7 : w3.heap.size + 1 ≤ wn.heap.size := by omega
  generalize (wn.setCell ⟨ab, s, none⟩ (.slice v1a (bitsI (andN M[s] (bit u))).length v1c)) = wz at *
  clear hq4 hq5 hq6 hc1 dr d0 hf1 hown1 hv1 hbn hr5 hr6 hbx5 hbx6 hu1 hM1l hx4 hr4 hbox cbx hcr
  obtain ⟨ra2, rc2, d1, -, -, habz, -⟩ := hR1.rowM huM1
  simp only [HI.out] at d1
  have hrd := fun (W : World) (h : OwnR W w2.heap.size wn.heap.size 26 2 (.slice (some ⟨ab, 0, none⟩) (M.set s (andN M[s] (bit u))).length uc) ((M.set s (andN M[s] (bit u))).map bitsI)) => h.rowM huM1
  simp only [HI.out] at hrd
  have hlm2 : ((M.set s (andN M[s] (bit u))).map bitsI).length = (M.set s (andN M[s] (bit u))).length := by simp
  clear HI
  have HRES := Lib.hid (show (M.set s (andN (M.getD s 0) (bit u))).set u (andN (M.getD u 0) (bit s)) = (M.set s (andN M[s] (bit u))).set u (andN M[u] (bit s)) by rw [show M.getD s 0 = M[s] by simp [hsM], show M.getD u 0 = M[u] by simp [huM]])
  generalize hM1 : M.set s (andN M[s] (bit u)) = M1 at *
  have HM1 := Lib.hid hM1
  clear hM1 hlm
  have hl16 : M1.length ≤ 16 := by rw [HM1L.out, HML.out]; exact h16
  go_wp2
  refine wp_region_late (S := (fun w' => w'.cell? ⟨w3.heap.size, 0, none⟩ = some (.slice (some ⟨ab, 0, none⟩) M1.length uc) ∧ w'.cell? ⟨ab, u, none⟩ = some (.slice ra2 (bitsI M[u]).length rc2))) (late := [11]) (by kernel_rfl) ?_ (fun hHeld => ?_)
  · first | exact ⟨‹_›, ‹_›⟩ | (simp [*, go_sem])
  obtain ⟨d0, dr⟩ := hHeld
  have hu1 := hR1.drewR
  have hq8 := hq7.drew
  have hr8 := hr7.drawn (Drawn.refl _).drew
  have hbx8 := hbx7.drawn (Drawn.refl _).drew
  have hsz8 : wz.drew.heap.size = wz.heap.size := rfl
  generalize World.drew _ = wd2 at d0 dr hu1 hq8 hr8 hbx8 hsz8 ⊢
  have hHeld : (fun w' => World.cell? w' ⟨w3.heap.size, 0, none⟩ = some (.slice (some ⟨ab, 0, none⟩) M1.length uc) ∧ World.cell? w' ⟨ab, u, none⟩ = some (.slice ra2 (bitsI M[u]).length rc2)) wd2 := ⟨d0, dr⟩
  obtain ⟨ra', rc', hc1, hf1, hown1, -, -⟩ := hrd _ hu1
  obtain ⟨rfl, rfl⟩ : ra' = ra2 ∧ rc' = rc2 := by simpa using (Option.some.inj (hc1.symm.trans dr))
  refine wpLate_take (i := 0) (v := ?v25) (by simp only [List.getElem?_toArray, List.getElem?_cons_zero]; exact rfl) (by kernel_rfl) (by kernel_rfl) (by kernel_rfl) (by intro _ _ _ h; exact h) (Or.inl ⟨by rfl, ?y25⟩) ?_
  case y25 => (intro w _; go_simp; try (with_reducible rfl))
  try simp only [Act.put, List.setIfInBounds_toArray, List.set_cons_zero, List.set_cons_succ]
  refine wpLate_load (i := 1) (v := ?v26) (by simp only [List.getElem?_toArray, List.getElem?_cons_succ, List.getElem?_cons_zero]; exact rfl) (by kernel_rfl) (by kernel_rfl) (by kernel_rfl) (by kernel_rfl) (by intro _ _ _ h; exact h) (Or.inl ⟨by rfl, ?y26⟩) hHeld ?_
  case y26 => (intro w hSw; (try dsimp only at hSw); go_simp; try (with_reducible rfl))
  try simp only [Act.put, List.setIfInBounds_toArray, List.set_cons_zero, List.set_cons_succ]
  refine wpLate_take (i := 2) (v := ?v27) (by simp only [List.getElem?_toArray, List.getElem?_cons_succ, List.getElem?_cons_zero]; exact rfl) (by kernel_rfl) (by kernel_rfl) (by kernel_rfl) (by intro _ _ _ h; exact h) (Or.inl ⟨by rfl, ?y27⟩) ?_
  case y27 => (intro w _; go_simp; try (with_reducible rfl))
  try simp only [Act.put, List.setIfInBounds_toArray, List.set_cons_zero, List.set_cons_succ]
  refine wpLate_take (i := 3) (v := ?v28) (by simp only [List.getElem?_toArray, List.getElem?_cons_succ, List.getElem?_cons_zero]; exact rfl) (by kernel_rfl) (by kernel_rfl) (by kernel_rfl) (by intro _ _ _ h; exact h) (Or.inl ⟨by rfl, ?y28⟩) ?_
  case y28 => (intro w _; go_simp; try (with_reducible rfl))
  try simp only [Act.put, List.setIfInBounds_toArray, List.set_cons_zero, List.set_cons_succ]
  refine wpLate_load (i := 4) (v := ?v29) (by simp only [List.getElem?_toArray, List.getElem?_cons_succ, List.getElem?_cons_zero]; exact rfl) (by kernel_rfl) (by kernel_rfl) (by kernel_rfl) (by kernel_rfl) (by intro _ _ _ h; exact h) (Or.inl ⟨by rfl, ?y29⟩) hHeld ?_
  case y29 => (intro w hSw; (try dsimp only at hSw); go_simp; try (with_reducible rfl))
  try simp only [Act.put, List.setIfInBounds_toArray, List.set_cons_zero, List.set_cons_succ]
  refine wpLate_take (i := 5) (v := ?v30) (by simp only [List.getElem?_toArray, List.getElem?_cons_succ, List.getElem?_cons_zero]; exact rfl) (by kernel_rfl) (by kernel_rfl) (by kernel_rfl) (by intro _ _ _ h; exact h) (Or.inl ⟨by rfl, ?y30⟩) ?_
  case y30 => (intro w _; go_simp; try (with_reducible rfl))
  try simp only [Act.put, List.setIfInBounds_toArray, List.set_cons_zero, List.set_cons_succ]
  refine wpLate_take (i := 6) (v := ?v31) (by simp only [List.getElem?_toArray, List.getElem?_cons_succ, List.getElem?_cons_zero]; exact rfl) (by kernel_rfl) (by kernel_rfl) (by kernel_rfl) (by intro _ _ _ h; exact h) (Or.inl ⟨by rfl, ?y31⟩) ?_
  case y31 => (intro w _; go_simp; try (with_reducible rfl))
  try simp only [Act.put, List.setIfInBounds_toArray, List.set_cons_zero, List.set_cons_succ]
  refine wpLate_load (i := 7) (v := ?v32) (by simp only [List.getElem?_toArray, List.getElem?_cons_succ, List.getElem?_cons_zero]; exact rfl) (by kernel_rfl) (by kernel_rfl) (by kernel_rfl) (by kernel_rfl) (by intro _ _ _ h; exact h) (Or.inl ⟨by rfl, ?y32⟩) hHeld ?_
  case y32 => (intro w hSw; (try dsimp only at hSw); go_simp; try (with_reducible rfl))
  try simp only [Act.put, List.setIfInBounds_toArray, List.set_cons_zero, List.set_cons_succ]
  refine wpLate_take (i := 8) (v := ?v33) (by simp only [List.getElem?_toArray, List.getElem?_cons_succ, List.getElem?_cons_zero]; exact rfl) (by kernel_rfl) (by kernel_rfl) (by kernel_rfl) (by intro _ _ _ h; exact h) (Or.inl ⟨by rfl, ?y33⟩) ?_
  case y33 => (intro w _; go_simp; try (with_reducible rfl))
  try simp only [Act.put, List.setIfInBounds_toArray, List.set_cons_zero, List.set_cons_succ]
  refine wpLate_one (i := 9) (by kernel_rfl) (by simp only [List.getElem?_toArray, List.getElem?_cons_succ, List.getElem?_cons_zero]; exact rfl) (by kernel_rfl) (fun K hK => ?_)
  go_simp
  refine (l2Without_any (Own.ints (xs := bitsI M[u]) hown1 (by omega)) (by omega)).mono ?_
  rintro e wn2 ⟨v2, rfl, hv2, hbn⟩
  rw [HW2.out] at hv2
  obtain ⟨v2a, v2c, rfl⟩ := Own.isSlice hv2
  have hR2 := ownR_set hu1 hbn (by omega) (by omega) (by rw [hlm2]; exact huM1) hv2
  rw [← List.map_set] at hR2
  have hf1 := (hbn.frozen (p := ⟨ab, u, none⟩) (by show ab < _; omega)).trans hf1
  have d0 := (hbn.cell (cell_lt d0)).trans d0
  have dr := (hbn.cell (cell_lt dr)).trans dr
  have hq9 := hq8.trans (hbn.mono hq8.size)
  have hr9 := hr8.below hbn (Nat.le_refl _)
  have hbx9 := hbx8.below hbn (Nat.le_refl _)
  try dsimp only
  refine hK.out _ _ ?h34 (fun hHeld => ?_)
  case h34 => first | exact ⟨‹_›, ‹_›⟩ | (simp [*, go_sem])
  clear hK K
  try simp only [Act.put, List.setIfInBounds_toArray, List.set_cons_zero, List.set_cons_succ]
  refine wpLate_take (i := 10) (v := ?v35) (by simp only [List.getElem?_toArray, List.getElem?_cons_succ, List.getElem?_cons_zero]; exact rfl) (by kernel_rfl) (by kernel_rfl) (by kernel_rfl) (by intro _ _ _ h; exact h) (Or.inl ⟨by rfl, ?y35⟩) ?_
  case y35 => (intro w _; go_simp; try (with_reducible rfl))
  try simp only [Act.put, List.setIfInBounds_toArray, List.set_cons_zero, List.set_cons_succ]
  refine wpLate_late (i := 11) (by kernel_rfl) (by simp only [List.getElem?_toArray, List.getElem?_cons_succ, List.getElem?_cons_zero]; exact rfl) (by kernel_rfl) (fun K hK => ?_)
  go_simp
  skip
  try dsimp only
  refine hK.out _ _ ?_
  clear hK K
  try simp only [Act.put, List.setIfInBounds_toArray, List.set_cons_zero, List.set_cons_succ]
  refine wpLate_done (by kernel_rfl) ?_ _
  have hwn2 := hbn.size
  have hqa : Below w.heap.size w (wn2.setCell ⟨ab, u, none⟩ (.slice v2a (bitsI (andN M[u] (bit s))).length v2c)) := hq9.setCell (by simp; omega) _
  have da : (wn2.setCell ⟨ab, u, none⟩ (.slice v2a (bitsI (andN M[u] (bit s))).length v2c)).cell? ⟨w3.heap.size, 0, none⟩ = some (.slice (some ⟨ab, 0, none⟩) M1.length uc) := (World.cell?_of_block (a := ⟨w3.heap.size, 0, none⟩) (Below.heap_setCell _ _ _ _ (by simp; omega))).trans d0
  have hra := hr9.keep (w' := (wn2.setCell ⟨ab, u, none⟩ (.slice v2a (bitsI (andN M[u] (bit s))).length v2c))) (fun b hb => Below.heap_setCell _ _ _ _ (by have hbe : w.heap.size + 1 = b := (by simpa [Value.ownBlock] using hb); (simp; omega)))
  have hCa : wn2.heap.size ≤ (wn2.setCell ⟨ab, u, none⟩ (.slice v2a (bitsI (andN M[u] (bit s))).length v2c)).heap.size := by simp
  generalize (wn2.setCell ⟨ab, u, none⟩ (.slice v2a (bitsI (andN M[u] (bit s))).length v2c)) = wy at *
  clear hq8 hq9 hc1 dr d0 hf1 hown1 hv2 hbn hr8 hr9 hbx8 hbx9 hu1 hbx7 hr7 hq7 hR1 d1 d7 hrd
  obtain ⟨x1, x2, -, -⟩ := own_cell hra
  go_wp2
  refine bodyPost_ret (v := .tuple #[.agg #[.slice (some ⟨ab, 0, none⟩) M1.length uc], .bool true]) (by simp [results, Tryd.results82, go_sem, x1]) rfl ⟨_, rfl, ?_, hqa.setCell (by simp) _⟩
  rw [HRES.out]
  exact (hR2.setOther hra (by decide) (by decide) (.slice (some ⟨ab, 0, none⟩) M1.length uc)).weaken (B1 := w.heap.size) (by omega) (by simp; omega)
end Go.Proofs.YthpbeiihlembnaaDoor
