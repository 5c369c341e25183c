/- The law of sides. -/
import Derived.Test.YthpbeiihlembnaaDoorDraw
import Derived.Test.YthpbeiihlembnaaDoorEdge
import Derived.Test.YthpbeiihlembnaaDoorPairs
import Derived.Test.YthpbeiihlembnaaDoorLoopL
import Derived.Test.YthpbeiihlembnaaDoorTrail
import Derived.Test.YthpbeiihlembnaaDoorSub1
import Derived.Test.YthpbeiihlembnaaDoorFit4
import Derived.Test.YthpbeiihlembnaaDoorOddI
namespace Go.Proofs.YthpbeiihlembnaaDoor
open Go.RowKit
theorem repl_bitsS (n : Nat) : List.replicate n ([] : List Int) = (List.replicate n 0).map bitsI := by simp [bitsI, bitsN_zero]
/-- The edges as pairs. -/
theorem edgesTo_pairs {g : List (List Int)} (hg : GOk g) : ∀ k, k ≤ g.length → ∃ L : List NP, edgesTo g k = rowsP L ∧ L.Nodup ∧ ∀ s ∈ L, s.1 < k ∧ s.1 < s.2 ∧ s.2 < g.length
  | 0, _ => ⟨[], rfl, List.nodup_nil, fun s h => by cases h⟩
  | k + 1, hk => by
    obtain ⟨L, h1, h2, h3⟩ := edgesTo_pairs hg k (by omega)
    have hrow : ∀ row : List Int, row.Pairwise (· < ·) → (∀ x ∈ row, 0 ≤ x ∧ x < g.length) → ∃ M : List NP, edgeRow k row = rowsP M ∧ M.Nodup ∧ ∀ s ∈ M, s.1 = k ∧ s.1 < s.2 ∧ s.2 < g.length ∧ (s.2 : Int) ∈ row := by
      intro row
      induction row with
      | nil => exact fun _ _ => ⟨[], rfl, List.nodup_nil, fun s h => by cases h⟩
      | cons x row ih =>
        intro hp hb
        obtain ⟨M, m1, m2, m3⟩ := ih (List.pairwise_cons.1 hp).2 (fun y hy => hb y (by simp [hy]))
        have hx := hb x (by simp)
        by_cases hkx : (k : Int) < x
        · refine ⟨(k, x.toNat) :: M, ?_, List.nodup_cons.2 ⟨fun hm => ?_, m2⟩, fun s hs => ?_⟩
          · have e : edgeRow k (x :: row) = [(k : Int), x] :: edgeRow k row := by simp [edgeRow, hkx]
            rw [e, m1]
            simp [rowsP, rowP]
            omega
          · have := (m3 _ hm).2.2.2
            have := (List.pairwise_cons.1 hp).1 _ this
            simp only at this
            omega
          · rcases List.mem_cons.1 hs with rfl | hs
            · exact ⟨rfl, by simp only; omega, by simp only; omega, by simp only; rw [Int.toNat_of_nonneg hx.1]; simp⟩
            · obtain ⟨a, b, c, d⟩ := m3 s hs
              exact ⟨a, b, c, by simp [d]⟩
        · refine ⟨M, ?_, m2, fun s hs => ?_⟩
          · have e : edgeRow k (x :: row) = edgeRow k row := by simp [edgeRow, hkx]
            rw [e, m1]
          · obtain ⟨a, b, c, d⟩ := m3 s hs
            exact ⟨a, b, c, by simp [d]⟩
    have hgk : g.getD k [] = g[k] := by rw [List.getD_eq_getElem?_getD, List.getElem?_eq_getElem (by omega)]; rfl
    obtain ⟨M, m1, m2, m3⟩ := hrow (g.getD k []) (by rw [hgk]; exact rise_sorted (hg.rise k (by omega))) (by rw [hgk]; exact rise_ge (hg.rise k (by omega)))
    refine ⟨L ++ M, by rw [edgesTo, h1, m1, rowsP_app], ?_, fun s hs => ?_⟩
    · rw [List.nodup_append]
      refine ⟨h2, m2, fun a ha b hb e => ?_⟩
      subst e
      have := (h3 a ha).1
      have := (m3 a hb).1
      omega
    · rcases List.mem_append.1 hs with h | h
      · have := h3 s h; omega
      · have := m3 s h; omega
theorem edges_pairs {g : List (List Int)} (hg : GOk g) : ∃ L : List NP, edgesL g = rowsP L ∧ L.Nodup ∧ ∀ s ∈ L, s.1 < s.2 ∧ s.2 < g.length := by
  obtain ⟨L, h1, h2, h3⟩ := edgesTo_pairs hg g.length (Nat.le_refl _)
  exact ⟨L, h1, h2, fun s hs => (h3 s hs).2⟩
set_option maxRecDepth 100000 in
set_option maxHeartbeats 8000000 in
theorem l3Draw_any {d : Nat} {bs : List Int} {w : World} (hd : Cur w d bs) (hl : bs.length ≤ 4096) :
    Calls Tryd.prog 98 #[.pointer (some ⟨d, 0, none⟩)] w (AnyG d bs w) := by
  have hdl := hd.lt
  have hb0 : Below w.heap.size w (w.alloc (.cells #[.slice none 0 0] 29)) := (Below.refl _ _).alloc (Nat.le_refl _) _
  have hr0 := own_new w w.heap.size 29 (.slice none 0 0) (Nat.le_refl _)
  have hm0 := Mv.start hd hb0 (Nat.le_refl _)
  have hdr := l1DrawAny_any hm0.1 hl
  go_enter Tryd.func98, Tryd.ntmps98
  go_wp2_with fail
  refine hdr.mono ?_
  rintro e w1 ⟨u, g, rfl, hS, hgl, hgr, hm1⟩
  have hr1 := own1_kept hr0 hm1.2 (by simp; omega)
  have hm1 := hm0.trans hm1
  have hw1s : w.heap.size < w1.heap.size := (hr1.lt _ rfl).2
  obtain ⟨ua, uc, rfl⟩ := hS.slice
  have hb2 : Below w1.heap.size w1 (w1.alloc (.cells #[.slice ua g.length uc] 29)) := (Below.refl _ _).alloc (Nat.le_refl _) _
  have hm2 := hm1.below hb2 (Nat.le_refl _)
  have hr2 := hr1.below hb2 (Nat.le_refl _)
  have ho2 := own_new w1 w.heap.size 29 (.slice ua g.length uc) (by omega)
  have hS2 := hS.baseKeep (B' := w.heap.size + 1) (fun b h1 h2 => hb2.block b h2) hb2.size (by simp)
  clear hdr hm0 hm1 hr0 hr1 hb0 hb2 hS
  go_wp2_with fail
  refine (l1Once_any (n := 2) hm2.1 hl (by omega)).mono ?_
  rintro e w3 ⟨b, rfl, hm3⟩
  have hr3 := own1_kept hr2 hm3.2 (by simp; omega)
  have ho3 := own1_kept ho2 hm3.2 (by simp; omega)
  have hS3 := hS2.baseKeep (B' := w.heap.size + 1) (fun b h1 h2 => hm3.2.2.2.2.2 b h2 (by simp; omega)) hm3.size (Nat.le_refl _)
  have hm3 := hm2.trans hm3
  have hms3 := hm3.size
  obtain ⟨r1, r2, -, -⟩ := own_cell hr3
  obtain ⟨o1, o2, -, -⟩ := own_cell ho3
  clear hr2 ho2 hS2 hm2
  cases b with
  | true =>
    go_wp2
    refine bodyPost_ret (v := .agg #[.slice ua g.length uc]) (by simp [results, Tryd.results98, go_sem, r1]) rfl ⟨_, g, rfl, ?_, hgl, hgr, hm3.base ((Below.refl _ _).setCell (by simp) _) hdl⟩
    exact hS3.baseKeep (fun b h1 h2 => Below.heap_setCell _ _ _ _ (by simp; omega)) (by simp) (by omega)
  | false =>
  have hgo := specGraphOk_any _ _ _ hS3
  by_cases hgb : gokB g = true
  case neg =>
    rw [Bool.not_eq_true] at hgb
    rw [hgb] at hgo
    clear hgb
    go_wp2_with fail
    refine hgo.mono ?_
    rintro e w4 ⟨rfl, hb4⟩
    have hr4 := hr3.below hb4 (Nat.le_refl _)
    have ho4 := ho3.below hb4 (Nat.le_refl _)
    have hm4 := hm3.below hb4 (Nat.le_refl _)
    have hS4 := hS3.baseKeep (B' := w.heap.size + 1) (fun b h1 h2 => hb4.block b h2) hb4.size (Nat.le_refl _)
    obtain ⟨x1, x2, -, -⟩ := own_cell hr4
    obtain ⟨y1, y2, -, -⟩ := own_cell ho4
    clear r1 r2 o1 o2 hgo
    go_wp2
    refine bodyPost_ret (v := .agg #[.slice ua g.length uc]) (by simp [results, Tryd.results98, go_sem, x1]) rfl ⟨_, g, rfl, ?_, hgl, hgr, hm4.base ((Below.refl _ _).setCell (by simp) _) hdl⟩
    exact hS4.baseKeep (fun b h1 h2 => Below.heap_setCell _ _ _ _ (by simp; omega)) (by simp) (by omega)
  have hg := gokB_iff.1 hgb
  have h16 := hg.hi
  have hlo := hg.lo
  rw [hgb] at hgo
  obtain ⟨L, hLe, hLn, hLs⟩ := edges_pairs hg
  have HG := Lib.hid hg
  clear hgb hg
  go_wp2_with fail
  refine hgo.mono ?_
  rintro e w4 ⟨rfl, hb4⟩
  have hr4 := hr3.below hb4 (Nat.le_refl _)
  have ho4 := ho3.below hb4 (Nat.le_refl _)
  have hm4 := hm3.below hb4 (Nat.le_refl _)
  have hS4 := hS3.baseKeep (B' := w.heap.size + 1) (fun b h1 h2 => hb4.block b h2) hb4.size (Nat.le_refl _)
  obtain ⟨y1, y2, -, -⟩ := own_cell ho4
  clear r1 r2 o1 o2 hgo hr3 ho3 hm3 hS3 hb4 hms3
  go_wp2_with fail
  refine (wSize_any hS4).mono ?_
  rintro e w5 ⟨rfl, hb5⟩
  have hr5 := hr4.below hb5 (Nat.le_refl _)
  have ho5 := ho4.below hb5 (Nat.le_refl _)
  have hm5 := hm4.below hb5 (Nat.le_refl _)
  have hS5 := hS4.baseKeep (B' := w.heap.size + 1) (fun b h1 h2 => hb5.block b h2) hb5.size (Nat.le_refl _)
  clear hr4 ho4 hm4 hS4 hb5 y1 y2
  go_wp2_with fail
  refine (l1Empty_any h16).mono ?_
  rintro e w6 ⟨ug, rfl, hug, hb6⟩
  have hr6 := hr5.below hb6 (Nat.le_refl _)
  have ho6 := ho5.below hb6 (Nat.le_refl _)
  have hm6 := hm5.below hb6 (Nat.le_refl _)
  have hS6 := hS5.baseKeep (B' := w.heap.size + 1) (fun b h1 h2 => hb6.block b h2) hb6.size (Nat.le_refl _)
  have hm5s := hm5.size
  have hr5l : w.heap.size < w5.heap.size := (hr5.lt _ rfl).2
  have hr6l : w.heap.size < w6.heap.size := (hr6.lt _ rfl).2
  rw [repl_bitsS] at hug
  have hug := hug.weaken (B1 := w.heap.size + 1) (C1 := w6.heap.size) (by omega) (Nat.le_refl _)
  obtain ⟨va, vc, hve⟩ := hug.isSlice
  rw [List.length_map, List.length_replicate] at hve
  subst hve
  have hb7 : Below w6.heap.size w6 (w6.alloc (.cells #[.slice va g.length vc] 29)) := (Below.refl _ _).alloc (Nat.le_refl _) _
  have hr7 := hr6.below hb7 (Nat.le_refl _)
  have ho7 := ho6.below hb7 (Nat.le_refl _)
  have hm7 := hm6.below hb7 (Nat.le_refl _)
  have hS7 := hS6.baseKeep (B' := w.heap.size + 1) (fun b h1 h2 => hb7.block b h2) hb7.size (Nat.le_refl _)
  have hu7 := (hug.below hb7 (Nat.le_refl _)).weaken (Nat.le_refl _) hb7.size
  have hx7 := own_new w6 (w.heap.size + 1) 29 (.slice va g.length vc) (by omega)
  have hvb : ∀ b, (Value.slice va g.length vc).ownBlock = some b → b < w6.heap.size := fun b hb => by
    obtain ⟨vs, a1, a2, -⟩ := hug
    exact (a2.lt b hb).2
  obtain ⟨y1, y2, -, -⟩ := own_cell ho7
  clear hr5 ho5 hm5 hS5 hr6 ho6 hm6 hS6 hb6 hug
  go_wp2_with fail
  refine (l1Edges_any HG.out hS7).mono ?_
  rintro e w8 ⟨ev, rfl, hev, hb8⟩
  rw [hLe] at hev
  have hsm : SmallR (rowsP L) 1048576 := by rw [← hLe]; exact edges_small HG.out
  have hes := hev.rows hsm
  have hr8 := hr7.below hb8 (Nat.le_refl _)
  have hm8 := hm7.below hb8 (Nat.le_refl _)
  have hu8 := (hu7.below hb8 (Nat.le_refl _)).weaken (Nat.le_refl _) hb8.size
  have hx8 := hx7.below hb8 (Nat.le_refl _)
  have hw7s : (w6.alloc (.cells #[.slice va g.length vc] 29)).heap.size = w6.heap.size + 1 := by simp
  have hb8s := hb8.size
  have hr8l : w.heap.size < w8.heap.size := (hr8.lt _ rfl).2
  have hm8s := hm8.size
  have HLN := Lib.hid hLn
  have HLS := Lib.hid hLs
  have hLl : L.length ≤ 1048576 := by
    have h1 : ((rowsP L).length : Int) ≤ 1048576 := hsm.1
    rw [rowsP_len] at h1; omega
  have hE0 := Lib.hid (EdL.start g.length)
  have hrl := rowsP_len L
  obtain ⟨ea, ec, hee⟩ := hes.slice
  rw [hrl] at hee
  subst hee
  have HPR := Lib.hid (fun i (hi : i < L.length) => hes.pairS hi)
  have hesS : SlR (fun b => w6.heap.size < b ∧ b < w8.heap.size) w8 (.slice ea L.length ec) (rowsP L) := hes.weak fun b hb => by omega
  have hm8K := hm8
  clear hr7 ho7 hm7 hS7 hu7 hx7 hb8 hev hes hLe hLn hLs hb7 hsm y1 y2
  generalize List.replicate g.length 0 = M0 at *
  go_wp2
  go_loopw [6] (fun iv wr => ∃ (k : Nat) (M : List Nat) (L2 : List NP), k ≤ L.length ∧ iv = .int .i64 k ∧ OwnR wr (w.heap.size + 1) wr.heap.size 26 2 (.slice va g.length vc) (M.map bitsI) ∧ RowKit.Hid (EdL L2 g.length M) ∧ RowKit.Hid (∀ s ∈ L2, s ∈ L.take k) ∧ Own wr (w.heap.size + 1) 29 1 (.slice (some ⟨w6.heap.size, 0, none⟩) 1 1) 1 [.slice va g.length vc] ∧
    Own wr w.heap.size 29 1 (.slice (some ⟨w.heap.size, 0, none⟩) 1 1) 1 [.slice none 0 0] ∧ Mv w wr d bs ∧ w8.heap.size ≤ wr.heap.size ∧ ∀ b, w6.heap.size < b → b < w8.heap.size → wr.heap[b]? = w8.heap[b]?) (fun iv _ => L.length - (intOf iv).toNat)
  case atStart => exact ⟨0, M0, [], Nat.zero_le _, rfl, hu8, hE0, Lib.hid (fun s h => by cases h), hx8, hr8, hm8, Nat.le_refl _, fun _ _ _ => rfl⟩
  case round =>
    clear hu8 hE0 hx8 hr8 hm8
    obtain ⟨k, M, L2, hk, rfl, hR, hE, hL2, hou, hr, hm, hws, hkp⟩ := hrel
    obtain ⟨wi, rfl⟩ : ∃ wx : World, wx = wr := ⟨_, rfl⟩
    obtain ⟨o1, o2, -, -⟩ := own_cell hou
    have hML := hE.out.1
    by_cases hlt : k < L.length
    case neg =>
      obtain rfl : k = L.length := by omega
      have hall : ∀ s ∈ L2, s.1 < s.2 ∧ s.2 < g.length := fun s hs => HLS.out s (List.mem_of_mem_take (hL2.out s hs))
      have hgM := hE.out.gok hlo h16 hall
      have hgm := gok_rows hgM
      have hlM : (M.map bitsI).length = g.length := by rw [List.length_map, hML]
      have hRr := hR.rows (gok_small hgM)
      obtain ⟨x1, x2, -, -⟩ := own_cell hr
      go_wp2
      refine bodyPost_ret (v := .agg #[.slice va g.length vc]) (by simp [results, Tryd.results98, go_sem, x1]) rfl ⟨_, M.map bitsI, rfl, ?_, by rw [hlM]; omega, fun r hr => by have := hgm r hr; omega, hm.base ((Below.refl _ _).setCell (by simp) _) hdl⟩
      exact (hRr.keep fun b hb => Below.heap_setCell _ _ _ _ (by simp; omega)).weak fun b hb => ⟨by omega, by simp; omega⟩
    obtain ⟨b', off', cap', rb, ro, rc, hve, hpc0, hpx0, hpy0, hb1, hb2⟩ := HPR.out k hlt
    rw [hw7s] at hb1 hb2
    simp only [Value.slice.injEq, true_and] at hve
    obtain ⟨rfl, rfl⟩ := hve
    have hpc := (cell_heap (hkp b' (by omega) hb1.2)).trans hpc0
    have hpx := (cell_heap (hkp rb (by omega) hb2.2)).trans hpx0
    have hpy := (cell_heap (hkp rb (by omega) hb2.2)).trans hpy0
    have hs := HLS.out _ (List.getElem_mem hlt)
    have hall : ∀ s ∈ L2, s.1 < s.2 ∧ s.2 < g.length := fun s hs => HLS.out s (List.mem_of_mem_take (hL2.out s hs))
    have hnw : L[k] ∉ L2 := fun hm => by
      obtain ⟨j, hj, he⟩ := List.getElem_of_mem (hL2.out _ hm)
      rw [List.length_take] at hj
      rw [List.getElem_take] at he
      exact (List.pairwise_iff_getElem.1 HLN.out) j k (by omega) hlt (by omega) he
    have hpre := hE.out.pre hs.1 hs.2 (fun s hs' => (hall s hs').1) hnw
    have hM16 := hE.out.m16 h16 hall
    have hlk := fun (W : World) (hRW : OwnR W (w.heap.size + 1) W.heap.size 26 2 (.slice va g.length vc) (M.map bitsI)) (hBW : w.heap.size + 1 ≤ W.heap.size) => l1Link_any hRW (Nat.le_refl _) hBW (k := (L[k]).1) (i := (L[k]).2) (by omega) (by omega) (by omega) hM16 (by omega) hpre.1 hpre.2
    have HEN := Lib.hid (show EdL (L2 ++ [((L[k]).1, (L[k]).2)]) g.length (linkN M (L[k]).1 (L[k]).2) from hE.out.next hs.1 hs.2)
    have HL3 := Lib.hid (show ∀ s ∈ L2 ++ [((L[k]).1, (L[k]).2)], s ∈ L.take (k + 1) from fun s hs' => by
      rw [List.take_succ_eq_append_getElem hlt]
      rcases List.mem_append.1 hs' with h | h
      · exact List.mem_append_left _ (hL2.out s h)
      · exact List.mem_append_right _ (by simpa using h))
    have HL4 := Lib.hid (show ∀ s ∈ L2, s ∈ L.take (k + 1) from fun s hs' => by
      rw [List.take_succ_eq_append_getElem hlt]
      exact List.mem_append_left _ (hL2.out s hs'))
    have hnob := hR.other hou (by decide)
    have hnrb := hR.other hr (by decide)
    have hlo := (hou.lt _ rfl).2
    have hlr := (hr.lt _ rfl).2
    have hxg : (L[k]).1 < 16 ∧ (L[k]).2 < 16 := by omega
    clear hall hnw hpre hM16 hs hL2
    generalize (L[k]).1 = x at *
    generalize (L[k]).2 = y at *
    cases hpar : ((x : Int) % 2 != (y : Int) % 2) with
    | false =>
      go_wp2
      go_quiet (fail)
      have hdn : Drawn wi (wi.drewN nq) := (Drawn.refl _).drewN _
      go_wp2
      go_roundw
      case rel => exact ⟨k + 1, M, L2, by omega, by go_num, (hR.below (hdn.below wi.heap.size) (Nat.le_refl _)).weaken (Nat.le_refl _) (by rw [hdn.heap]; exact Nat.le_refl _), hE, HL4, hou.drawn hdn, hr.drawn hdn, hm.below (hdn.below wi.heap.size) (Nat.le_refl _), by rw [hdn.heap]; exact hws, fun b h1 h2 => by rw [hdn.heap]; exact hkp b h1 h2⟩
      case measure => simp [intOf]; omega
    | true =>
      go_wp2
      go_quiet (fail)
      have hdn : Drawn wi (wi.drewN nq) := (Drawn.refl _).drewN _
      have hR2 := (hR.below (hdn.below wi.heap.size) (Nat.le_refl _)).weaken (Nat.le_refl _) (show wi.heap.size ≤ (wi.drewN nq).heap.size from Nat.le_refl _)
      have hou2 := hou.drawn hdn
      have hr2 := hr.drawn hdn
      have hm2 := hm.below (hdn.below wi.heap.size) (Nat.le_refl _)
      have hkp2 : ∀ b, w6.heap.size < b → b < w8.heap.size → (wi.drewN nq).heap[b]? = w8.heap[b]? := hkp
      have hsz2 : (wi.drewN nq).heap.size = wi.heap.size := rfl
      have hpc := (hdn.cell _).trans hpc
      have hpx := (hdn.cell _).trans hpx
      have hpy := (hdn.cell _).trans hpy
      have o1 := (hdn.cell _).trans o1
      clear hR hou hr hm hkp o2 hE
      generalize wi.drewN nq = w9 at *
      go_wp2
      refine wp_region_late (S := (fun w' => World.cell? w' ⟨w6.heap.size, 0, none⟩ = some (.slice va g.length vc) ∧ World.cell? w' ⟨b', off' + k, none⟩ = some (.slice (some ⟨rb, ro, none⟩) 2 rc) ∧ World.cell? w' ⟨rb, ro, none⟩ = some (.int .i64 (x : Int)) ∧ World.cell? w' ⟨rb, ro + 1, none⟩ = some (.int .i64 (y : Int)))) (late := [14]) (by kernel_rfl) ?_ (fun hHeld => ?_)
      · first | exact ⟨‹_›, ‹_›, ‹_›, ‹_›⟩ | (simp [*, go_sem])
      obtain ⟨d0, d1, d2, d3⟩ := hHeld
      have hRd := hR2.drewR
      have houd := hou2.drawn (Drawn.refl _).drew
      have hrd := hr2.drawn (Drawn.refl _).drew
      have hmd := hm2.below ((Drawn.refl w9).drew.below w9.heap.size) (Nat.le_refl _)
      have hkd : ∀ b, w6.heap.size < b → b < w8.heap.size → w9.drew.heap[b]? = w8.heap[b]? := hkp2
      have hszd : w9.drew.heap.size = wi.heap.size := hsz2
      generalize w9.drew = wd at d0 d1 d2 d3 hRd houd hrd hmd hkd hszd ⊢
      have hHeld : (fun w' => World.cell? w' ⟨w6.heap.size, 0, none⟩ = some (.slice va g.length vc) ∧ World.cell? w' ⟨b', off' + k, none⟩ = some (.slice (some ⟨rb, ro, none⟩) 2 rc) ∧ World.cell? w' ⟨rb, ro, none⟩ = some (.int .i64 (x : Int)) ∧ World.cell? w' ⟨rb, ro + 1, none⟩ = some (.int .i64 (y : Int))) wd := ⟨d0, d1, d2, d3⟩
      refine wpLate_load (i := 0) (v := ?v1) (by simp only [List.getElem?_toArray, List.getElem?_cons_zero]; exact rfl) (by kernel_rfl) (by kernel_rfl) (by kernel_rfl) (by kernel_rfl) (by intro _ _ _ h; exact h) (Or.inl ⟨by rfl, ?y1⟩) hHeld ?_
      case y1 => (intro w hSw; (try dsimp only at hSw); go_simp; try (with_reducible rfl))
      try simp only [Act.put, List.setIfInBounds_toArray, List.set_cons_zero, List.set_cons_succ]
      refine wpLate_take (i := 1) (v := ?v2) (by simp only [List.getElem?_toArray, List.getElem?_cons_succ, List.getElem?_cons_zero]; exact rfl) (by kernel_rfl) (by kernel_rfl) (by kernel_rfl) (by intro _ _ _ h; exact h) (Or.inl ⟨by rfl, ?y2⟩) ?_
      case y2 => (intro w _; go_simp; try (with_reducible rfl))
      try simp only [Act.put, List.setIfInBounds_toArray, List.set_cons_zero, List.set_cons_succ]
      refine wpLate_take (i := 2) (v := ?v3) (by simp only [List.getElem?_toArray, List.getElem?_cons_succ, List.getElem?_cons_zero]; exact rfl) (by kernel_rfl) (by kernel_rfl) (by kernel_rfl) (by intro _ _ _ h; exact h) (Or.inl ⟨by rfl, ?y3⟩) ?_
      case y3 => (intro w _; go_simp; try (with_reducible rfl))
      try simp only [Act.put, List.setIfInBounds_toArray, List.set_cons_zero, List.set_cons_succ]
      refine wpLate_take (i := 3) (v := ?v4) (by simp only [List.getElem?_toArray, List.getElem?_cons_succ, List.getElem?_cons_zero]; exact rfl) (by kernel_rfl) (by kernel_rfl) (by kernel_rfl) (by intro _ _ _ h; exact h) (Or.inl ⟨by rfl, ?y4⟩) ?_
      case y4 => (intro w _; go_simp; try (with_reducible rfl))
      try simp only [Act.put, List.setIfInBounds_toArray, List.set_cons_zero, List.set_cons_succ]
      refine wpLate_load (i := 4) (v := ?v5) (by simp only [List.getElem?_toArray, List.getElem?_cons_succ, List.getElem?_cons_zero]; exact rfl) (by kernel_rfl) (by kernel_rfl) (by kernel_rfl) (by kernel_rfl) (by intro _ _ _ h; exact h) (Or.inl ⟨by rfl, ?y5⟩) hHeld ?_
      case y5 => (intro w hSw; (try dsimp only at hSw); go_simp; try (with_reducible rfl))
      try simp only [Act.put, List.setIfInBounds_toArray, List.set_cons_zero, List.set_cons_succ]
      refine wpLate_take (i := 5) (v := ?v6) (by simp only [List.getElem?_toArray, List.getElem?_cons_succ, List.getElem?_cons_zero]; exact rfl) (by kernel_rfl) (by kernel_rfl) (by kernel_rfl) (by intro _ _ _ h; exact h) (Or.inl ⟨by rfl, ?y6⟩) ?_
      case y6 => (intro w _; go_simp; try (with_reducible rfl))
      try simp only [Act.put, List.setIfInBounds_toArray, List.set_cons_zero, List.set_cons_succ]
      refine wpLate_load (i := 6) (v := ?v7) (by simp only [List.getElem?_toArray, List.getElem?_cons_succ, List.getElem?_cons_zero]; exact rfl) (by kernel_rfl) (by kernel_rfl) (by kernel_rfl) (by kernel_rfl) (by intro _ _ _ h; exact h) (Or.inl ⟨by rfl, ?y7⟩) hHeld ?_
      case y7 => (intro w hSw; (try dsimp only at hSw); go_simp; try (with_reducible rfl))
      try simp only [Act.put, List.setIfInBounds_toArray, List.set_cons_zero, List.set_cons_succ]
      refine wpLate_take (i := 7) (v := ?v8) (by simp only [List.getElem?_toArray, List.getElem?_cons_succ, List.getElem?_cons_zero]; exact rfl) (by kernel_rfl) (by kernel_rfl) (by kernel_rfl) (by intro _ _ _ h; exact h) (Or.inl ⟨by rfl, ?y8⟩) ?_
      case y8 => (intro w _; go_simp; try (with_reducible rfl))
      try simp only [Act.put, List.setIfInBounds_toArray, List.set_cons_zero, List.set_cons_succ]
      refine wpLate_take (i := 8) (v := ?v9) (by simp only [List.getElem?_toArray, List.getElem?_cons_succ, List.getElem?_cons_zero]; exact rfl) (by kernel_rfl) (by kernel_rfl) (by kernel_rfl) (by intro _ _ _ h; exact h) (Or.inl ⟨by rfl, ?y9⟩) ?_
      case y9 => (intro w _; go_simp; try (with_reducible rfl))
      try simp only [Act.put, List.setIfInBounds_toArray, List.set_cons_zero, List.set_cons_succ]
      refine wpLate_take (i := 9) (v := ?v10) (by simp only [List.getElem?_toArray, List.getElem?_cons_succ, List.getElem?_cons_zero]; exact rfl) (by kernel_rfl) (by kernel_rfl) (by kernel_rfl) (by intro _ _ _ h; exact h) (Or.inl ⟨by rfl, ?y10⟩) ?_
      case y10 => (intro w _; go_simp; try (with_reducible rfl))
      try simp only [Act.put, List.setIfInBounds_toArray, List.set_cons_zero, List.set_cons_succ]
      refine wpLate_load (i := 10) (v := ?v11) (by simp only [List.getElem?_toArray, List.getElem?_cons_succ, List.getElem?_cons_zero]; exact rfl) (by kernel_rfl) (by kernel_rfl) (by kernel_rfl) (by kernel_rfl) (by intro _ _ _ h; exact h) (Or.inl ⟨by rfl, ?y11⟩) hHeld ?_
      case y11 => (intro w hSw; (try dsimp only at hSw); go_simp; try (with_reducible rfl))
      try simp only [Act.put, List.setIfInBounds_toArray, List.set_cons_zero, List.set_cons_succ]
      refine wpLate_take (i := 11) (v := ?v12) (by simp only [List.getElem?_toArray, List.getElem?_cons_succ, List.getElem?_cons_zero]; exact rfl) (by kernel_rfl) (by kernel_rfl) (by kernel_rfl) (by intro _ _ _ h; exact h) (Or.inl ⟨by rfl, ?y12⟩) ?_
      case y12 => (intro w _; go_simp; try (with_reducible rfl))
      try simp only [Act.put, List.setIfInBounds_toArray, List.set_cons_zero, List.set_cons_succ]
      refine wpLate_load (i := 12) (v := ?v13) (by simp only [List.getElem?_toArray, List.getElem?_cons_succ, List.getElem?_cons_zero]; exact rfl) (by kernel_rfl) (by kernel_rfl) (by kernel_rfl) (by kernel_rfl) (by intro _ _ _ h; exact h) (Or.inl ⟨by rfl, ?y13⟩) hHeld ?_
      case y13 => (intro w hSw; (try dsimp only at hSw); go_simp; try (with_reducible rfl))
      try simp only [Act.put, List.setIfInBounds_toArray, List.set_cons_zero, List.set_cons_succ]
      refine wpLate_one (i := 13) (by kernel_rfl) (by simp only [List.getElem?_toArray, List.getElem?_cons_succ, List.getElem?_cons_zero]; exact rfl) (by kernel_rfl) (fun K hK => ?_)
      go_simp
      refine (hlk _ (hRd.weaken (Nat.le_refl _) (by omega)) (by omega)).mono ?_
      rintro e wm ⟨rfl, hRm, hbm, hfr⟩
      have houm := own1_keep houd (hfr _ (by omega) hnob)
      have hrm := own1_keep hrd (hfr _ (by omega) hnrb)
      have hmm := hmd.base (hbm.mono (by omega)) hdl
      have hkm : ∀ b, w6.heap.size < b → b < w8.heap.size → wm.heap[b]? = w8.heap[b]? := fun b h1 h2 => (hfr b (by omega) (fun e => by have := hvb b e; omega)).trans (hkd b h1 h2)
      obtain ⟨x1, x2, -, -⟩ := own_cell houm
      have d1 := (cell_heap (hkm b' (by omega) hb1.2)).trans hpc0
      have d2 := (cell_heap (hkm rb (by omega) hb2.2)).trans hpx0
      have d3 := (cell_heap (hkm rb (by omega) hb2.2)).trans hpy0
      try dsimp only
      refine hK.out _ _ ?h14 (fun hHeld => ?_)
      case h14 => first | exact ⟨‹_›, ‹_›, ‹_›, ‹_›⟩ | (simp [*, go_sem])
      clear hK K
      try simp only [Act.put, List.setIfInBounds_toArray, List.set_cons_zero, List.set_cons_succ]
      refine wpLate_late (i := 14) (by kernel_rfl) (by simp only [List.getElem?_toArray, List.getElem?_cons_succ, List.getElem?_cons_zero]; exact rfl) (by kernel_rfl) (fun K hK => ?_)
      go_simp
      skip
      try dsimp only
      refine hK.out _ _ ?_
      clear hK K
      try simp only [Act.put, List.setIfInBounds_toArray, List.set_cons_zero, List.set_cons_succ]
      refine wpLate_done (by kernel_rfl) ?_ _
      have hbms := hbm.size
      go_wp2
      go_roundw
      case rel => exact ⟨k + 1, _, _, by omega, by go_num, (hRm.setOther houm (by decide) (by decide) _).weaken (Nat.le_refl _) (by simp), HEN, HL3, own_set houm _, own1_keep hrm (Below.heap_setCell _ _ _ _ (by (simp; omega))), hmm.base ((Below.refl _ _).setCell (by simp; omega) _) hdl, by simp; omega, fun b h1 h2 => (Below.heap_setCell _ _ _ _ (by (simp; omega))).trans (hkm b h1 h2)⟩
      case measure => simp [intOf]; omega
set_option maxHeartbeats 4000000 in
set_option maxRecDepth 100000 in
theorem drawSides_any {S : Nat → Prop} {v : Value} {bs : List Int} {w : World} (hv : SlI S w .u8 v bs) (hr : ∀ x ∈ bs, 0 ≤ x ∧ x < 256) (hS : ∀ b, S b → b < w.heap.size) (hl : bs.length ≤ 4096) :
    Calls Tryd.prog 34 #[v] w fun e w' => ∃ u g, e = .returned (.agg #[u]) ∧ SlR (fun b => w.heap.size ≤ b ∧ b < w'.heap.size) w' u g ∧ g.length ≤ 17 ∧ (∀ r ∈ g, r.length ≤ 40) ∧ Below w.heap.size w w' := by
  have hb0 : Below w.heap.size w (w.alloc (.cells #[.slice none 0 0] 29)) := (Below.refl _ _).alloc (Nat.le_refl _) _
  have hr0 := own_new w w.heap.size 29 (.slice none 0 0) (Nat.le_refl _)
  have hnw := l1New_any (hv.below hb0 (Nat.le_refl _)) hr (fun b hb => by have := hS b hb; simp; omega) hl
  have hd0 : w.heap.size < (w.alloc (.cells #[.slice none 0 0] 29)).heap.size := by simp
  have hd2 := hb0.size
  generalize hD : (w.alloc (.cells #[.slice none 0 0] 29)).heap.size = d at hnw hd0 hd2
  have HDD := Lib.hid hD
  clear hD
  go_enter Tryd.func34, Tryd.ntmps34
  go_wp2_with fail
  refine hnw.mono ?_
  rintro e w1 ⟨rfl, hC, hb1⟩
  have hq1 := hb0.trans (hb1.mono hd2)
  have hr1 := hr0.below hb1 (by rw [HDD.out]; exact Nat.le_refl _)
  have hd1 := hC.lt
  have hl4 := l3Draw_any hC hl
  clear hnw hb0 hr0
  go_wp2_with fail
  refine hl4.mono ?_
  rintro e w2 ⟨u, g, rfl, hg, hgl, hgr, hm⟩
  have hr2 := own1_kept hr1 hm.2 (by simp; omega)
  have hms := hm.size
  have hs1 := hq1.size
  have hq2 : Below w.heap.size w w2 := hm.2.below hq1 hs1 (fun b hb => by simp at hb; omega)
  obtain ⟨ua, uc, rfl⟩ := hg.slice
  obtain ⟨r1, r2, -, -⟩ := own_cell hr2
  have hl1 := (hr1.lt _ rfl).2
  clear hl4 hm hC
  go_wp2
  refine bodyPost_ret (v := .agg #[.slice ua g.length uc]) (by simp [results, Tryd.results34, go_sem, r1]) rfl ⟨_, g, rfl, ?_, hgl, hgr, hq2.setCell (by simp) _⟩
  exact hg.baseKeep (fun b h1 h2 => Below.heap_setCell _ _ _ _ (by simp; omega)) (by simp) (by omega)
theorem nets_symL {g : List (List Int)} (hg : GOk g) : ∀ x y, x < g.length → y < g.length → ((netsL g).getD x 0).testBit y = true → ((netsL g).getD y 0).testBit x = true := fun x y hx hy h => by
  rw [nets_bit2 hg hx, decide_eq_true_eq] at h
  rw [nets_bit2 hg hy, decide_eq_true_eq]
  exact (hg.symD hx h).2.1
theorem loop_trail {g : List (List Int)} (hg : GOk g) {q : List Nat} (hq : LoopN (netsL g) g.length q) : trailB g (natsI q) = true := trail_true fun i hi => by
  rw [natsI_len] at hi
  have hx := hq.path.lt _ (getD_mem hi)
  have hgi : (natsI q)[i]'(by rw [natsI_len]; exact hi) = ((q.getD i 0 : Nat) : Int) := by rw [natsI_get]; simp [hi]
  rw [tok_at (x := q.getD i 0) (by rw [natsI_len]; exact hi) hgi hx]
  have hn : ¬ ((q.getD i 0 : Nat) : Int) ∈ (natsI q).take i := fun hm => by
    obtain ⟨j, hj, e⟩ := List.getElem_of_mem hm
    rw [List.length_take, natsI_len] at hj
    rw [List.getElem_take, natsI_get] at e
    have := nodup_getD hq.path.nd (i := j) (j := i) (by omega) hi (by rw [show q.getD j 0 = q[j]'(by omega) by simp [show j < q.length by omega]]; omega)
    omega
  rw [decide_eq_false hn]
  by_cases h0 : i = 0
  · rw [decide_eq_true h0]; rfl
  · have hc := hq.path.ch (i - 1) (by omega)
    rw [show i - 1 + 1 = i by omega] at hc
    have hp := hq.path.lt _ (getD_mem (show i - 1 < q.length by omega))
    have hs := nets_symL hg _ _ hp hx hc
    rw [nets_bit2 hg hx, decide_eq_true_eq] at hs
    have e : (natsI q).getD (i - 1) 0 = ((q.getD (i - 1) 0 : Nat) : Int) := by
      have hl : i - 1 < (natsI q).length := by rw [natsI_len]; omega
      rw [List.getD_eq_getElem?_getD, List.getElem?_eq_getElem hl, Option.getD_some, natsI_get]; simp [show i - 1 < q.length by omega]
    rw [e, decide_eq_true hs]; simp
theorem loop_close {g : List (List Int)} (hg : GOk g) {q : List Nat} (hq : LoopN (netsL g) g.length q) : ((lastN q : Nat) : Int) ∈ g.getD (q.getD 0 0) [] := by
  have h3 := hq.three
  have h0 := hq.path.lt _ (getD_mem (show 0 < q.length by omega))
  have hl : lastN q < g.length := hq.path.lt _ (getD_mem (by omega))
  have hs := nets_symL hg _ _ hl h0 hq.cl
  rwa [nets_bit2 hg h0, decide_eq_true_eq] at hs
set_option maxRecDepth 100000 in
set_option maxHeartbeats 4000000 in
theorem implLoopOk_any {S S' : Nat → Prop} {v u : Value} {g : List (List Int)} {q : List Nat} {w : World} (hg : GOk g) (hq : LoopN (netsL g) g.length q) (hv : SlR S w v g) (hu : SlI S' w .i64 u (natsI q)) :
    Calls Tryd.prog 38 #[.agg #[v], u] w fun e w' => e = .returned (.bool true) ∧ Below w.heap.size w w' := by
  have h3 := hq.three
  have h16 := hg.hi
  have hql := loop_len hq.path
  have htr := loop_trail hg hq
  have hcl := loop_close hg hq
  have h0 := hq.path.lt _ (getD_mem (show 0 < q.length by omega))
  have hb0 : Below w.heap.size w (w.alloc (.cells #[v] 29)) := (Below.refl _ _).alloc (Nat.le_refl _) _
  obtain ⟨ga, gc, rfl⟩ := hv.slice
  have hv0 := hv.below hb0 (Nat.le_refl _)
  have hu0 := hu.below hb0 (Nat.le_refl _)
  have c0 : (w.alloc (.cells #[.slice ga g.length gc] 29)).cell? ⟨w.heap.size, 0, none⟩ = some (.slice ga g.length gc) := by simp [go_sem]
  obtain ⟨W, hW⟩ : ∃ W, W = (w.alloc (.cells #[.slice ga g.length gc] 29)) := ⟨_, rfl⟩
  rw [← hW] at hb0 hv0 hu0 c0
  have HW := Lib.hid hW
  clear hW
  obtain ⟨ub, uo, ucap, hue, huc⟩ := hu0.at_
  have hue := hue (by rw [natsI_len]; omega)
  rw [natsI_len] at hue
  obtain ⟨ua, uc, rfl⟩ := hu.slice
  rw [natsI_len] at *
  simp only [Value.slice.injEq] at hue
  obtain ⟨rfl, -, rfl⟩ := hue
  have e1 : W.cell? ⟨ub, uo, none⟩ = some (.int .i64 ((q.getD 0 0 : Nat) : Int)) := by
    have := huc 0 (by rw [natsI_len]; omega)
    rw [natsI_get] at this
    simpa [show 0 < q.length by omega] using this
  have e2 : W.cell? ⟨ub, uo + (q.length - 1), none⟩ = some (.int .i64 ((lastN q : Nat) : Int)) := by
    rw [huc (q.length - 1) (by rw [natsI_len]; omega), natsI_get]; simp [lastN, show q.length - 1 < q.length by omega]
  obtain ⟨ga', gb, goff, gcap, f, hge, hgl, hga, hgc⟩ := id hv0
  simp only [Value.slice.injEq] at hge
  obtain ⟨rfl, -, rfl⟩ := hge
  obtain ⟨rfl, -⟩ := hga (by omega)
  obtain ⟨k1, r1⟩ := hgc (q.getD 0 0) h0
  obtain ⟨ra, rc, er⟩ := r1.slice
  rw [er] at k1 r1
  have hge2 : g.getD (q.getD 0 0) [] = g[q.getD 0 0] := by rw [List.getD_eq_getElem?_getD, List.getElem?_eq_getElem h0]; rfl
  rw [hge2] at hcl
  have hgk := fun (W' : World) (hb : Below W.heap.size W W') => implGraphOk_any _ _ _ (hv0.below hb (Nat.le_refl _))
  rw [gokB_true hg] at hgk
  have hit := fun (W' : World) (hb : Below W.heap.size W W') => isTrail_any hg (hv0.below hb (Nat.le_refl _)) (hu0.below hb (Nat.le_refl _))
  rw [htr] at hit
  have hcn := fun (W' : World) (hb : Below W.heap.size W W') => contains_any _ g[q.getD 0 0] ((lastN q : Nat) : Int) W' (r1.below hb (Nat.le_refl _))
  rw [decide_eq_true hcl] at hcn
  have hd1 : decide ((3 : Int) ≤ (q.length : Int)) = true := decide_eq_true (by omega)
  have hd2 : decide (3 ≤ q.length) = true := decide_eq_true h3
  have hw1 : IntKind.i64.wrap ((q.length : Int) - 1) = (q.length : Int) - 1 := IntWalk.i64_in _ (by omega)
  have hw2 : ((q.length : Int) - 1).toNat = q.length - 1 := by omega
  have hw3 : (0 : Int) ≤ (q.length : Int) - 1 := by omega
  have hw4 : (q.length : Int) - 1 < q.length := by omega
  have hq0 : (q.getD 0 0 : Int) < g.length := by omega
  have hq0l : 0 < q.length := by omega
  have hw5 : (1 : Int) ≤ (q.length : Int) := by omega
  generalize g[q.getD 0 0].length = rl at *
  generalize q.getD 0 0 = f0 at *
  generalize lastN q = z at *
  clear huc hgc hga hgl htr hcl hv hu r1 er hge2
  go_enter Tryd.func38, Tryd.ntmps38
  go_wp2
  rw [← HW.out]
  refine wp_region_held_drew (S := (fun w' => w'.cell? ⟨w.heap.size, 0, none⟩ = some (.slice (some ⟨gb, goff, none⟩) g.length gc) ∧ w'.cell? ⟨gb, goff + f0, none⟩ = some (.slice ra rl rc) ∧ w'.cell? ⟨ub, uo, none⟩ = some (.int .i64 (f0 : Int)) ∧ w'.cell? ⟨ub, uo + (q.length - 1), none⟩ = some (.int .i64 (z : Int)))) (by kernel_rfl) ?_ (fun hHeld => ?_)
  · first | exact ⟨‹_›, ‹_›, ‹_›, ‹_›⟩ | (simp [*, go_sem])
  have hqc : Below W.heap.size W W.drew := (Below.refl _ _).drew
  generalize W.drew = wd at hqc hHeld ⊢
  obtain ⟨c3, c4, c5, c6⟩ := hHeld
  have hHeld : (fun w' => World.cell? w' ⟨w.heap.size, 0, none⟩ = some (.slice (some ⟨gb, goff, none⟩) g.length gc) ∧ World.cell? w' ⟨gb, goff + f0, none⟩ = some (.slice ra rl rc) ∧ World.cell? w' ⟨ub, uo, none⟩ = some (.int .i64 (f0 : Int)) ∧ World.cell? w' ⟨ub, uo + (q.length - 1), none⟩ = some (.int .i64 (z : Int))) wd := ⟨c3, c4, c5, c6⟩
  refine wpAnyH_take (i := 0) (v := ?v16) (by simp only [List.getElem?_toArray, List.getElem?_cons_zero]; exact rfl) (by kernel_rfl) (by kernel_rfl) (by kernel_rfl) (by intro _ _ _ h; exact h) (Or.inl ⟨by rfl, ?y16⟩) hHeld ?_
  case y16 => (intro w hSw; (try dsimp only at hSw); go_simp; try (with_reducible rfl))
  try simp only [Act.put, List.setIfInBounds_toArray, List.set_cons_zero, List.set_cons_succ]
  refine wpAnyH_ready (rs := [1]) (by kernel_rfl) (by simp) ?_
  refine AllReadyH.cons (by simp only [List.getElem?_toArray, List.getElem?_cons_succ, List.getElem?_cons_zero]; exact rfl) (fun K hK => ?_) AllReadyH.nil
  go_simp
  (with_reducible refine (hgk wd hqc).mono ?_)
  rintro e wn ⟨rfl, hbn⟩
  have hqc := hqc.trans (hbn.mono hqc.size)
  have c3 := (hbn.cell (cell_lt c3)).trans c3
  have c4 := (hbn.cell (cell_lt c4)).trans c4
  have c5 := (hbn.cell (cell_lt c5)).trans c5
  have c6 := (hbn.cell (cell_lt c6)).trans c6
  obtain ⟨wd, rfl⟩ : ∃ wx : World, wx = wn := ⟨_, rfl⟩
  try dsimp only
  refine hK.out _ _ ?h18 (fun hHeld => ?_)
  case h18 => first | exact ⟨‹_›, ‹_›, ‹_›, ‹_›⟩ | (simp [*, go_sem])
  clear hK K
  try simp only [Act.put, List.setIfInBounds_toArray, List.set_cons_zero, List.set_cons_succ]
  refine wpAnyH_take (i := 2) (v := ?v19) (by simp only [List.getElem?_toArray, List.getElem?_cons_succ, List.getElem?_cons_zero]; exact rfl) (by kernel_rfl) (by kernel_rfl) (by kernel_rfl) (by intro _ _ _ h; exact h) (Or.inl ⟨by rfl, ?y19⟩) hHeld ?_
  case y19 => (intro w hSw; (try dsimp only at hSw); go_simp; try (with_reducible rfl))
  try simp only [Act.put, List.setIfInBounds_toArray, List.set_cons_zero, List.set_cons_succ]
  refine wpAnyH_take (i := 3) (v := ?v20) (by simp only [List.getElem?_toArray, List.getElem?_cons_succ, List.getElem?_cons_zero]; exact rfl) (by kernel_rfl) (by kernel_rfl) (by kernel_rfl) (by intro _ _ _ h; exact h) (Or.inl ⟨by rfl, ?y20⟩) hHeld ?_
  case y20 => (intro w hSw; (try dsimp only at hSw); go_simp; try (with_reducible rfl))
  try simp only [Act.put, List.setIfInBounds_toArray, List.set_cons_zero, List.set_cons_succ]
  refine wpAnyH_take (i := 4) (v := ?v21) (by simp only [List.getElem?_toArray, List.getElem?_cons_succ, List.getElem?_cons_zero]; exact rfl) (by kernel_rfl) (by kernel_rfl) (by kernel_rfl) (by intro _ _ _ h; exact h) (Or.inl ⟨by rfl, ?y21⟩) hHeld ?_
  case y21 => (intro w hSw; (try dsimp only at hSw); go_simp; try (with_reducible rfl))
  try simp only [Act.put, List.setIfInBounds_toArray, List.set_cons_zero, List.set_cons_succ]
  refine wpAnyH_take (i := 5) (v := ?v22) (by simp only [List.getElem?_toArray, List.getElem?_cons_succ, List.getElem?_cons_zero]; exact rfl) (by kernel_rfl) (by kernel_rfl) (by kernel_rfl) (by intro _ _ _ h; exact h) (Or.inl ⟨by rfl, ?y22⟩) hHeld ?_
  case y22 => (intro w hSw; (try dsimp only at hSw); go_simp; try (with_reducible rfl))
  try simp only [Act.put, List.setIfInBounds_toArray, List.set_cons_zero, List.set_cons_succ]
  refine wpAnyH_take (i := 6) (v := ?v23) (by simp only [List.getElem?_toArray, List.getElem?_cons_succ, List.getElem?_cons_zero]; exact rfl) (by kernel_rfl) (by kernel_rfl) (by kernel_rfl) (by intro _ _ _ h; exact h) (Or.inl ⟨by rfl, ?y23⟩) hHeld ?_
  case y23 => (intro w hSw; (try dsimp only at hSw); go_simp; try (with_reducible rfl))
  try simp only [Act.put, List.setIfInBounds_toArray, List.set_cons_zero, List.set_cons_succ]
  refine wpAnyH_take (i := 7) (v := ?v24) (by simp only [List.getElem?_toArray, List.getElem?_cons_succ, List.getElem?_cons_zero]; exact rfl) (by kernel_rfl) (by kernel_rfl) (by kernel_rfl) (by intro _ _ _ h; exact h) (Or.inl ⟨by rfl, ?y24⟩) hHeld ?_
  case y24 => (intro w hSw; (try dsimp only at hSw); go_simp; try (with_reducible rfl))
  try simp only [Act.put, List.setIfInBounds_toArray, List.set_cons_zero, List.set_cons_succ]
  refine wpAnyH_take (i := 8) (v := ?v25) (by simp only [List.getElem?_toArray, List.getElem?_cons_succ, List.getElem?_cons_zero]; exact rfl) (by kernel_rfl) (by kernel_rfl) (by kernel_rfl) (by intro _ _ _ h; exact h) (Or.inl ⟨by rfl, ?y25⟩) hHeld ?_
  case y25 => (intro w hSw; (try dsimp only at hSw); go_simp; try (with_reducible rfl))
  try simp only [Act.put, List.setIfInBounds_toArray, List.set_cons_zero, List.set_cons_succ]
  refine wpAnyH_ready (rs := [9]) (by kernel_rfl) (by simp) ?_
  refine AllReadyH.cons (by simp only [List.getElem?_toArray, List.getElem?_cons_succ, List.getElem?_cons_zero]; exact rfl) (fun K hK => ?_) AllReadyH.nil
  go_simp
  (with_reducible refine (hit wd hqc).mono ?_)
  rintro e wn ⟨rfl, hbn⟩
  have hqc := hqc.trans (hbn.mono hqc.size)
  have c3 := (hbn.cell (cell_lt c3)).trans c3
  have c4 := (hbn.cell (cell_lt c4)).trans c4
  have c5 := (hbn.cell (cell_lt c5)).trans c5
  have c6 := (hbn.cell (cell_lt c6)).trans c6
  obtain ⟨wd, rfl⟩ : ∃ wx : World, wx = wn := ⟨_, rfl⟩
  try dsimp only
  refine hK.out _ _ ?h27 (fun hHeld => ?_)
  case h27 => first | exact ⟨‹_›, ‹_›, ‹_›, ‹_›⟩ | (simp [*, go_sem])
  clear hK K
  try simp only [Act.put, List.setIfInBounds_toArray, List.set_cons_zero, List.set_cons_succ]
  refine wpAnyH_take (i := 10) (v := ?v28) (by simp only [List.getElem?_toArray, List.getElem?_cons_succ, List.getElem?_cons_zero]; exact rfl) (by kernel_rfl) (by kernel_rfl) (by kernel_rfl) (by intro _ _ _ h; exact h) (Or.inl ⟨by rfl, ?y28⟩) hHeld ?_
  case y28 => (intro w hSw; (try dsimp only at hSw); go_simp; try (with_reducible rfl))
  try simp only [Act.put, List.setIfInBounds_toArray, List.set_cons_zero, List.set_cons_succ]
  refine wpAnyH_take (i := 11) (v := ?v29) (by simp only [List.getElem?_toArray, List.getElem?_cons_succ, List.getElem?_cons_zero]; exact rfl) (by kernel_rfl) (by kernel_rfl) (by kernel_rfl) (by intro _ _ _ h; exact h) (Or.inl ⟨by rfl, ?y29⟩) hHeld ?_
  case y29 => (intro w hSw; (try dsimp only at hSw); go_simp; try (with_reducible rfl))
  try simp only [Act.put, List.setIfInBounds_toArray, List.set_cons_zero, List.set_cons_succ]
  refine wpAnyH_take (i := 12) (v := ?v30) (by simp only [List.getElem?_toArray, List.getElem?_cons_succ, List.getElem?_cons_zero]; exact rfl) (by kernel_rfl) (by kernel_rfl) (by kernel_rfl) (by intro _ _ _ h; exact h) (Or.inl ⟨by rfl, ?y30⟩) hHeld ?_
  case y30 => (intro w hSw; (try dsimp only at hSw); go_simp; try (with_reducible rfl))
  try simp only [Act.put, List.setIfInBounds_toArray, List.set_cons_zero, List.set_cons_succ]
  refine wpAnyH_take (i := 13) (v := ?v31) (by simp only [List.getElem?_toArray, List.getElem?_cons_succ, List.getElem?_cons_zero]; exact rfl) (by kernel_rfl) (by kernel_rfl) (by kernel_rfl) (by intro _ _ _ h; exact h) (Or.inl ⟨by rfl, ?y31⟩) hHeld ?_
  case y31 => (intro w hSw; (try dsimp only at hSw); go_simp; try (with_reducible rfl))
  try simp only [Act.put, List.setIfInBounds_toArray, List.set_cons_zero, List.set_cons_succ]
  refine wpAnyH_take (i := 14) (v := ?v32) (by simp only [List.getElem?_toArray, List.getElem?_cons_succ, List.getElem?_cons_zero]; exact rfl) (by kernel_rfl) (by kernel_rfl) (by kernel_rfl) (by intro _ _ _ h; exact h) (Or.inl ⟨by rfl, ?y32⟩) hHeld ?_
  case y32 => (intro w hSw; (try dsimp only at hSw); go_simp; try (with_reducible rfl))
  try simp only [Act.put, List.setIfInBounds_toArray, List.set_cons_zero, List.set_cons_succ]
  refine wpAnyH_take (i := 15) (v := ?v33) (by simp only [List.getElem?_toArray, List.getElem?_cons_succ, List.getElem?_cons_zero]; exact rfl) (by kernel_rfl) (by kernel_rfl) (by kernel_rfl) (by intro _ _ _ h; exact h) (Or.inl ⟨by rfl, ?y33⟩) hHeld ?_
  case y33 => (intro w hSw; (try dsimp only at hSw); go_simp; try (with_reducible rfl))
  try simp only [Act.put, List.setIfInBounds_toArray, List.set_cons_zero, List.set_cons_succ]
  refine wpAnyH_take (i := 16) (v := ?v34) (by simp only [List.getElem?_toArray, List.getElem?_cons_succ, List.getElem?_cons_zero]; exact rfl) (by kernel_rfl) (by kernel_rfl) (by kernel_rfl) (by intro _ _ _ h; exact h) (Or.inl ⟨by rfl, ?y34⟩) hHeld ?_
  case y34 => (intro w hSw; (try dsimp only at hSw); go_simp; try (with_reducible rfl))
  try simp only [Act.put, List.setIfInBounds_toArray, List.set_cons_zero, List.set_cons_succ]
  refine wpAnyH_take (i := 17) (v := ?v35) (by simp only [List.getElem?_toArray, List.getElem?_cons_succ, List.getElem?_cons_zero]; exact rfl) (by kernel_rfl) (by kernel_rfl) (by kernel_rfl) (by intro _ _ _ h; exact h) (Or.inl ⟨by rfl, ?y35⟩) hHeld ?_
  case y35 => (intro w hSw; (try dsimp only at hSw); go_simp; try (with_reducible rfl))
  try simp only [Act.put, List.setIfInBounds_toArray, List.set_cons_zero, List.set_cons_succ]
  refine wpAnyH_take (i := 18) (v := ?v36) (by simp only [List.getElem?_toArray, List.getElem?_cons_succ, List.getElem?_cons_zero]; exact rfl) (by kernel_rfl) (by kernel_rfl) (by kernel_rfl) (by intro _ _ _ h; exact h) (Or.inl ⟨by rfl, ?y36⟩) hHeld ?_
  case y36 => (intro w hSw; (try dsimp only at hSw); go_simp; try (with_reducible rfl))
  try simp only [Act.put, List.setIfInBounds_toArray, List.set_cons_zero, List.set_cons_succ]
  refine wpAnyH_take (i := 19) (v := ?v37) (by simp only [List.getElem?_toArray, List.getElem?_cons_succ, List.getElem?_cons_zero]; exact rfl) (by kernel_rfl) (by kernel_rfl) (by kernel_rfl) (by intro _ _ _ h; exact h) (Or.inl ⟨by rfl, ?y37⟩) hHeld ?_
  case y37 => (intro w hSw; (try dsimp only at hSw); go_simp; try (with_reducible rfl))
  try simp only [Act.put, List.setIfInBounds_toArray, List.set_cons_zero, List.set_cons_succ]
  refine wpAnyH_take (i := 20) (v := ?v38) (by simp only [List.getElem?_toArray, List.getElem?_cons_succ, List.getElem?_cons_zero]; exact rfl) (by kernel_rfl) (by kernel_rfl) (by kernel_rfl) (by intro _ _ _ h; exact h) (Or.inl ⟨by rfl, ?y38⟩) hHeld ?_
  case y38 => (intro w hSw; (try dsimp only at hSw); go_simp; try (with_reducible rfl))
  try simp only [Act.put, List.setIfInBounds_toArray, List.set_cons_zero, List.set_cons_succ]
  refine wpAnyH_take (i := 21) (v := ?v39) (by simp only [List.getElem?_toArray, List.getElem?_cons_succ, List.getElem?_cons_zero]; exact rfl) (by kernel_rfl) (by kernel_rfl) (by kernel_rfl) (by intro _ _ _ h; exact h) (Or.inl ⟨by rfl, ?y39⟩) hHeld ?_
  case y39 => (intro w hSw; (try dsimp only at hSw); go_simp; try (with_reducible rfl))
  try simp only [Act.put, List.setIfInBounds_toArray, List.set_cons_zero, List.set_cons_succ]
  refine wpAnyH_take (i := 22) (v := ?v40) (by simp only [List.getElem?_toArray, List.getElem?_cons_succ, List.getElem?_cons_zero]; exact rfl) (by kernel_rfl) (by kernel_rfl) (by kernel_rfl) (by intro _ _ _ h; exact h) (Or.inl ⟨by rfl, ?y40⟩) hHeld ?_
  case y40 => (intro w hSw; (try dsimp only at hSw); go_simp; try (with_reducible rfl))
  try simp only [Act.put, List.setIfInBounds_toArray, List.set_cons_zero, List.set_cons_succ]
  refine wpAnyH_take (i := 23) (v := ?v41) (by simp only [List.getElem?_toArray, List.getElem?_cons_succ, List.getElem?_cons_zero]; exact rfl) (by kernel_rfl) (by kernel_rfl) (by kernel_rfl) (by intro _ _ _ h; exact h) (Or.inl ⟨by rfl, ?y41⟩) hHeld ?_
  case y41 => (intro w hSw; (try dsimp only at hSw); go_simp; try (with_reducible rfl))
  try simp only [Act.put, List.setIfInBounds_toArray, List.set_cons_zero, List.set_cons_succ]
  refine wpAnyH_ready (rs := [24]) (by kernel_rfl) (by simp) ?_
  refine AllReadyH.cons (by simp only [List.getElem?_toArray, List.getElem?_cons_succ, List.getElem?_cons_zero]; exact rfl) (fun K hK => ?_) AllReadyH.nil
  go_simp
  (with_reducible refine (hcn wd hqc).mono ?_)
  rintro e wn ⟨rfl, rfl⟩
  try dsimp only
  refine hK.out _ _ ?h43 (fun hHeld => ?_)
  case h43 => first | exact ⟨‹_›, ‹_›, ‹_›, ‹_›⟩ | (simp [*, go_sem])
  clear hK K
  try simp only [Act.put, List.setIfInBounds_toArray, List.set_cons_zero, List.set_cons_succ]
  refine wpAnyH_take (i := 25) (v := ?v44) (by simp only [List.getElem?_toArray, List.getElem?_cons_succ, List.getElem?_cons_zero]; exact rfl) (by kernel_rfl) (by kernel_rfl) (by kernel_rfl) (by intro _ _ _ h; exact h) (Or.inl ⟨by rfl, ?y44⟩) hHeld ?_
  case y44 => (intro w hSw; (try dsimp only at hSw); go_simp; try (with_reducible rfl))
  try simp only [Act.put, List.setIfInBounds_toArray, List.set_cons_zero, List.set_cons_succ]
  refine wpAnyH_take (i := 26) (v := ?v45) (by simp only [List.getElem?_toArray, List.getElem?_cons_succ, List.getElem?_cons_zero]; exact rfl) (by kernel_rfl) (by kernel_rfl) (by kernel_rfl) (by intro _ _ _ h; exact h) (Or.inl ⟨by rfl, ?y45⟩) hHeld ?_
  case y45 => (intro w hSw; (try dsimp only at hSw); go_simp; try (with_reducible rfl))
  try simp only [Act.put, List.setIfInBounds_toArray, List.set_cons_zero, List.set_cons_succ]
  refine wpAnyH_done (by kernel_rfl) ?_ _
  go_wp2
  go_ret
  exact ⟨rfl, hb0.trans (hqc.mono hb0.size)⟩
set_option maxRecDepth 100000 in
set_option maxHeartbeats 4000000 in
theorem specLoopOk_any {S S' : Nat → Prop} {v u : Value} {g : List (List Int)} {q : List Nat} {w : World} (hg : GOk g) (hq : LoopN (netsL g) g.length q) (hv : SlR S w v g) (hu : SlI S' w .i64 u (natsI q)) :
    Calls Tryd.prog 39 #[.agg #[v], u] w fun e w' => e = .returned (.bool true) ∧ Below w.heap.size w w' := by
  have h3 := hq.three
  have h16 := hg.hi
  have hql := loop_len hq.path
  have htr := loop_trail hg hq
  have hcl := loop_close hg hq
  have h0 := hq.path.lt _ (getD_mem (show 0 < q.length by omega))
  have hb0 : Below w.heap.size w (w.alloc (.cells #[v] 29)) := (Below.refl _ _).alloc (Nat.le_refl _) _
  obtain ⟨ga, gc, rfl⟩ := hv.slice
  have c0 : (w.alloc (.cells #[.slice ga g.length gc] 29)).cell? ⟨w.heap.size, 0, none⟩ = some (.slice ga g.length gc) := by simp [go_sem]
  have hgk := fun (W' : World) (hb : Below w.heap.size w W') => specGraphOk_any _ _ _ (hv.below hb (Nat.le_refl _))
  rw [gokB_true hg] at hgk
  have hsz := fun (W' : World) (hb : Below w.heap.size w W') => l1Size_any (hv.below hb (Nat.le_refl _))
  have hit := fun (W' : World) (hb : Below w.heap.size w W') => l3Path_any hg (hv.below hb (Nat.le_refl _)) (hu.below hb (Nat.le_refl _))
  rw [htr] at hit
  have hed := fun (W' : World) (hb : Below w.heap.size w W') => l1Edge_any (u := q.getD 0 0) (x := ((lastN q : Nat) : Int)) (hv.below hb (Nat.le_refl _)) h0
  rw [decide_eq_true hcl] at hed
  obtain ⟨ub, uo, ucap, hue, huc⟩ := hu.at_
  have hue := hue (by rw [natsI_len]; omega)
  rw [natsI_len] at hue
  obtain ⟨ua, uc, rfl⟩ := hu.slice
  rw [natsI_len] at *
  simp only [Value.slice.injEq] at hue
  obtain ⟨rfl, -, rfl⟩ := hue
  have e1 : w.cell? ⟨ub, uo, none⟩ = some (.int .i64 ((q.getD 0 0 : Nat) : Int)) := by
    have := huc 0 (by rw [natsI_len]; omega)
    rw [natsI_get] at this
    simpa [show 0 < q.length by omega] using this
  have e2 : w.cell? ⟨ub, uo + (q.length - 1), none⟩ = some (.int .i64 ((lastN q : Nat) : Int)) := by
    rw [huc (q.length - 1) (by rw [natsI_len]; omega), natsI_get]; simp [lastN, show q.length - 1 < q.length by omega]
  have hd1 : decide ((q.length : Int) < 3) = false := decide_eq_false (by omega)
  have hd2 : decide (q.length < 3) = false := decide_eq_false (by omega)
  have hd3 : decide ((g.length : Int) < (q.length : Int)) = false := decide_eq_false (by omega)
  have hd4 : decide (g.length < q.length) = false := decide_eq_false (by omega)
  have hw1 : IntKind.i64.wrap ((q.length : Int) - 1) = (q.length : Int) - 1 := IntWalk.i64_in _ (by omega)
  have hw2 : ((q.length : Int) - 1).toNat = q.length - 1 := by omega
  have hw3 : (0 : Int) ≤ (q.length : Int) - 1 := by omega
  have hw4 : (q.length : Int) - 1 < q.length := by omega
  have hq0l : 0 < q.length := by omega
  have hw5 : (1 : Int) ≤ (q.length : Int) := by omega
  generalize q.getD 0 0 = f0 at *
  generalize lastN q = z at *
  clear huc htr hcl hv hu
  go_enter Tryd.func39, Tryd.ntmps39
  go_wp2_with fail
  refine (hgk _ hb0).mono ?_
  rintro e w1 ⟨rfl, hb1⟩
  have hq1 := hb0.trans (hb1.mono hb0.size)
  have c1 := (hb1.cell (cell_lt c0)).trans c0
  go_wp2_with fail
  refine (hsz _ hq1).mono ?_
  rintro e w2 ⟨rfl, hb2⟩
  have hq2 := hq1.trans (hb2.mono hq1.size)
  have c2 := (hb2.cell (cell_lt c1)).trans c1
  go_wp2_with fail
  refine (hit _ hq2).mono ?_
  rintro e w3 ⟨rfl, hb3⟩
  have hq3 := hq2.trans (hb3.mono hq2.size)
  have c3 := (hb3.cell (cell_lt c2)).trans c2
  have e13 := (hq3.cell (cell_lt e1)).trans e1
  have e23 := (hq3.cell (cell_lt e2)).trans e2
  clear hgk hsz hit hb1 hb2 hb3 c1 c2 hq1 hq2 e1 e2
  go_wp2
  refine wp_region_held_drew (S := (fun w' => w'.cell? ⟨w.heap.size, 0, none⟩ = some (.slice ga g.length gc) ∧ w'.cell? ⟨ub, uo, none⟩ = some (.int .i64 (f0 : Int)) ∧ w'.cell? ⟨ub, uo + (q.length - 1), none⟩ = some (.int .i64 (z : Int)))) (by kernel_rfl) ?_ (fun hHeld => ?_)
  · first | exact ⟨‹_›, ‹_›, ‹_›⟩ | (simp [*, go_sem])
  have hqc := hq3.drew
  generalize w3.drew = wd at hqc hHeld ⊢
  obtain ⟨c4, c5, c6⟩ := hHeld
  have hHeld : (fun w' => World.cell? w' ⟨w.heap.size, 0, none⟩ = some (.slice ga g.length gc) ∧ World.cell? w' ⟨ub, uo, none⟩ = some (.int .i64 (f0 : Int)) ∧ World.cell? w' ⟨ub, uo + (q.length - 1), none⟩ = some (.int .i64 (z : Int))) wd := ⟨c4, c5, c6⟩
  refine wpAnyH_take (i := 0) (v := ?v46) (by simp only [List.getElem?_toArray, List.getElem?_cons_zero]; exact rfl) (by kernel_rfl) (by kernel_rfl) (by kernel_rfl) (by intro _ _ _ h; exact h) (Or.inl ⟨by rfl, ?y46⟩) hHeld ?_
  case y46 => (intro w hSw; (try dsimp only at hSw); go_simp; try (with_reducible rfl))
  try simp only [Act.put, List.setIfInBounds_toArray, List.set_cons_zero, List.set_cons_succ]
  refine wpAnyH_take (i := 1) (v := ?v47) (by simp only [List.getElem?_toArray, List.getElem?_cons_succ, List.getElem?_cons_zero]; exact rfl) (by kernel_rfl) (by kernel_rfl) (by kernel_rfl) (by intro _ _ _ h; exact h) (Or.inl ⟨by rfl, ?y47⟩) hHeld ?_
  case y47 => (intro w hSw; (try dsimp only at hSw); go_simp; try (with_reducible rfl))
  try simp only [Act.put, List.setIfInBounds_toArray, List.set_cons_zero, List.set_cons_succ]
  refine wpAnyH_take (i := 2) (v := ?v48) (by simp only [List.getElem?_toArray, List.getElem?_cons_succ, List.getElem?_cons_zero]; exact rfl) (by kernel_rfl) (by kernel_rfl) (by kernel_rfl) (by intro _ _ _ h; exact h) (Or.inl ⟨by rfl, ?y48⟩) hHeld ?_
  case y48 => (intro w hSw; (try dsimp only at hSw); go_simp; try (with_reducible rfl))
  try simp only [Act.put, List.setIfInBounds_toArray, List.set_cons_zero, List.set_cons_succ]
  refine wpAnyH_take (i := 3) (v := ?v49) (by simp only [List.getElem?_toArray, List.getElem?_cons_succ, List.getElem?_cons_zero]; exact rfl) (by kernel_rfl) (by kernel_rfl) (by kernel_rfl) (by intro _ _ _ h; exact h) (Or.inl ⟨by rfl, ?y49⟩) hHeld ?_
  case y49 => (intro w hSw; (try dsimp only at hSw); go_simp; try (with_reducible rfl))
  try simp only [Act.put, List.setIfInBounds_toArray, List.set_cons_zero, List.set_cons_succ]
  refine wpAnyH_take (i := 4) (v := ?v50) (by simp only [List.getElem?_toArray, List.getElem?_cons_succ, List.getElem?_cons_zero]; exact rfl) (by kernel_rfl) (by kernel_rfl) (by kernel_rfl) (by intro _ _ _ h; exact h) (Or.inl ⟨by rfl, ?y50⟩) hHeld ?_
  case y50 => (intro w hSw; (try dsimp only at hSw); go_simp; try (with_reducible rfl))
  try simp only [Act.put, List.setIfInBounds_toArray, List.set_cons_zero, List.set_cons_succ]
  refine wpAnyH_take (i := 5) (v := ?v51) (by simp only [List.getElem?_toArray, List.getElem?_cons_succ, List.getElem?_cons_zero]; exact rfl) (by kernel_rfl) (by kernel_rfl) (by kernel_rfl) (by intro _ _ _ h; exact h) (Or.inl ⟨by rfl, ?y51⟩) hHeld ?_
  case y51 => (intro w hSw; (try dsimp only at hSw); go_simp; try (with_reducible rfl))
  try simp only [Act.put, List.setIfInBounds_toArray, List.set_cons_zero, List.set_cons_succ]
  refine wpAnyH_take (i := 6) (v := ?v52) (by simp only [List.getElem?_toArray, List.getElem?_cons_succ, List.getElem?_cons_zero]; exact rfl) (by kernel_rfl) (by kernel_rfl) (by kernel_rfl) (by intro _ _ _ h; exact h) (Or.inl ⟨by rfl, ?y52⟩) hHeld ?_
  case y52 => (intro w hSw; (try dsimp only at hSw); go_simp; try (with_reducible rfl))
  try simp only [Act.put, List.setIfInBounds_toArray, List.set_cons_zero, List.set_cons_succ]
  refine wpAnyH_take (i := 7) (v := ?v53) (by simp only [List.getElem?_toArray, List.getElem?_cons_succ, List.getElem?_cons_zero]; exact rfl) (by kernel_rfl) (by kernel_rfl) (by kernel_rfl) (by intro _ _ _ h; exact h) (Or.inl ⟨by rfl, ?y53⟩) hHeld ?_
  case y53 => (intro w hSw; (try dsimp only at hSw); go_simp; try (with_reducible rfl))
  try simp only [Act.put, List.setIfInBounds_toArray, List.set_cons_zero, List.set_cons_succ]
  refine wpAnyH_take (i := 8) (v := ?v54) (by simp only [List.getElem?_toArray, List.getElem?_cons_succ, List.getElem?_cons_zero]; exact rfl) (by kernel_rfl) (by kernel_rfl) (by kernel_rfl) (by intro _ _ _ h; exact h) (Or.inl ⟨by rfl, ?y54⟩) hHeld ?_
  case y54 => (intro w hSw; (try dsimp only at hSw); go_simp; try (with_reducible rfl))
  try simp only [Act.put, List.setIfInBounds_toArray, List.set_cons_zero, List.set_cons_succ]
  refine wpAnyH_take (i := 9) (v := ?v55) (by simp only [List.getElem?_toArray, List.getElem?_cons_succ, List.getElem?_cons_zero]; exact rfl) (by kernel_rfl) (by kernel_rfl) (by kernel_rfl) (by intro _ _ _ h; exact h) (Or.inl ⟨by rfl, ?y55⟩) hHeld ?_
  case y55 => (intro w hSw; (try dsimp only at hSw); go_simp; try (with_reducible rfl))
  try simp only [Act.put, List.setIfInBounds_toArray, List.set_cons_zero, List.set_cons_succ]
  refine wpAnyH_ready (rs := [10]) (by kernel_rfl) (by simp) ?_
  refine AllReadyH.cons (by simp only [List.getElem?_toArray, List.getElem?_cons_succ, List.getElem?_cons_zero]; exact rfl) (fun K hK => ?_) AllReadyH.nil
  go_simp
  (with_reducible refine (hed wd hqc).mono ?_)
  rintro e wn ⟨rfl, hbn⟩
  have hqc := hqc.trans (hbn.mono hqc.size)
  have c4 := (hbn.cell (cell_lt c4)).trans c4
  have c5 := (hbn.cell (cell_lt c5)).trans c5
  have c6 := (hbn.cell (cell_lt c6)).trans c6
  obtain ⟨wd, rfl⟩ : ∃ wx : World, wx = wn := ⟨_, rfl⟩
  try dsimp only
  refine hK.out _ _ ?h57 (fun hHeld => ?_)
  case h57 => first | exact ⟨‹_›, ‹_›, ‹_›⟩ | (simp [*, go_sem])
  clear hK K
  try simp only [Act.put, List.setIfInBounds_toArray, List.set_cons_zero, List.set_cons_succ]
  refine wpAnyH_take (i := 11) (v := ?v58) (by simp only [List.getElem?_toArray, List.getElem?_cons_succ, List.getElem?_cons_zero]; exact rfl) (by kernel_rfl) (by kernel_rfl) (by kernel_rfl) (by intro _ _ _ h; exact h) (Or.inl ⟨by rfl, ?y58⟩) hHeld ?_
  case y58 => (intro w hSw; (try dsimp only at hSw); go_simp; try (with_reducible rfl))
  try simp only [Act.put, List.setIfInBounds_toArray, List.set_cons_zero, List.set_cons_succ]
  refine wpAnyH_done (by kernel_rfl) ?_ _
  go_wp2
  go_ret
  exact ⟨rfl, hqc⟩
theorem bigS_any {S : Nat → Prop} {v : Value} {bs : List Int} {w : World} (hv : SlI S w .u8 v bs) : Calls Tryd.prog 33 #[v] w fun e w' => e = .returned (.bool (decide (4096 < bs.length))) ∧ w = w' := by
  obtain ⟨a, c, rfl⟩ := hv.slice
  have e : decide ((4096 : Int) < (bs.length : Int)) = decide (4096 < bs.length) := by rw [decide_eq_decide]; omega
  have HE := Lib.hid e
  clear e
  go_enter Tryd.func33, Tryd.ntmps33
  go_wp2
  go_ret
  exact ⟨ret_bool (by first | rfl | exact HE.out), rfl⟩
set_option maxHeartbeats 2000000 in
theorem likeS_any {S S' : Nat → Prop} {v u : Value} {xs ys : List Int} {w : World} (hv : SlI S w .i64 v xs) (hu : SlI S' w .i64 u ys) :
    Calls Tryd.prog 37 #[v, u] w fun e w' => e = .returned (.bool (decide (xs = ys))) ∧ Drawn w w' := by
  obtain ⟨a, b, off, cap, rfl, hl, ha, hc0⟩ := hv
  obtain ⟨a', b', off', cap', rfl, hl', ha', hc0'⟩ := hu
  by_cases hne : xs.length = ys.length
  case neg =>
    have hn0 : ((xs.length : Int) != (ys.length : Int)) = true := by rw [bne_iff_ne]; omega
    have HE := Lib.hid (show decide (xs = ys) = false from decide_eq_false fun e => hne (by rw [e]))
    go_enter Tryd.func37, Tryd.ntmps37
    go_wp2
    go_ret
    exact ⟨ret_bool HE.out.symm, Drawn.refl _⟩
  have hn0 : ((xs.length : Int) != (ys.length : Int)) = false := by rw [bne_eq_false_iff_eq]; omega
  have HN := Lib.hid hne
  clear hne
  go_enter Tryd.func37, Tryd.ntmps37
  go_wp2
  go_loopw [5] (fun iv wr => ∃ k : Nat, k ≤ xs.length ∧ iv = .int .i64 k ∧ RowKit.Hid (xs.take k = ys.take k) ∧ Drawn w wr) (fun iv _ => xs.length - (intOf iv).toNat)
  case atStart => exact ⟨0, Nat.zero_le _, rfl, Lib.hid rfl, Drawn.refl _⟩
  case round =>
    obtain ⟨k, hk, rfl, HT, hq⟩ := hrel
    by_cases hlt : k < xs.length
    case neg =>
      have HE := Lib.hid (show decide (xs = ys) = true from decide_eq_true (by
        have h := HT.out
        rw [List.take_of_length_le (by omega), List.take_of_length_le (by have := HN.out; omega)] at h
        exact h))
      go_wp2
      go_ret
      exact ⟨ret_bool HE.out.symm, hq⟩
    have hlt2 : k < ys.length := by rw [← HN.out]; exact hlt
    have hlt3 : (k : Int) < ys.length := by omega
    have c1 := hc0.drawn hq k hlt
    have c2 := hc0'.drawn hq k hlt2
    obtain ⟨rfl, -⟩ := ha (by omega)
    obtain ⟨rfl, -⟩ := ha' (by omega)
    by_cases he : xs[k] = ys[k]
    · have hb : (xs[k] != ys[k]) = false := by rw [bne_eq_false_iff_eq]; exact he
      have HT2 := Lib.hid (show xs.take (k + 1) = ys.take (k + 1) by rw [List.take_succ_eq_append_getElem hlt, List.take_succ_eq_append_getElem hlt2, HT.out, he])
      clear he
      go_wp2
      go_quiet (fail)
      go_wp2
      go_roundw
      case rel => exact ⟨k + 1, by omega, by go_num, HT2, hq.drewN _⟩
      case measure => simp [intOf]; omega
    · have hb : (xs[k] != ys[k]) = true := by rw [bne_iff_ne]; exact he
      have HE := Lib.hid (show decide (xs = ys) = false from decide_eq_false fun e => he (by subst e; rfl))
      clear he
      go_wp2
      go_quiet (fail)
      go_wp2
      go_ret
      exact ⟨ret_bool HE.out.symm, hq.drewN _⟩
set_option maxHeartbeats 1000000 in
theorem sidEdges_any {S : Nat → Prop} {v : Value} {g : List (List Int)} {w : World} (hg : GOk g) (hv : SlR S w v g) :
    Calls Tryd.prog 40 #[.agg #[v]] w fun e w' => ∃ u, e = .returned u ∧ OwnR w' w.heap.size w'.heap.size 26 2 u (edgesL g) ∧ Below w.heap.size w w' := by
  have hq0 : Below w.heap.size w (w.alloc (.cells #[v] 29)) := (Below.refl _ _).alloc (Nat.le_refl _) _
  obtain ⟨va, vc, rfl⟩ := hv.slice
  have hgo := specGraphOk_any _ _ _ (hv.below hq0 (Nat.le_refl _))
  rw [gokB_iff.2 hg] at hgo
  go_enter Tryd.func40, Tryd.ntmps40
  go_wp2_with fail
  refine hgo.mono ?_
  rintro e w1 ⟨rfl, hb1⟩
  have hq1 := hq0.trans (hb1.mono hq0.size)
  have c3 : w1.cell? ⟨w.heap.size, 0, none⟩ = some (.slice va g.length vc) := (hb1.cell (p := ⟨w.heap.size, 0, none⟩) (by simp; try omega)).trans (by simp [go_sem])
  clear hgo
  go_wp2_with fail
  refine (l1Edges_any hg (hv.below hq1 (Nat.le_refl _))).mono ?_
  rintro e w2 ⟨u, rfl, hu, hb2⟩
  obtain ⟨ua, uc, rfl⟩ := hu.isSlice
  go_wp2
  go_ret
  exact ⟨_, rfl, hu.weaken hq1.size (Nat.le_refl _), hq1.trans (hb2.mono hq1.size)⟩
theorem pair_bit {g : List (List Int)} (hg : GOk g) {L : List NP} (h : edgesL g = rowsP L) {s : NP} (hs : s ∈ L) : ((netsL g).getD s.1 0).testBit s.2 = true := by
  have hm : rowP s ∈ edgesL g := by rw [h]; exact List.mem_map.2 ⟨s, hs, rfl⟩
  obtain ⟨u, hu, v, hv, huv, he⟩ := mem_edgesTo.1 hm
  simp only [rowP, List.cons.injEq, and_true] at he
  have h1 : s.1 = u := by omega
  rw [h1, nets_bit2 hg hu, decide_eq_true_eq, he.2]
  exact hv
theorem bestO_exists {g : List (List Int)} (hg : GOk g) : ∀ k, k ≤ g.length → ∃ best, BestO (netsL g) g.length k best
  | 0, _ => ⟨[], .inl rfl, fun q _ h => absurd h (Nat.not_lt_zero _)⟩
  | k + 1, hk => by
    obtain ⟨best, hb⟩ := bestO_exists hg k (by omega)
    obtain ⟨D, hD⟩ := isD_exists (nbO (netsL g)) (2 * g.length) (2 * k)
    have hO := oi_of hg (show k < g.length by omega) hD
    by_cases h0 : oddW (netsL g) D (D (2 * k + 1)).toNat k = []
    · exact ⟨best, hb.skip hO h0⟩
    · exact ⟨_, hb.take hO h0⟩
/-- What the law asks of the sides. -/
theorem sides_facts {g : List (List Int)} (hg : GOk g) {b : Bool} (h1 : b = true → ∃ C : Nat → Int, Z1 C ∧ TwoSides (netsL g) g.length C) (h2 : b = false → ∃ q, CW (netsL g) g.length q) : (b = true → oddF g = []) ∧ (b = false → OddN (netsL g) g.length (oddF g)) := by
  have he : oddF g = pickG (OddN (netsL g) g.length) := by rw [oddF, if_pos (gokB_true hg)]
  constructor
  · intro hb
    obtain ⟨C, hz, hc⟩ := h1 hb
    rw [he]
    exact pick_none fun q hq => two_no_odd hz hc q hq.cw
  · intro hb
    obtain ⟨q, hq⟩ := h2 hb
    rw [he]
    obtain ⟨best, hbo⟩ := bestO_exists hg g.length (Nat.le_refl _)
    have hq' : LeastG (CW (netsL g) g.length) best := ⟨hbo.1.resolve_left (hbo.2 q hq (hq.lt 0 (cw_pos hq))).1, fun q' h' => (hbo.2 q' h' (h'.lt 0 (cw_pos h'))).2⟩
    have := cw_least (fun x hx => irrO hg hx) hq'
    rw [pick_some this]
    exact this.1
set_option maxRecDepth 100000 in
set_option maxHeartbeats 8000000 in
theorem lawSides_any {S : Nat → Prop} (v : Value) (bs : List Int) (w : World) (ht : Tab w) (hv0 : SlI S w .u8 v bs) (hr : ∀ x ∈ bs, 0 ≤ x ∧ x < 256) :
    Calls Tryd.prog 7 #[v] w fun e w' => e = .returned (.bool true) ∧ Below w.heap.size w w' := by
  have hv := hv0.lowS
  have hbg := bigS_any hv
  by_cases hl : bs.length ≤ 4096
  case neg =>
    rw [decide_eq_true (show 4096 < bs.length by omega)] at hbg
    go_enter Tryd.func7, Tryd.ntmps7
    go_wp2_with (go_at_call 33; refine hbg.mono ?_; rintro e w' ⟨rfl, rfl⟩)
    go_ret
    exact ⟨rfl, Below.refl _ _⟩
  rw [decide_eq_false (show ¬ 4096 < bs.length by omega)] at hbg
  have hdr := drawSides_any hv hr (fun b hb => hb) hl
  go_enter Tryd.func7, Tryd.ntmps7
  go_wp2_with (go_at_call 33; refine hbg.mono ?_; rintro e w' ⟨rfl, rfl⟩)
  refine hdr.mono ?_
  rintro e w2 ⟨u, g, rfl, hgv, hg17, -, hb2⟩
  clear hdr hbg
  obtain ⟨ua, uc, rfl⟩ := hgv.slice
  have hb3 : Below w2.heap.size w2 (w2.alloc (.cells #[.slice ua g.length uc] 29)) := (Below.refl _ _).alloc (Nat.le_refl _) _
  have hq3 := hb2.trans (hb3.mono hb2.size)
  have hgv3 := hgv.below hb3 (Nat.le_refl _)
  have hsi := sidesI_any (ht.below hq3 (Nat.le_refl _)) hgv3
  go_wp2_with fail
  refine hsi.mono ?_
  rintro e w4 ⟨x, b, rfl, hbt, hbf, hb4⟩
  have hq4 := hq3.trans (hb4.mono hq3.size)
  have hgv4 := hgv3.below hb4 (Nat.le_refl _)
  have c4 : w4.cell? ⟨w2.heap.size, 0, none⟩ = some (.slice ua g.length uc) := (hb4.cell (p := ⟨w2.heap.size, 0, none⟩) (by simp)).trans (by simp [go_sem])
  have hoi := implOddLoop_any (ht.below hq4 (Nat.le_refl _)) hgv4
  clear hsi hb3 hgv3 hb4 hq3
  go_wp2_with fail
  refine hoi.mono ?_
  rintro e w5 ⟨o, rfl, ho, hb5⟩
  have hq5 := hq4.trans (hb5.mono hq4.size)
  have hgv5 := hgv4.below hb5 (Nat.le_refl _)
  have c5 := (hb5.cell (cell_lt c4)).trans c4
  have hol : (oddF g).length ≤ 16 := by
    unfold oddF
    split
    case isTrue hg =>
      have h := (gokB_iff.1 hg).hi
      exact pickG_len (G := OddN (netsL g) g.length) (n := 16) (fun q hq => by have := loop_len hq.1.path; omega)
    case isFalse => simp
  have hoI := Own.ints (xs := natsI (oddF g)) ho (by rw [natsI_len]; omega)
  have hgo := specGraphOk_any _ _ _ hgv5
  obtain ⟨oa, oc, rfl⟩ := ho.isSlice
  have hs4 := hq4.size
  clear hoi hq4 c4 ho
  rw [natsI_len] at hoI ⊢
  by_cases hgb : gokB g = true
  case neg =>
    have hbF : b = false := by
      cases b
      · rfl
      · exact absurd (hbt rfl).1 hgb
    subst hbF
    have e2 : oddF g = [] := by rw [oddF, if_neg hgb]
    rw [Bool.not_eq_true] at hgb
    rw [hgb] at hgo
    rw [e2]
    clear hbt hbf hgb e2 hoI hgv4
    go_wp2_with fail
    refine hgo.mono ?_
    rintro e w6 ⟨rfl, hb6⟩
    go_wp2
    go_ret
    exact ⟨rfl, hq5.trans (hb6.mono hq5.size)⟩
  have hg := gokB_iff.1 hgb
  rw [hgb] at hgo
  have hfa := sides_facts hg (b := b) (fun h => by obtain ⟨-, C, h1, h2, -⟩ := hbt h; exact ⟨C, h1, h2⟩) (fun h => hbf h hgb)
  have HFA := Lib.hid hfa
  have HG := Lib.hid hg
  have h16 := hg.hi
  clear hbf hfa hgb hg
  go_wp2_with fail
  refine hgo.mono ?_
  rintro e w6 ⟨rfl, hb6⟩
  have hq6 := hq5.trans (hb6.mono hq5.size)
  have hgv6 := hgv5.below hb6 (Nat.le_refl _)
  have c6 := (hb6.cell (cell_lt c5)).trans c5
  have hoI6 := hoI.below hb6 (Nat.le_refl _)
  have hso := specOddLoop_any hgv6
  have hb56 := hb5.trans (hb6.mono hb5.size)
  clear hgo hoI c5 hgv5 hq5 hb6 hgv4
  cases b with
  | true =>
    have hoe := HFA.out.1 rfl
    obtain ⟨-, C, -, hCT, ob, hobw, rfl, hrow⟩ := hbt rfl
    have hrow6 := hrow.below hb56 (Nat.le_refl _)
    have HCT := Lib.hid hCT
    rw [hoe] at hso hoI6 ⊢
    clear hbt HFA hoe hCT hrow
    go_wp2_with fail
    refine hso.mono ?_
    rintro e w7 ⟨o2, rfl, ho2, hb7⟩
    have hq7 := hq6.trans (hb7.mono hq6.size)
    have hgv7 := hgv6.below hb7 (Nat.le_refl _)
    have c7 := (hb7.cell (cell_lt c6)).trans c6
    have hlk := likeS_any (hoI6.below hb7 (Nat.le_refl _)) ho2
    rw [decide_eq_true rfl] at hlk
    have hrow7 := hrow6.below hb7 (Nat.le_refl _)
    clear hso hgv6 c6 hq6 hoI6 hrow6 hb7
    go_wp2_with fail
    refine hlk.mono ?_
    rintro e w8 ⟨rfl, hd8⟩
    have hb8 := hd8.below w7.heap.size
    have hq8 := hq7.trans (hb8.mono hq7.size)
    have hgv8 := hgv7.below hb8 (Nat.le_refl _)
    have c8 := (hb8.cell (cell_lt c7)).trans c7
    have hrow8 := hrow7.below hb8 (Nat.le_refl _)
    have hed := sidEdges_any HG.out hgv8
    obtain ⟨L, hLe, -, hLs⟩ := edges_pairs HG.out
    have HLE := Lib.hid hLe
    have HLS := Lib.hid hLs
    have hnn : ((g.length : Int) != (g.length : Int)) = false := by simp
    have hsm := edges_small HG.out
    have hsm0 : ((edgesL g).length : Int) ≤ 1048576 := hsm.1
    have HSM := Lib.hid hsm
    clear hlk hgv7 c7 hq7 hrow7 hLe hLs hsm
    go_wp2_with fail
    refine hed.mono ?_
    rintro e w9 ⟨ev, rfl, hev, hb9⟩
    have hes := hev.rows HSM.out
    rw [HLE.out] at hes hsm0
    rw [rowsP_len] at hsm0
    have hq9 := hq8.trans (hb9.mono hq8.size)
    have hrow9 := hrow8.below hb9 (Nat.le_refl _)
    have hrl := rowsP_len L
    obtain ⟨ea, ec, hee⟩ := hes.slice
    rw [hrl] at hee
    subst hee
    have HPR := Lib.hid (fun i (hi : i < L.length) => hes.pairS hi)
    clear hed hev hes hb9 hrow8
    go_wp2
    go_loopw [8] (fun iv wr => ∃ k : Nat, k ≤ L.length ∧ iv = .int .i64 k ∧ Drawn w9 wr) (fun iv _ => L.length - (intOf iv).toNat)
    case atStart => exact ⟨0, Nat.zero_le _, rfl, Drawn.refl _⟩
    case round =>
      obtain ⟨k, hk, rfl, hd⟩ := hrel
      by_cases hlt : k < L.length
      case neg =>
        go_wp2
        go_ret
        exact ⟨rfl, hq9.trans (hd.below _)⟩
      obtain ⟨b', off', cap', rb, ro, rc, hve, hpc0, hpx0, hpy0, -, -⟩ := HPR.out k hlt
      simp only [Value.slice.injEq, true_and] at hve
      obtain ⟨rfl, rfl⟩ := hve
      have hs := HLS.out _ (List.getElem_mem hlt)
      have hbt := pair_bit HG.out HLE.out (List.getElem_mem hlt)
      have hne := HCT.out _ _ (by omega) hs.2 hbt
      have f1 := (hd.cell _).trans (hrow9 (L[k]).1 (by omega)).1
      have f2 := (hd.cell _).trans (hrow9 (L[k]).2 hs.2).1
      have hpc := (hd.cell _).trans hpc0
      have hpx := (hd.cell _).trans hpx0
      have hpy := (hd.cell _).trans hpy0
      clear hbt hpc0 hpx0 hpy0
      generalize (L[k]).1 = x at *
      generalize (L[k]).2 = y at *
      unfold tabV at f1 f2
      have hxy : (x : Int) < g.length ∧ (y : Int) < g.length := by omega
      obtain ⟨hxl, hyl⟩ := hxy
      generalize C x = cx at *
      generalize C y = cy at *
      have hbe : (cx == cy) = false := by rw [beq_eq_false_iff_ne]; exact hne
      clear hne
      go_wp2
      go_quiet (fail)
      go_wp2
      go_roundw
      case rel => exact ⟨k + 1, by omega, by go_num, hd.drewN _⟩
      case measure => simp [intOf]; omega
  | false =>
    have hod := HFA.out.2 rfl
    have h3 := hod.1.three
    have hz1 : ((oddF g).length == 0) = false := by rw [beq_eq_false_iff_ne]; omega
    have hz2 : (((oddF g).length : Int) == 0) = false := by rw [beq_eq_false_iff_ne]; omega
    have hm2 : (((oddF g).length : Int) % 2 == 1) = true := by rw [beq_iff_eq]; have := hod.2; omega
    have hil := fun (W : World) (hb : Below w6.heap.size w6 W) => implLoopOk_any HG.out hod.1 (hgv6.below hb (Nat.le_refl _)) (hoI6.below hb (Nat.le_refl _))
    have hsl := fun (W : World) (hb : Below w6.heap.size w6 W) => specLoopOk_any HG.out hod.1 (hgv6.below hb (Nat.le_refl _)) (hoI6.below hb (Nat.le_refl _))
    clear hbt HFA hod
    generalize oddF g = q at *
    go_wp2_with fail
    refine hso.mono ?_
    rintro e w7 ⟨o2, rfl, ho2, hb7⟩
    have hq7 := hq6.trans (hb7.mono hq6.size)
    have c7 := (hb7.cell (cell_lt c6)).trans c6
    have hlk := likeS_any (hoI6.below hb7 (Nat.le_refl _)) ho2
    rw [decide_eq_true rfl] at hlk
    clear hso c6
    go_wp2_with fail
    refine hlk.mono ?_
    rintro e w8 ⟨rfl, hd8⟩
    have hb8 := hb7.trans ((hd8.below w7.heap.size).mono hb7.size)
    have c8 := (hd8.cell _).trans c7
    clear hlk c7 hb7
    go_wp2_with fail
    refine (hil _ hb8).mono ?_
    rintro e w9 ⟨rfl, hb9⟩
    have hb9' := hb8.trans (hb9.mono hb8.size)
    have c9 := (hb9.cell (cell_lt c8)).trans c8
    go_wp2_with fail
    refine (hsl _ hb9').mono ?_
    rintro e w10 ⟨rfl, hb10⟩
    go_wp2
    go_ret
    exact ⟨rfl, hq6.trans ((hb9'.trans (hb10.mono hb9'.size)).mono hq6.size)⟩
end Go.Proofs.YthpbeiihlembnaaDoor
