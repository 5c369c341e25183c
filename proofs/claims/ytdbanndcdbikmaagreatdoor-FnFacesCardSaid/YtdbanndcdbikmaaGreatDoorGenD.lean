/- GenusOf: both sides, and the law. -/
import Derived.Test.YtdbanndcdbikmaaGreatDoorMod3
import Derived.Test.YtdbanndcdbikmaaGreatDoorReach2
import Derived.Test.YtdbanndcdbikmaaGreatDoorFacM
import Derived.Test.YtdbanndcdbikmaaGreatDoorGroM
import Derived.Test.YtdbanndcdbikmaaGreatDoorFac2
import Derived.Test.YtdbanndcdbikmaaGreatDoorEdge
import Derived.Test.YtdbanndcdbikmaaGreatDoorLoopL
import Derived.Test.YtdbanndcdbikmaaGreatDoorGenC
import Derived.Test.YtdbanndcdbikmaaGreatDoorFacO
namespace Go.Proofs.YtdbanndcdbikmaaGreatDoor
open Go.RowKit
theorem edgesTo_flat (g : List (List Int)) : ∀ k, (edgesTo g k).length = ((List.range k).map fun u => ((g.getD u []).filter fun v => decide ((u : Int) < v)).length).sum
  | 0 => rfl
  | k + 1 => by
    rw [edgesTo, List.length_append, edgesTo_flat g k, List.range_succ, List.map_append, List.sum_append]
    simp [edgeRow]
theorem aro_sorted {g r : List (List Int)} (h : AroundP g r) {u : Nat} (hu : u < g.length) : g.getD u [] = natsI (rowD (tOf r) u) := by
  have e : g.getD u [] = g[u] := by simp [hu]
  refine sorted_ext ?_ ?_ (fun x => ?_)
  · rw [e]; exact rise_pw (h.gok.rise u hu)
  · unfold natsI rowD
    rw [List.pairwise_map]
    exact (List.pairwise_lt_range.filter _).imp (fun h => by omega)
  · unfold natsI
    simp only [List.mem_map]
    constructor
    · intro hx
      have h1 := h.gok.ge hu x (by rw [← e]; exact hx)
      refine ⟨x.toNat, (mem_rowD (aro_rot h)).2 ((aro_mem h u x.toNat).2 (by rw [Int.toNat_of_nonneg h1.1]; exact hx)), by omega⟩
    · rintro ⟨v, hv, rfl⟩
      exact (aro_mem h u v).1 ((mem_rowD (aro_rot h)).1 hv)
theorem edges_sides {g r : List (List Int)} (h : AroundP g r) : sidesN (tOf r) = 2 * (edgesL g).length := by
  have hr := aro_rot h
  have hl : (tOf r).length = g.length := by rw [tOf_len, h.len]
  have hir : ∀ u, u ∉ (tOf r).getD u [] := fun u hu => by
    have h1 := (aro_mem h u u).1 hu
    have h2 := aro_ge h ((aro_row h u _).2 h1)
    have e : g.getD u [] = g[u]'h2.2.2 := by simp [h2.2.2]
    rw [e] at h1
    exact h.gok.irrefl u h2.2.2 h1
  rw [← darts_sides hr, darts_even hr hir]
  congr 1
  unfold edgesL
  rw [edgesTo_flat, ← hl]
  unfold dartsN
  rw [List.filter_flatMap, List.length_flatMap]
  congr 1
  apply List.map_congr_left
  intro u hu
  have hu' : u < g.length := by rw [← hl]; exact List.mem_range.1 hu
  rw [aro_sorted h hu']
  unfold natsI
  rw [List.filter_map, List.length_map, List.filter_map, List.length_map]
  congr 1
  apply List.filter_congr
  intro v _
  simp [Function.comp]
theorem aro_next {g r : List (List Int)} (h : AroundP g r) : netsL g = nextL (tOf r) := by
  have hl : (tOf r).length = g.length := by rw [tOf_len, h.len]
  apply List.ext_getElem (by rw [netsL_len, nextL_len, hl])
  intro u h1 h2
  have hu : u < g.length := by rw [netsL_len] at h1; exact h1
  have hrr := natsI_range (aro_rot h) u
  simp only [netsL, nextL, List.getElem_map]
  have e : g.getD u [] = g[u] := by simp [hu]
  have e2 : (tOf r).getD u [] = (tOf r)[u]'(by rw [hl]; exact hu) := by simp [show u < (tOf r).length by rw [hl]; exact hu]
  rw [e2] at hrr
  apply nat_ext
  intro i
  rw [testBit_maskL (fun x hx => (h.gok.ge hu x hx).1), testBit_maskL (fun x hx => (hrr x hx).1), decide_eq_decide]
  have := aro_mem h u i
  rw [e, e2] at this
  unfold natsI
  rw [List.mem_map]
  constructor
  · intro hi; exact ⟨i, this.2 hi, rfl⟩
  · rintro ⟨v, hv, hvi⟩
    have : v = i := by omega
    subst this
    have hm : v ∈ (tOf r).getD u [] := by rw [e2]; exact hv
    have h3 := (aro_mem h u v).1 hm
    rw [e] at h3; exact h3
/-- What the program adds up. -/
def bigSum (l : List Nat) : Int := ((bigP l).map fun m => (2 : Int) - (popN m : Int)).sum
theorem bigSum_eq : ∀ l : List Nat, bigSum l = 2 * ((bigP l).length : Int) - (((bigP l).map popN).sum : Nat)
  | [] => rfl
  | m :: l => by
    have ih := bigSum_eq l
    unfold bigSum bigP at *
    rw [List.filter_cons]
    by_cases h : 1 < popN m
    · simp only [h, decide_true, if_true, List.map_cons, List.sum_cons, List.length_cons]
      rw [ih]; push_cast; omega
    · simp only [h, decide_false, Bool.false_eq_true, if_false]
      exact ih
theorem bigSum_take {l : List Nat} {k : Nat} (hk : k < l.length) : bigSum (l.take (k + 1)) = bigSum (l.take k) + if 1 < popN l[k] then (2 : Int) - (popN l[k] : Int) else 0 := by
  unfold bigSum bigP
  rw [List.take_succ_eq_append_getElem hk, List.filter_append, List.map_append, List.sum_append]
  by_cases h : 1 < popN l[k] <;> simp [h]
theorem bigSum_le : ∀ l : List Nat, -(32 * (l.length : Int)) ≤ bigSum l ∧ bigSum l ≤ 0
  | [] => by simp [bigSum, bigP]
  | m :: l => by
    have ih := bigSum_le l
    have h32 := popN_32 m
    unfold bigSum bigP at *
    rw [List.filter_cons]
    by_cases h : 1 < popN m
    · simp only [h, decide_true, if_true, List.map_cons, List.sum_cons, List.length_cons]
      push_cast; omega
    · simp only [h, decide_false, Bool.false_eq_true, if_false, List.length_cons]
      push_cast; omega
theorem twice_bound {t : List (List Nat)} (h : RotN t) : -5000 ≤ twiceI t ∧ twiceI t ≤ 5000 := by
  have h1 := partP_le (nextL t) (firstN t.length)
  have h2 := partV_le (nextL t) (firstN t.length)
  have h3 := (facesN_small h).1
  have h4 := sides_le h t.length (Nat.le_refl _)
  rw [List.take_length] at h4
  have h5 := h.le
  unfold twiceI
  omega
theorem tdiv_bound {z : Int} (h : -5000 ≤ z ∧ z ≤ 5000) : -5000 ≤ Int.tdiv z 2 ∧ Int.tdiv z 2 ≤ 5000 := by
  rcases Int.le_total 0 z with h0 | h0
  · rw [Int.tdiv_eq_ediv_of_nonneg h0]; omega
  · obtain ⟨y, rfl⟩ : ∃ y, z = -y := ⟨-z, by omega⟩
    rw [Int.neg_tdiv, Int.tdiv_eq_ediv_of_nonneg (by omega)]; omega
noncomputable def genusI (g r : List (List Int)) : Int := if aroundB g r = true then Int.tdiv (twiceI (tOf r)) 2 else -1
theorem twice_impl {g r : List (List Int)} (h : AroundP g r) : twiceI (tOf r) = (((edgesL g).length : Int) - ((facesN (tOf r)).length : Int)) + bigSum (partsN (netsL g) (firstN g.length)) := by
  have h1 := edges_sides h
  have h2 : sidesN (tOf r) / 2 = (edgesL g).length := by omega
  have hl : (tOf r).length = g.length := by rw [tOf_len, h.len]
  unfold twiceI
  rw [h2, bigSum_eq, aro_next h, hl]
  unfold partP partV
  omega
set_option maxHeartbeats 4000000 in
theorem specGenusOf_any {S S' : Nat → Prop} {gv rv : Value} {g r : List (List Int)} {w : World} (hvg : SlR S w gv g) (hvr : SlR S' w rv r) :
    Calls Tryz.prog 11 #[.agg #[gv], .agg #[rv]] w fun e w' => e = .returned (.int .i64 (genusI g r)) ∧ Below w.heap.size w w' := by
  have hq0 : Below w.heap.size w ((w.alloc (.cells #[gv] 26)).alloc (.cells #[rv] 28)) := ((Below.refl _ _).alloc (Nat.le_refl _) _).alloc (by simp) _
  obtain ⟨ga, gc, rfl⟩ := hvg.slice
  obtain ⟨ra, rc, rfl⟩ := hvr.slice
  have hao := specAroundOk_any (hvg.below hq0 (Nat.le_refl _)) (hvr.below hq0 (Nat.le_refl _))
  by_cases ha : aroundB g r = true
  case neg =>
    have HE := Lib.hid (show genusI g r = -1 by rw [genusI, if_neg ha])
    rw [Bool.not_eq_true] at ha
    rw [ha] at hao
    clear ha
    go_enter Tryz.func11, Tryz.ntmps11
    go_wp2_with fail
    refine hao.mono ?_
    rintro e w1 ⟨rfl, hb1⟩
    go_wp2
    go_ret
    exact ⟨ret_int HE.out.symm, hq0.trans (hb1.mono hq0.size)⟩
  have hP := around_iff.1 ha
  have HE := Lib.hid (show genusI g r = Int.tdiv (twiceI (tOf r)) 2 by rw [genusI, if_pos ha])
  rw [ha] at hao
  have HRT := Lib.hid (aro_rot hP)
  have HEQ := Lib.hid (aro_eq hP)
  have HL0 := Lib.hid (show 0 < (tOf r).length by rw [tOf_len, hP.len]; exact hP.gok.lo)
  clear ha hP
  go_enter Tryz.func11, Tryz.ntmps11
  go_wp2_with fail
  refine hao.mono ?_
  rintro e w1 ⟨rfl, hb1⟩
  have hq1 := hq0.trans (hb1.mono hq0.size)
  have c1 : w1.cell? ⟨w.heap.size + 1, 0, none⟩ = some (.slice ra r.length rc) := (hb1.cell (p := ⟨w.heap.size + 1, 0, none⟩) (by simp)).trans (by simp [go_sem])
  have htr := hvr.below hq1 (Nat.le_refl _)
  rw [show SlR S' w1 (.slice ra r.length rc) r = SlR S' w1 (.slice ra r.length rc) ((tOf r).map natsI) by rw [← HEQ.out]] at htr
  have htw := l22Twice_any HRT.out HL0.out htr
  have hb := twice_bound HRT.out
  generalize twiceI (tOf r) = z at *
  obtain ⟨zq, hzq⟩ : ∃ zq, zq = Int.tdiv z 2 := ⟨_, rfl⟩
  have HZQ := Lib.hid hzq
  have hzb : -5000 ≤ Int.tdiv z 2 ∧ Int.tdiv z 2 ≤ 5000 := tdiv_bound hb
  rw [← hzq] at hzb
  have hzq2 : Int.tdiv z 2 = zq := hzq.symm
  clear hao hzq
  go_wp2_with fail
  refine htw.mono ?_
  rintro e w2 ⟨rfl, hb2⟩
  go_wp2
  go_ret
  exact ⟨ret_int (by rw [HE.out]; first | rfl | exact HZQ.out | exact HZQ.out.symm), hq1.trans (hb2.mono hq1.size)⟩
theorem partsF_lt2 {a : List Nat} {n : Nat} (hn : n ≤ 16) : ∀ {k wi x : Nat}, wi < 2 ^ n → x ∈ partsF a k wi → x < 2 ^ n
  | 0, _, _, _, h => by simp [partsF] at h
  | k + 1, wi, x, hw, h => by
    have hw32 : wi < 4294967296 := Nat.lt_of_lt_of_le hw (by have := pow_le16 hn; omega)
    rw [partsF] at h
    by_cases h0 : wi = 0
    · rw [if_pos h0] at h; cases h
    · rw [if_neg h0] at h
      rcases List.mem_cons.1 h with rfl | h
      · exact reach_lt2 hn hw (bit_lt_of hw (ctz_bit h0 hw32))
      · exact partsF_lt2 hn (Nat.lt_of_le_of_lt (andN_le _ _) hw) h
set_option maxHeartbeats 2000000 in
theorem manyEdges_any {S : Nat → Prop} {v : Value} {g : List (List Int)} {w : World} (hg : GOk g) (hv : SlR S w v g) :
    Calls Tryz.prog 32 #[.agg #[v]] w fun e w' => e = .returned (.int .i64 ((edgesL g).length : Int)) ∧ Below w.heap.size w w' := by
  have hq0 : Below w.heap.size w (w.alloc (.cells #[v] 26)) := (Below.refl _ _).alloc (Nat.le_refl _) _
  obtain ⟨ga, gc, rfl⟩ := hv.slice
  have hee : Calls Tryz.prog 69 #[.agg #[.slice ga g.length gc]] (w.alloc (.cells #[.slice ga g.length gc] 26)) fun e w' => ∃ u, e = .returned u ∧ OwnR w' (w.alloc (.cells #[.slice ga g.length gc] 26)).heap.size w'.heap.size 36 2 u (edgesL g) ∧ Below (w.alloc (.cells #[.slice ga g.length gc] 26)).heap.size (w.alloc (.cells #[.slice ga g.length gc] 26)) w' := by
    generalize (w.alloc (.cells #[.slice ga g.length gc] 26)) = wa at *
    have hva : SlR S wa (.slice ga g.length gc) g := hv.below hq0 (Nat.le_refl _)
    have hq1 : Below wa.heap.size wa (wa.alloc (.cells #[.slice ga g.length gc] 26)) := (Below.refl _ _).alloc (Nat.le_refl _) _
    have hok := implGraphOk_any _ _ _ (hva.below hq1 (Nat.le_refl _))
    rw [gokB_true hg] at hok
    go_enter Tryz.func69, Tryz.ntmps69
    go_wp2_with fail
    refine hok.mono ?_
    rintro e w1 ⟨rfl, hb1⟩
    have hq2 := hq1.trans (hb1.mono hq1.size)
    have c1 : w1.cell? ⟨wa.heap.size, 0, none⟩ = some (.slice ga g.length gc) := (hb1.cell (p := ⟨wa.heap.size, 0, none⟩) (by simp)).trans (by simp [go_sem])
    have hed := edgesOf_any hg (hva.below hq2 (Nat.le_refl _))
    clear hok
    go_wp2_with fail
    refine hed.mono ?_
    rintro e w2 ⟨u, rfl, hu, hb2⟩
    go_wp2
    go_ret
    exact ⟨_, rfl, hu.weaken hq2.size (Nat.le_refl _), hq2.trans (hb2.mono hq2.size)⟩
  have hs0 : w.heap.size ≤ (w.alloc (.cells #[.slice ga g.length gc] 26)).heap.size := hq0.size
  have hel := (edges_small hg).1
  go_enter Tryz.func32, Tryz.ntmps32
  go_wp2_with fail
  refine hee.mono ?_
  rintro e w1 ⟨u, rfl, hu, hb1⟩
  obtain ⟨ua, uc, rfl⟩ := hu.isSlice
  go_wp2
  go_ret
  exact ⟨rfl, hq0.trans (hb1.mono hs0)⟩
set_option maxRecDepth 100000 in
set_option maxHeartbeats 8000000 in
theorem implGenusOf_any {S S' : Nat → Prop} {gv rv : Value} {g r : List (List Int)} {w : World} (htab : Tab w) (hvg : SlR S w gv g) (hvr : SlR S' w rv r) (hs : SmallR r 1048576) :
    Calls Tryz.prog 9 #[.agg #[gv], .agg #[rv]] w fun e w' => e = .returned (.int .i64 (genusI g r)) ∧ Below w.heap.size w w' := by
  have hq0 : Below w.heap.size w ((w.alloc (.cells #[gv] 26)).alloc (.cells #[rv] 28)) := ((Below.refl _ _).alloc (Nat.le_refl _) _).alloc (by simp) _
  obtain ⟨ga, gc, rfl⟩ := hvg.slice
  obtain ⟨ra, rc, rfl⟩ := hvr.slice
  have hao := implAroundOk_any (hvg.below hq0 (Nat.le_refl _)) (hvr.below hq0 (Nat.le_refl _)) (fun x hx => by
    obtain ⟨i, hi, rfl⟩ := List.getElem_of_mem hx
    have := hs.2 i hi hi; omega)
  by_cases ha : aroundB g r = true
  case neg =>
    have HE := Lib.hid (show genusI g r = -1 by rw [genusI, if_neg ha])
    rw [Bool.not_eq_true] at ha
    rw [ha] at hao
    clear ha
    go_enter Tryz.func9, Tryz.ntmps9
    go_wp2_with fail
    refine hao.mono ?_
    rintro e w1 ⟨rfl, hb1⟩
    go_wp2
    go_ret
    exact ⟨ret_int HE.out.symm, hq0.trans (hb1.mono hq0.size)⟩
  have hP := around_iff.1 ha
  have HE := Lib.hid (show genusI g r = Int.tdiv (twiceI (tOf r)) 2 by rw [genusI, if_pos ha])
  rw [ha] at hao
  have HRT := Lib.hid (aro_rot hP)
  have HEQ := Lib.hid (aro_eq hP)
  have HTI := Lib.hid (twice_impl hP)
  have hg := hP.gok
  have h16 := hg.hi
  have hlo := hg.lo
  have hp16 := pow_le16 h16
  have htb := tdiv_bound (twice_bound (aro_rot hP))
  have hel : (edgesL g).length ≤ 512 := by have := edgesTo_len hg g.length (Nat.le_refl _); unfold edgesL; omega
  have hfl := (facesN_small (aro_rot hP)).1
  have hf2 : firstN g.length < 2 ^ g.length := by unfold firstN; have := Nat.two_pow_pos g.length; omega
  clear ha hP
  go_enter Tryz.func9, Tryz.ntmps9
  go_wp2_with fail
  refine hao.mono ?_
  rintro e w1 ⟨rfl, hb1⟩
  have hq1 := hq0.trans (hb1.mono hq0.size)
  have c0 : w1.cell? ⟨w.heap.size, 0, none⟩ = some (.slice ga g.length gc) := (hb1.cell (p := ⟨w.heap.size, 0, none⟩) (by simp <;> omega)).trans (by simp [go_sem])
  have c1 : w1.cell? ⟨w.heap.size + 1, 0, none⟩ = some (.slice ra r.length rc) := (hb1.cell (p := ⟨w.heap.size + 1, 0, none⟩) (by simp)).trans (by simp [go_sem])
  have htn := turnsOf_any (hvr.below hq1 (Nat.le_refl _)) hs
  clear hao
  go_wp2_with fail
  refine htn.mono ?_
  rintro e w2 ⟨tu, rfl, htu, hb2⟩
  clear htn
  have hq2 := hq1.trans (hb2.mono hq1.size)
  have c0 := (hb2.cell (cell_lt c0)).trans c0
  have htr := htu.rows hs
  rw [HEQ.out] at htr
  have hfa := faces_any HRT.out htr
  go_wp2_with fail
  refine hfa.mono ?_
  rintro e w3 ⟨fu, mb, rfl, hfu, hb3⟩
  clear hfa htr htu
  have hq3 := hq2.trans (hb3.mono hq2.size)
  have c0 := (hb3.cell (cell_lt c0)).trans c0
  obtain ⟨fa, fc, rfl⟩ := hfu.isSlice
  rw [List.length_map]
  have hme := manyEdges_any hg (hvg.below hq3 (Nat.le_refl _))
  generalize hFe : (facesN (tOf r)).length = FL at *
  have HFE := Lib.hid hFe
  generalize hEe : (edgesL g).length = EL at *
  have HEE := Lib.hid hEe
  clear hfu hFe hEe
  go_wp2_with fail
  refine hme.mono ?_
  rintro e w4 ⟨rfl, hb4⟩
  have hq4 := hq3.trans (hb4.mono hq3.size)
  have c0 := (hb4.cell (cell_lt c0)).trans c0
  have hno := netsOf_any _ _ _ (hvg.below hq4 (Nat.le_refl _)) hg
  clear hme
  go_wp2_with fail
  refine hno.mono ?_
  rintro e w5 ⟨nu, rfl, hnu, hb5⟩
  have hq5 := hq4.trans (hb5.mono hq4.size)
  have hnI := Own.ints (xs := natsI (netsL g)) hnu (by omega)
  obtain ⟨na, nc, rfl⟩ := hnu.isSlice
  have hal := allOf_any na g.length nc w5 h16
  have hpo := partsOf_any (wi := firstN g.length) (htab.below hq5 (Nat.le_refl _)) hnI (by rw [netsL_len]; exact h16) (fun m hm => by
    obtain ⟨l, hl, rfl⟩ := List.mem_map.1 hm
    obtain ⟨i, hi, rfl⟩ := List.getElem_of_mem hl
    exact mask32G (fun x hx => hg.ge32 hi x hx)) (by rw [netsL_len]; exact hf2)
  have hpl := partsN_len (netsL g) (firstN g.length)
  have HLT := Lib.hid (fun x (hx : x ∈ partsN (netsL g) (firstN g.length)) => show x < 65536 from Nat.lt_of_lt_of_le (partsF_lt2 h16 hf2 hx) hp16)
  generalize partsN (netsL g) (firstN g.length) = L at *
  clear hno hnu
  go_wp2_with (go_at_call 35; refine hal.mono ?_; rintro e w' ⟨rfl, rfl⟩)
  refine hpo.mono ?_
  rintro e w6 ⟨pu, rfl, hpu, hb6⟩
  have hq6 := hq5.trans (hb6.mono hq5.size)
  obtain ⟨pb, po, pc, hpe, hpc⟩ := (Own.ints (xs := natsI L) hpu (by omega)).at_
  obtain ⟨pa, pcap, rfl⟩ := hpu.isSlice
  rw [natsI_len] at hpe
  have HPC := Lib.hid hpc
  clear hpo hal hpu hpc hnI
  go_wp2
  go_loopw [33, 7] (fun iv sv wr => ∃ k : Nat, k ≤ L.length ∧ iv = .int .i64 k ∧ sv = .int .i64 (((EL : Int) - (FL : Int)) + bigSum (L.take k)) ∧ Drawn w6 wr) (fun iv _ _ => L.length - (intOf iv).toNat)
  case atStart => exact ⟨0, Nat.zero_le _, rfl, by simp [bigSum, bigP], Drawn.refl _⟩
  case round =>
    obtain ⟨k, hk, rfl, rfl, hqd⟩ := hrel
    obtain ⟨wi, rfl⟩ : ∃ wx : World, wx = wr := ⟨_, rfl⟩
    have hbl := bigSum_le (L.take k)
    rw [List.length_take, Nat.min_eq_left hk] at hbl
    by_cases hlt : k < L.length
    case neg =>
      obtain rfl : k = L.length := by omega
      rw [List.take_length] at *
      have HZ := Lib.hid (show genusI g r = Int.tdiv ((EL : Int) - (FL : Int) + bigSum L) 2 by rw [HE.out, HTI.out])
      have hzb : -5000 ≤ Int.tdiv ((EL : Int) - (FL : Int) + bigSum L) 2 ∧ Int.tdiv ((EL : Int) - (FL : Int) + bigSum L) 2 ≤ 5000 := tdiv_bound (by omega)
      generalize (EL : Int) - (FL : Int) + bigSum L = z at *
      obtain ⟨zq, hzq⟩ : ∃ zq, zq = Int.tdiv z 2 := ⟨_, rfl⟩
      have HZQ := Lib.hid hzq
      rw [← hzq] at hzb
      have hzq2 : Int.tdiv z 2 = zq := hzq.symm
      clear hzq htb
      go_wp2
      go_ret
      exact ⟨ret_int (by rw [HZ.out]; first | rfl | exact HZQ.out | exact HZQ.out.symm), hq6.trans ((hqd.below w6.heap.size).mono hq6.size)⟩
    have hc := HPC.out k (by rw [natsI_len]; exact hlt)
    rw [natsI_get] at hc
    have hc := (hqd.cell _).trans hc
    have hpe2 := hpe (by omega)
    simp only [Value.slice.injEq] at hpe2
    obtain ⟨rfl, -, rfl⟩ := hpe2
    have hm16 := HLT.out _ (List.getElem_mem hlt)
    have HBT := Lib.hid (bigSum_take hlt)
    have hsz := fun W => size_any L[k] W hm16
    have hpi := popN_I L[k]
    rw [← hpi] at hsz
    have h32 := popN_32 L[k]
    have hbl2 := bigSum_le (L.take (k + 1))
    rw [List.length_take, Nat.min_eq_left hlt] at hbl2
    generalize bigSum (L.take k) = sk at *
    generalize hsk2 : bigSum (L.take (k + 1)) = sk2 at *
    have HSK := Lib.hid hsk2
    have HBT2 := HBT.out
    generalize popN L[k] = p at *
    generalize L[k] = m at *
    clear hpi hsk2 hpe
    by_cases hp : 1 < p
    case pos =>
      rw [if_pos hp] at HBT2
      have HB3 := Lib.hid HBT2
      have hd1 : decide ((1 : Int) < (p : Int)) = true := decide_eq_true (by omega)
      have hd2 : decide (1 < p) = true := decide_eq_true hp
      clear HBT2
      go_wp2_with fail
      refine (hsz _).mono ?_
      rintro e w7 ⟨rfl, hd7⟩
      go_wp2_with fail
      refine (hsz _).mono ?_
      rintro e w8 ⟨rfl, hd8⟩
      go_wp2
      go_roundw
      case rel => exact ⟨k + 1, by omega, by go_num, by rw [HSK.out, HB3.out]; first | rfl | (congr 1; omega), (hqd.trans hd7).trans hd8⟩
      case measure => simp [intOf]; omega
    case neg =>
      rw [if_neg hp] at HBT2
      have HB3 := Lib.hid HBT2
      have hd1 : decide ((1 : Int) < (p : Int)) = false := decide_eq_false (by omega)
      have hd2 : decide (1 < p) = false := decide_eq_false hp
      clear HBT2
      go_wp2_with fail
      refine (hsz _).mono ?_
      rintro e w7 ⟨rfl, hd7⟩
      go_wp2
      go_roundw
      case rel => exact ⟨k + 1, by omega, by go_num, by rw [HSK.out, HB3.out]; first | rfl | (congr 1; omega), hqd.trans hd7⟩
      case measure => simp [intOf]; omega
