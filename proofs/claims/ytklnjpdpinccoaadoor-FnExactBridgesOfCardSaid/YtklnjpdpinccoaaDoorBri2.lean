/- A graph without an edge, built by the reference. -/
import Derived.Test.YtklnjpdpinccoaaDoorBri1
import Derived.Test.YtklnjpdpinccoaaDoorFold
import Derived.Test.YtklnjpdpinccoaaDoorFit2
namespace Go.Proofs.YtklnjpdpinccoaaDoor
open Go.RowKit
noncomputable def cutG (g : List (List Int)) (u z : Nat) : List (List Int) := (cutN (netsL g) u z).map bitsI
theorem cutG_len (g : List (List Int)) (u z : Nat) : (cutG g u z).length = g.length := by rw [cutG, List.length_map, cutN_len, netsL_len]
theorem cutN_get {a : List Nat} {u z x : Nat} (ha : ∀ m ∈ a, m < 4294967296) (hu : u < a.length) (hz : z < a.length) (h16 : a.length ≤ 16) (hne : u ≠ z) : (cutN a u z).getD x 0 = if x = u then andN (a.getD u 0) (bit z) else if x = z then andN (a.getD z 0) (bit u) else a.getD x 0 := by
  apply Nat.eq_of_testBit_eq
  intro v
  rw [cutN_bit ha hu hz h16]
  have hb : ∀ y i, y < 32 → (andN (a.getD i 0) (bit y)).testBit v = ((a.getD i 0).testBit v && !decide (y = v)) := fun y i hy => by
    rw [testBit_andN (nat_getD ha i) (bit_lt hy), testBit_bit]
  by_cases e1 : x = u
  · subst e1
    rw [if_pos rfl, hb z x (by omega)]
    congr 2
    rw [Bool.eq_iff_iff, Bool.or_eq_true, decide_eq_true_eq, decide_eq_true_eq, decide_eq_true_eq]
    constructor
    · rintro (h | h)
      · exact (congrArg Prod.snd h).symm
      · exact absurd (congrArg Prod.fst h) hne
    · intro h; left; rw [h]
  · rw [if_neg e1]
    by_cases e2 : x = z
    · subst e2
      rw [if_pos rfl, hb u x (by omega)]
      congr 2
      rw [Bool.eq_iff_iff, Bool.or_eq_true, decide_eq_true_eq, decide_eq_true_eq, decide_eq_true_eq]
      constructor
      · rintro (h | h)
        · exact absurd (congrArg Prod.fst h) e1
        · exact (congrArg Prod.snd h).symm
      · intro h; right; rw [h]
    · rw [if_neg e2]
      have a1 : decide ((x, v) = (u, z)) = false := decide_eq_false fun h => e1 (congrArg Prod.fst h)
      have a2 : decide ((x, v) = (z, u)) = false := decide_eq_false fun h => e2 (congrArg Prod.fst h)
      rw [a1, a2]; simp
theorem row_bits {g : List (List Int)} (hg : GOk g) {x : Nat} (hx : x < g.length) : g[x] = bitsI ((netsL g).getD x 0) := by
  rw [netsL_get hx, bitsI_maskL (rise_sorted (hg.rise x hx)) (hg.ge32 hx)]
theorem cutG_row {g : List (List Int)} {u z x : Nat} (hx : x < (cutG g u z).length) : (cutG g u z)[x] = bitsI ((cutN (netsL g) u z).getD x 0) := by
  have h : x < (cutN (netsL g) u z).length := by simpa [cutG] using hx
  simp [cutG, h]
theorem maskL_bitsB {m : Nat} (hm : m < 4294967296) : maskL (bitsI m) = m := by
  apply Nat.eq_of_testBit_eq
  intro i
  rw [testBit_maskL (fun x hx => ((mem_bitsI hm).1 hx).1), Bool.eq_iff_iff, decide_eq_true_eq, mem_bitsI hm, Int.toNat_natCast]
  exact ⟨fun h => h.2, fun h => ⟨by omega, h⟩⟩
theorem nets_bitsB {M : List Nat} (h : ∀ m ∈ M, m < 4294967296) : netsL (M.map bitsI) = M := by
  unfold netsL
  rw [List.map_map]
  conv => rhs; rw [← List.map_id M]
  exact List.map_congr_left fun m hm => maskL_bitsB (h m hm)
theorem netsL_cutG {g : List (List Int)} (hg : GOk g) (u z : Nat) : netsL (cutG g u z) = cutN (netsL g) u z := nets_bitsB (cutN_lt (netsL_lt hg))
/-- A list of masks makes a right graph. -/
theorem gok_bits {M : List Nat} {n : Nat} (hl : M.length = n) (h1 : 1 ≤ n) (h16 : n ≤ 16) (hlt : ∀ m ∈ M, m < 2 ^ n) (hsym : ∀ x y, x < n → y < n → (M.getD x 0).testBit y = true → (M.getD y 0).testBit x = true) (hirr : ∀ x, x < n → (M.getD x 0).testBit x = false) : GOk (M.map bitsI) := by
  have hn32 : ∀ m ∈ M, m < 4294967296 := fun m hm => Nat.lt_trans (hlt m hm) (pow_lt32 (by omega))
  have hrow : ∀ v (h : v < (M.map bitsI).length), (M.map bitsI)[v] = bitsI (M.getD v 0) ∧ M.getD v 0 < 2 ^ n := fun v h => by
    have h2 : v < M.length := by simpa using h
    have e : M.getD v 0 = M[v] := by simp [h2]
    exact ⟨by rw [e]; simp, by rw [e]; exact hlt _ (List.getElem_mem _)⟩
  have hm : ∀ v (h : v < (M.map bitsI).length) (x : Int), x ∈ (M.map bitsI)[v] → 0 ≤ x ∧ x < n ∧ (M.getD v 0).testBit x.toNat = true := fun v h x hx => by
    obtain ⟨e, hl2⟩ := hrow v h
    rw [e, mem_bitsI (Nat.lt_trans hl2 (pow_lt32 (by omega)))] at hx
    have := bit_lt_of hl2 hx.2
    exact ⟨hx.1, by omega, hx.2⟩
  refine ⟨by rw [List.length_map]; omega, by rw [List.length_map]; omega, fun v hv => ?_, fun v hv hx => ?_, fun v hv u hu => ?_⟩
  · rw [List.length_map, hl]
    refine sorted_rise ?_ (fun x hx => ⟨(hm v hv x hx).1, (hm v hv x hx).2.1⟩)
    rw [(hrow v hv).1]; exact bitsI_sorted _
  · have h2 := (hm v hv _ hx).2.2
    rw [Int.toNat_natCast, hirr v (by rw [List.length_map] at hv; omega)] at h2; cases h2
  · obtain ⟨h2, h3, h4⟩ := hm v hv u hu
    have hvn : v < n := by rw [List.length_map] at hv; omega
    have hul : u.toNat < (M.map bitsI).length := by rw [List.length_map]; omega
    have e : (M.map bitsI).getD u.toNat [] = (M.map bitsI)[u.toNat] := by simp; rw [List.getElem?_eq_getElem (by rw [List.length_map] at hul; omega)]; rfl
    rw [e, (hrow _ hul).1, mem_bitsI (Nat.lt_trans (hrow _ hul).2 (pow_lt32 (by omega))), Int.toNat_natCast]
    exact ⟨by omega, hsym v u.toNat hvn (by omega) h4⟩
theorem cutG_ok {g : List (List Int)} (hg : GOk g) {u z : Nat} (hu : u < g.length) (hz : z < g.length) : GOk (cutG g u z) := by
  have h16 := hg.hi
  have hal := netsL_lt hg
  have hb : ∀ y v, ((cutN (netsL g) u z).getD y 0).testBit v = (((netsL g).getD y 0).testBit v && !(decide ((y, v) = (u, z)) || decide ((y, v) = (z, u)))) := fun y v => cutN_bit hal (by rw [netsL_len]; exact hu) (by rw [netsL_len]; exact hz) (by rw [netsL_len]; exact h16)
  refine gok_bits (n := g.length) (by rw [cutN_len, netsL_len]) hg.lo h16 (fun m hm => ?_) (fun x y hx hy h => ?_) (fun x hx => ?_)
  · obtain ⟨i, hi, rfl⟩ := List.getElem_of_mem hm
    have hi2 : i < g.length := by rw [cutN_len, netsL_len] at hi; exact hi
    refine lt_bits fun j hj => ?_
    have e : (cutN (netsL g) u z).getD i 0 = (cutN (netsL g) u z)[i] := by simp [hi]
    rw [← e, hb, Bool.and_eq_true, nets_bit2 hg hi2, decide_eq_true_eq] at hj
    exact (hg.symD hi2 hj.1).1
  · rw [hb, Bool.and_eq_true, nets_bit2 hg hx, decide_eq_true_eq] at h
    have h2 := hg.symD hx h.1
    rw [hb, nets_bit2 hg hy, decide_eq_true h2.2.1, Bool.true_and]
    have h3 := h.2
    rw [Bool.not_eq_true', Bool.or_eq_false_iff, decide_eq_false_iff_not, decide_eq_false_iff_not] at h3
    rw [Bool.not_eq_true', Bool.or_eq_false_iff, decide_eq_false_iff_not, decide_eq_false_iff_not]
    exact ⟨fun e => h3.2 (by rw [(Prod.mk.inj e).1, (Prod.mk.inj e).2]), fun e => h3.1 (by rw [(Prod.mk.inj e).1, (Prod.mk.inj e).2])⟩
  · rw [hb, nets_bit2 hg hx, Bool.and_eq_false_iff]
    left
    refine decide_eq_false fun h => (hg.symD hx h).2.2 rfl
set_option maxRecDepth 100000 in
set_option maxHeartbeats 8000000 in
theorem l19Cut_any {S : Nat → Prop} {v : Value} {g : List (List Int)} {u z : Nat} {w : World} (hg : GOk g) (hv : SlR S w v g) (hu : u < g.length) (hz : z < g.length) (hne : u ≠ z) :
    Calls Tryd.prog 96 #[.agg #[v], .int .i64 (u : Int), .int .i64 (z : Int)] w fun e w' => ∃ x, e = .returned (.agg #[x]) ∧ SlR (fun b => b < w'.heap.size) w' x (cutG g u z) ∧ Below w.heap.size w w' := by
  have h16 := hg.hi
  obtain ⟨a, b, off, cap, f, rfl, hl, ha, hc0⟩ := hv
  have hq0 : Below w.heap.size w (((w.alloc (.cells #[.slice a g.length cap] 27)).alloc (.cells #[.slice none 0 0] 27)).alloc (.cells #[.slice none 0 0] 27)) := (((Below.refl _ _).alloc (Nat.le_refl _) _).alloc (by simp) _).alloc (by simp; omega) _
  have hr0 : Own (((w.alloc (.cells #[.slice a g.length cap] 27)).alloc (.cells #[.slice none 0 0] 27)).alloc (.cells #[.slice none 0 0] 27)) (w.heap.size + 1) 27 1 (.slice (some ⟨w.heap.size + 1, 0, none⟩) 1 1) 1 [.slice none 0 0] := by
    have h := (own_new (w.alloc (.cells #[.slice a g.length cap] 27)) (w.heap.size + 1) 27 (.slice none 0 0) (by simp)).alloc (.cells #[.slice none 0 0] 27)
    rw [show (w.alloc (.cells #[.slice a g.length cap] 27)).heap.size = w.heap.size + 1 by simp] at h
    exact h
  have ho0 : Own (((w.alloc (.cells #[.slice a g.length cap] 27)).alloc (.cells #[.slice none 0 0] 27)).alloc (.cells #[.slice none 0 0] 27)) (w.heap.size + 1) 27 1 (.slice (some ⟨w.heap.size + 2, 0, none⟩) 1 1) 1 [.slice none 0 0] := by
    have h := own_new ((w.alloc (.cells #[.slice a g.length cap] 27)).alloc (.cells #[.slice none 0 0] 27)) (w.heap.size + 1) 27 (.slice none 0 0) (by simp)
    rw [show ((w.alloc (.cells #[.slice a g.length cap] 27)).alloc (.cells #[.slice none 0 0] 27)).heap.size = w.heap.size + 2 by simp] at h
    exact h
  have hS0 : OwnS (((w.alloc (.cells #[.slice a g.length cap] 27)).alloc (.cells #[.slice none 0 0] 27)).alloc (.cells #[.slice none 0 0] 27)) (w.heap.size + 3) 34 (.slice none 0 0) [] := .nil _ _ _ (Own.nil _ _ _ _)
  have hGL := Lib.hid (cutG_len g u z)
  have hal := netsL_lt hg
  have HROW := Lib.hid (fun x (hx : x < g.length) => row_bits hg hx)
  have HM32 := Lib.hid (fun x => nat_getD hal x)
  have HCR := Lib.hid (fun x (hx : x < g.length) => show (cutG g u z).take (x + 1) = (cutG g u z).take x ++ [bitsI (if x = u then andN ((netsL g).getD u 0) (bit z) else if x = z then andN ((netsL g).getD z 0) (bit u) else (netsL g).getD x 0)] by
    have h : x < (cutG g u z).length := by rw [hGL.out]; exact hx
    rw [List.take_succ_eq_append_getElem h, cutG_row, cutN_get hal (by rw [netsL_len]; exact hu) (by rw [netsL_len]; exact hz) (by rw [netsL_len]; exact h16) hne])
  generalize cutG g u z = G at *
  generalize netsL g = A at *
  clear hal
  go_enter Tryd.func96, Tryd.ntmps96
  go_wp2
  go_loopw [8] (fun i wr => ∃ (k : Nat) (o : Value), k ≤ g.length ∧ i = .int .i64 k ∧ OwnS wr (w.heap.size + 3) 34 o (G.take k) ∧ Own wr (w.heap.size + 1) 27 1 (.slice (some ⟨w.heap.size + 1, 0, none⟩) 1 1) 1 [.slice none 0 0] ∧ Own wr (w.heap.size + 1) 27 1 (.slice (some ⟨w.heap.size + 2, 0, none⟩) 1 1) 1 [o] ∧ Below w.heap.size w wr ∧ wr.cell? ⟨w.heap.size, 0, none⟩ = some (.slice a g.length cap)) (fun i _ => g.length - (intOf i).toNat)
  case atStart => exact ⟨0, _, Nat.zero_le _, rfl, by rw [List.take_zero]; exact hS0, hr0, ho0, hq0, by simp [go_sem]⟩
  case round =>
    clear hS0 hr0 ho0 hq0
    obtain ⟨k, o, hk, rfl, hS, hr, ho, hq, cg⟩ := hrel
    obtain ⟨wi, rfl⟩ : ∃ wx : World, wx = wr := ⟨_, rfl⟩
    have hlen : (G.take k).length = k := by rw [List.length_take, hGL.out]; omega
    obtain ⟨o1, o2, -, o3⟩ := own_cell ho
    obtain ⟨r1, r2, -, r3⟩ := own_cell hr
    obtain ⟨oa, oc, rfl⟩ := hS.isSlice
    rw [hlen] at hS ho o1
    have HLN := Lib.hid hlen
    clear hlen
    by_cases hlt : k < g.length
    case neg =>
      obtain rfl : k = g.length := by omega
      have hSR : SlR (fun b => b < wi.heap.size) wi (.slice oa g.length oc) (G.take g.length) := hS.rows (by rw [HLN.out]; omega)
      rw [List.take_of_length_le (by rw [hGL.out]; exact Nat.le_refl _)] at hSR
      have hSo : OwnS wi (w.heap.size + 3) 34 (.slice oa g.length oc) (G.take g.length) := hS
      go_wp2
      refine bodyPost_ret (v := .agg #[.slice oa g.length oc]) (by simp [results, Tryd.results96, go_sem, r1]) rfl ⟨_, rfl, ?_, hq.setCell (by simp) _⟩
      have h5 := OwnS.keepB (w' := wi.setCell ⟨w.heap.size + 1, 0, none⟩ (.slice oa g.length oc)) hSo (fun b hb _ => Below.heap_setCell _ _ _ _ (by simp; omega)) (by simp)
      have h6 := h5.rows (by rw [HLN.out]; omega)
      rw [List.take_of_length_le (by rw [hGL.out]; exact Nat.le_refl _)] at h6
      exact h6
    obtain ⟨hcr0, hrow0⟩ := hc0 k hlt
    obtain ⟨rfl, -⟩ := ha (by omega)
    have hcr := (hq.cell (p := ⟨b, off + k, none⟩) (cell_lt hcr0)).trans hcr0
    have hrow := hrow0.below hq (Nat.le_refl _)
    rw [HROW.out k hlt] at hrow
    obtain ⟨ra, rc, hre⟩ := hrow.slice
    rw [hre] at hcr hrow
    have hst := HCR.out k hlt
    have hm32 := HM32.out k
    have hBi : w.heap.size + 3 ≤ wi.heap.size := by omega
    clear hcr0 hrow0 hre HROW HCR HM32
    by_cases e1 : k = u
    case pos =>
      subst e1
      rw [if_pos rfl] at hst
      have HST := Lib.hid hst
      have hx1 : ((k : Int) == (k : Int)) = true := by simp
      have hx2 : ((k : Int) == (z : Int)) = false := by rw [beq_eq_false_iff_ne]; omega
      have hx3 : (k == z) = false := by rw [beq_eq_false_iff_ne]; exact hne
      generalize A.getD k 0 = m at *
      have HNE := Lib.hid hne
      clear hst hne
      go_wp2_with fail
      refine (l19Less_any (v := z) hrow hm32 (by omega)).mono ?_
      rintro e w2 ⟨xv, rfl, hxv, hb2⟩
      have hX := hxv.ints.weak (S' := fun _ => True) (fun _ _ => trivial)
      have hq2 := hq.trans (hb2.mono hq.size)
      have hS2 := hS.below hb2 (Nat.le_refl _)
      have ho2 := ho.below hb2 (Nat.le_refl _)
      have hr2 := hr.below hb2 (Nat.le_refl _)
      have cg2 := (hb2.cell (cell_lt cg)).trans cg
      have hz2 : w.heap.size + 3 ≤ w2.heap.size := Nat.le_trans hBi hb2.size
      obtain ⟨o1b, o2b, -, -⟩ := own_cell ho2
      generalize andN m (bit z) = M at *
      obtain ⟨xva, xvc, rfl⟩ := hX.slice
      clear o1 o2 o3 r1 r2 r3 hrow hm32 hcr
      go_wp2
      refine wp_region_late (S := (fun w' => w'.cell? ⟨w.heap.size + 2, 0, none⟩ = some (.slice oa k oc))) (late := [7]) (by kernel_rfl) ?_ (fun hHeld => ?_)
      · first | assumption | (simp [*, go_sem])
      have hdw : Drawn w2 w2.drew := (Drawn.refl _).drew
      generalize w2.drew = wd at hdw hHeld ⊢
      refine wpLate_take (i := 0) (v := ?v1) (by simp only [List.getElem?_toArray, List.getElem?_cons_zero]; exact rfl) (by kernel_rfl) (by kernel_rfl) (by kernel_rfl) (by intro _ _ _ h; exact h) (Or.inl ⟨by rfl, ?y1⟩) ?_
      case y1 => (intro w _; go_simp; try (with_reducible rfl))
      try simp only [Act.put, List.setIfInBounds_toArray, List.set_cons_zero, List.set_cons_succ]
      refine wpLate_load (i := 1) (v := ?v2) (by simp only [List.getElem?_toArray, List.getElem?_cons_succ, List.getElem?_cons_zero]; exact rfl) (by kernel_rfl) (by kernel_rfl) (by kernel_rfl) (by kernel_rfl) (by intro _ _ _ h; exact h) (Or.inl ⟨by rfl, ?y2⟩) hHeld ?_
      case y2 => (intro w hSw; (try dsimp only at hSw); go_simp; try (with_reducible rfl))
      try simp only [Act.put, List.setIfInBounds_toArray, List.set_cons_zero, List.set_cons_succ]
      refine wpLate_take (i := 2) (v := ?v3) (by simp only [List.getElem?_toArray, List.getElem?_cons_succ, List.getElem?_cons_zero]; exact rfl) (by kernel_rfl) (by kernel_rfl) (by kernel_rfl) (by intro _ _ _ h; exact h) (Or.inl ⟨by rfl, ?y3⟩) ?_
      case y3 => (intro w _; go_simp; try (with_reducible rfl))
      try simp only [Act.put, List.setIfInBounds_toArray, List.set_cons_zero, List.set_cons_succ]
      refine wpLate_one (i := 3) (by kernel_rfl) (by simp only [List.getElem?_toArray, List.getElem?_cons_succ, List.getElem?_cons_zero]; exact rfl) (by kernel_rfl) (fun K hK => ?_)
      go_simp
      refine (l1Copy_any _ _ _ (hX.drawn hdw) (by have := bitsI_len M; omega)).mono ?_
      rintro e w3 ⟨xc, rfl, hxc, hb3⟩
      have hqd := hq2.trans (hdw.below _)
      have hq3 := hqd.trans (hb3.mono hqd.size)
      have hSd := hS2.drawn hdw
      have hS3 := hSd.below hb3 (Nat.le_refl _)
      have ho3 := (ho2.drawn hdw).below hb3 (Nat.le_refl _)
      have hr3 := (hr2.drawn hdw).below hb3 (Nat.le_refl _)
      have cg3 := (hb3.cell (cell_lt ((hdw.cell _).trans cg2))).trans ((hdw.cell _).trans cg2)
      obtain ⟨p1, p2, -, p3⟩ := own_cell ho3
      obtain ⟨xa, xcap, rfl⟩ := hxc.isSlice
      have hxi := (Own.ints (xs := bitsI M) hxc (by have := bitsI_len M; omega))
      have hsz3 : w.heap.size + 3 ≤ wd.heap.size := by rw [hdw.heap]; exact hz2
      try dsimp only
      refine hK.out _ _ ?h4 (fun hHeld => ?_)
      case h4 => first | assumption | (simp [*, go_sem])
      clear hK K
      try simp only [Act.put, List.setIfInBounds_toArray, List.set_cons_zero, List.set_cons_succ]
      refine wpLate_one (i := 4) (by kernel_rfl) (by simp only [List.getElem?_toArray, List.getElem?_cons_succ, List.getElem?_cons_zero]; exact rfl) (by kernel_rfl) (fun K hK => ?_)
      go_simp
      have hbb : Below w3.heap.size w3 (w3.alloc (.cells #[.slice xa (bitsI M).length xcap] 34)) := (Below.refl _ _).alloc (Nat.le_refl _) _
      have p1b := (hbb.cell (cell_lt p1)).trans p1
      try dsimp only
      refine hK.out _ _ ?h5 (fun hHeld => ?_)
      case h5 => first | assumption | (simp [*, go_sem])
      clear hK K
      try simp only [Act.put, List.setIfInBounds_toArray, List.set_cons_zero, List.set_cons_succ]
      refine wpLate_one (i := 5) (by kernel_rfl) (by simp only [List.getElem?_toArray, List.getElem?_cons_succ, List.getElem?_cons_zero]; exact rfl) (by kernel_rfl) (fun K hK => ?_)
      rw [if_pos (by rfl)]
      obtain ⟨vs, hvl, hown, hrows⟩ := hS3
      rw [HLN.out] at hvl hown
      refine opWp_append1S elRows _ _ rfl hown rfl rfl rfl rfl (by omega) (by have := hb3.size; omega) ?_
      intro o5 w5 hown5 hkept hmv
      have hS5 : OwnS w5 (w.heap.size + 3) 34 o5 (G.take k ++ [bitsI M]) := OwnS.app (news := [.slice xa (bitsI M).length xcap]) (by rw [HLN.out]; exact hvl) rfl hrows (fun i hi hi2 => by (obtain rfl : i = 0 := by simp at hi; omega); exact hxi.low3S.weak (fun b hb => ⟨by have := hxc.ge b hb.1; omega, hb.2, fun e => by have h1 := hxc.ge b hb.1; (obtain ⟨vs', _, h2, _⟩ := hSd); have := (h2.lt b e).2; omega⟩)) (by rw [HLN.out]; exact hown5) hkept hmv (by simp)
      have ho5 := ho3.otherT hown (by decide) hkept
      have hr5 := hr3.otherT hown (by decide) hkept
      have hq5 := hkept.below hq3 hq3.size (fun b hb => by have := (hown.lt b hb).1; omega)
      have cg5 := (World.cell?_of_block (a := ⟨w.heap.size, 0, none⟩) (hkept.2.2.2.2 w.heap.size (cell_lt cg3) (fun e => by have := (hown.lt w.heap.size e.symm).1; omega))).trans cg3
      obtain ⟨p1, p2, -, p3⟩ := own_cell ho5
      obtain ⟨oa5, oc5, rfl⟩ := hown5.isSlice
      try dsimp only
      refine hK.out _ _ ?h6 (fun hHeld => ?_)
      case h6 => first | assumption | (simp [*, go_sem])
      clear hK K
      try simp only [Act.put, List.setIfInBounds_toArray, List.set_cons_zero, List.set_cons_succ]
      refine wpLate_take (i := 6) (v := ?v7) (by simp only [List.getElem?_toArray, List.getElem?_cons_succ, List.getElem?_cons_zero]; exact rfl) (by kernel_rfl) (by kernel_rfl) (by kernel_rfl) (by intro _ _ _ h; exact h) (Or.inl ⟨by rfl, ?y7⟩) ?_
      case y7 => (intro w _; go_simp; try (with_reducible rfl))
      try simp only [Act.put, List.setIfInBounds_toArray, List.set_cons_zero, List.set_cons_succ]
      refine wpLate_late (i := 7) (by kernel_rfl) (by simp only [List.getElem?_toArray, List.getElem?_cons_succ, List.getElem?_cons_zero]; exact rfl) (by kernel_rfl) (fun K hK => ?_)
      go_simp
      skip
      try dsimp only
      refine hK.out _ _ ?_
      clear hK K
      try simp only [Act.put, List.setIfInBounds_toArray, List.set_cons_zero, List.set_cons_succ]
      refine wpLate_done (by kernel_rfl) ?_ _
      have ho6 := own_set ho5 (.slice oa5 (k + 1) oc5)
      have hr6 : Own (w5.setCell ⟨w.heap.size + 2, 0, none⟩ (.slice oa5 (k + 1) oc5)) (w.heap.size + 1) 27 1 (.slice (some ⟨w.heap.size + 1, 0, none⟩) 1 1) 1 [.slice none 0 0] := hr5.keep (fun b hb => Below.heap_setCell _ _ _ _ (by have : w.heap.size + 1 = b := (by simpa [Value.ownBlock] using hb); simp; omega))
      have hS6 : OwnS (w5.setCell ⟨w.heap.size + 2, 0, none⟩ (.slice oa5 (k + 1) oc5)) (w.heap.size + 3) 34 (.slice oa5 (k + 1) oc5) (G.take k ++ [bitsI M]) := hS5.keepB (fun b hb _ => Below.heap_setCell _ _ _ _ (by first | (simp; done) | (simp; omega))) (by simp)
      have hq6 : Below w.heap.size w (w5.setCell ⟨w.heap.size + 2, 0, none⟩ (.slice oa5 (k + 1) oc5)) := hq5.setCell (by first | (simp; done) | (simp; omega)) _
      have cg6 := (World.cell?_of_block (a := ⟨w.heap.size, 0, none⟩) (Below.heap_setCell w5 ⟨w.heap.size + 2, 0, none⟩ (.slice oa5 (k + 1) oc5) _ (by simp))).trans cg5
      generalize w5.setCell ⟨w.heap.size + 2, 0, none⟩ (.slice oa5 (k + 1) oc5) = w6 at *
      go_wp2
      go_roundw
      case rel => exact ⟨k + 1, _, by omega, by go_num, by rw [HST.out]; exact hS6, hr6, ho6, hq6, cg6⟩
      case measure => simp [intOf]; omega
    rw [if_neg e1] at hst
    have hx1 : ((k : Int) == (u : Int)) = false := by rw [beq_eq_false_iff_ne]; omega
    have hx2 : (k == u) = false := by rw [beq_eq_false_iff_ne]; exact e1
    by_cases e2 : k = z
    case pos =>
      subst e2
      rw [if_pos rfl] at hst
      have HST := Lib.hid hst
      have hx3 : ((k : Int) == (k : Int)) = true := by simp
      generalize A.getD k 0 = m at *
      have HNE := Lib.hid hne
      have HE1 := Lib.hid e1
      clear hst hne e1
      go_wp2_with fail
      refine (l19Less_any (v := u) hrow hm32 (by omega)).mono ?_
      rintro e w2 ⟨xv, rfl, hxv, hb2⟩
      have hX := hxv.ints.weak (S' := fun _ => True) (fun _ _ => trivial)
      have hq2 := hq.trans (hb2.mono hq.size)
      have hS2 := hS.below hb2 (Nat.le_refl _)
      have ho2 := ho.below hb2 (Nat.le_refl _)
      have hr2 := hr.below hb2 (Nat.le_refl _)
      have cg2 := (hb2.cell (cell_lt cg)).trans cg
      have hz2 : w.heap.size + 3 ≤ w2.heap.size := Nat.le_trans hBi hb2.size
      obtain ⟨o1b, o2b, -, -⟩ := own_cell ho2
      generalize andN m (bit u) = M at *
      obtain ⟨xva, xvc, rfl⟩ := hX.slice
      clear o1 o2 o3 r1 r2 r3 hrow hm32 hcr
      go_wp2
      refine wp_region_late (S := (fun w' => w'.cell? ⟨w.heap.size + 2, 0, none⟩ = some (.slice oa k oc))) (late := [7]) (by kernel_rfl) ?_ (fun hHeld => ?_)
      · first | assumption | (simp [*, go_sem])
      have hdw : Drawn w2 w2.drew := (Drawn.refl _).drew
      generalize w2.drew = wd at hdw hHeld ⊢
      refine wpLate_take (i := 0) (v := ?v9) (by simp only [List.getElem?_toArray, List.getElem?_cons_zero]; exact rfl) (by kernel_rfl) (by kernel_rfl) (by kernel_rfl) (by intro _ _ _ h; exact h) (Or.inl ⟨by rfl, ?y9⟩) ?_
      case y9 => (intro w _; go_simp; try (with_reducible rfl))
      try simp only [Act.put, List.setIfInBounds_toArray, List.set_cons_zero, List.set_cons_succ]
      refine wpLate_load (i := 1) (v := ?v10) (by simp only [List.getElem?_toArray, List.getElem?_cons_succ, List.getElem?_cons_zero]; exact rfl) (by kernel_rfl) (by kernel_rfl) (by kernel_rfl) (by kernel_rfl) (by intro _ _ _ h; exact h) (Or.inl ⟨by rfl, ?y10⟩) hHeld ?_
      case y10 => (intro w hSw; (try dsimp only at hSw); go_simp; try (with_reducible rfl))
      try simp only [Act.put, List.setIfInBounds_toArray, List.set_cons_zero, List.set_cons_succ]
      refine wpLate_take (i := 2) (v := ?v11) (by simp only [List.getElem?_toArray, List.getElem?_cons_succ, List.getElem?_cons_zero]; exact rfl) (by kernel_rfl) (by kernel_rfl) (by kernel_rfl) (by intro _ _ _ h; exact h) (Or.inl ⟨by rfl, ?y11⟩) ?_
      case y11 => (intro w _; go_simp; try (with_reducible rfl))
      try simp only [Act.put, List.setIfInBounds_toArray, List.set_cons_zero, List.set_cons_succ]
      refine wpLate_one (i := 3) (by kernel_rfl) (by simp only [List.getElem?_toArray, List.getElem?_cons_succ, List.getElem?_cons_zero]; exact rfl) (by kernel_rfl) (fun K hK => ?_)
      go_simp
      refine (l1Copy_any _ _ _ (hX.drawn hdw) (by have := bitsI_len M; omega)).mono ?_
      rintro e w3 ⟨xc, rfl, hxc, hb3⟩
      have hqd := hq2.trans (hdw.below _)
      have hq3 := hqd.trans (hb3.mono hqd.size)
      have hSd := hS2.drawn hdw
      have hS3 := hSd.below hb3 (Nat.le_refl _)
      have ho3 := (ho2.drawn hdw).below hb3 (Nat.le_refl _)
      have hr3 := (hr2.drawn hdw).below hb3 (Nat.le_refl _)
      have cg3 := (hb3.cell (cell_lt ((hdw.cell _).trans cg2))).trans ((hdw.cell _).trans cg2)
      obtain ⟨p1, p2, -, p3⟩ := own_cell ho3
      obtain ⟨xa, xcap, rfl⟩ := hxc.isSlice
      have hxi := (Own.ints (xs := bitsI M) hxc (by have := bitsI_len M; omega))
      have hsz3 : w.heap.size + 3 ≤ wd.heap.size := by rw [hdw.heap]; exact hz2
      try dsimp only
      refine hK.out _ _ ?h12 (fun hHeld => ?_)
      case h12 => first | assumption | (simp [*, go_sem])
      clear hK K
      try simp only [Act.put, List.setIfInBounds_toArray, List.set_cons_zero, List.set_cons_succ]
      refine wpLate_one (i := 4) (by kernel_rfl) (by simp only [List.getElem?_toArray, List.getElem?_cons_succ, List.getElem?_cons_zero]; exact rfl) (by kernel_rfl) (fun K hK => ?_)
      go_simp
      have hbb : Below w3.heap.size w3 (w3.alloc (.cells #[.slice xa (bitsI M).length xcap] 34)) := (Below.refl _ _).alloc (Nat.le_refl _) _
      have p1b := (hbb.cell (cell_lt p1)).trans p1
      try dsimp only
      refine hK.out _ _ ?h13 (fun hHeld => ?_)
      case h13 => first | assumption | (simp [*, go_sem])
      clear hK K
      try simp only [Act.put, List.setIfInBounds_toArray, List.set_cons_zero, List.set_cons_succ]
      refine wpLate_one (i := 5) (by kernel_rfl) (by simp only [List.getElem?_toArray, List.getElem?_cons_succ, List.getElem?_cons_zero]; exact rfl) (by kernel_rfl) (fun K hK => ?_)
      rw [if_pos (by rfl)]
      obtain ⟨vs, hvl, hown, hrows⟩ := hS3
      rw [HLN.out] at hvl hown
      refine opWp_append1S elRows _ _ rfl hown rfl rfl rfl rfl (by omega) (by have := hb3.size; omega) ?_
      intro o5 w5 hown5 hkept hmv
      have hS5 : OwnS w5 (w.heap.size + 3) 34 o5 (G.take k ++ [bitsI M]) := OwnS.app (news := [.slice xa (bitsI M).length xcap]) (by rw [HLN.out]; exact hvl) rfl hrows (fun i hi hi2 => by (obtain rfl : i = 0 := by simp at hi; omega); exact hxi.low3S.weak (fun b hb => ⟨by have := hxc.ge b hb.1; omega, hb.2, fun e => by have h1 := hxc.ge b hb.1; (obtain ⟨vs', _, h2, _⟩ := hSd); have := (h2.lt b e).2; omega⟩)) (by rw [HLN.out]; exact hown5) hkept hmv (by simp)
      have ho5 := ho3.otherT hown (by decide) hkept
      have hr5 := hr3.otherT hown (by decide) hkept
      have hq5 := hkept.below hq3 hq3.size (fun b hb => by have := (hown.lt b hb).1; omega)
      have cg5 := (World.cell?_of_block (a := ⟨w.heap.size, 0, none⟩) (hkept.2.2.2.2 w.heap.size (cell_lt cg3) (fun e => by have := (hown.lt w.heap.size e.symm).1; omega))).trans cg3
      obtain ⟨p1, p2, -, p3⟩ := own_cell ho5
      obtain ⟨oa5, oc5, rfl⟩ := hown5.isSlice
      try dsimp only
      refine hK.out _ _ ?h14 (fun hHeld => ?_)
      case h14 => first | assumption | (simp [*, go_sem])
      clear hK K
      try simp only [Act.put, List.setIfInBounds_toArray, List.set_cons_zero, List.set_cons_succ]
      refine wpLate_take (i := 6) (v := ?v15) (by simp only [List.getElem?_toArray, List.getElem?_cons_succ, List.getElem?_cons_zero]; exact rfl) (by kernel_rfl) (by kernel_rfl) (by kernel_rfl) (by intro _ _ _ h; exact h) (Or.inl ⟨by rfl, ?y15⟩) ?_
      case y15 => (intro w _; go_simp; try (with_reducible rfl))
      try simp only [Act.put, List.setIfInBounds_toArray, List.set_cons_zero, List.set_cons_succ]
      refine wpLate_late (i := 7) (by kernel_rfl) (by simp only [List.getElem?_toArray, List.getElem?_cons_succ, List.getElem?_cons_zero]; exact rfl) (by kernel_rfl) (fun K hK => ?_)
      go_simp
      skip
      try dsimp only
      refine hK.out _ _ ?_
      clear hK K
      try simp only [Act.put, List.setIfInBounds_toArray, List.set_cons_zero, List.set_cons_succ]
      refine wpLate_done (by kernel_rfl) ?_ _
      have ho6 := own_set ho5 (.slice oa5 (k + 1) oc5)
      have hr6 : Own (w5.setCell ⟨w.heap.size + 2, 0, none⟩ (.slice oa5 (k + 1) oc5)) (w.heap.size + 1) 27 1 (.slice (some ⟨w.heap.size + 1, 0, none⟩) 1 1) 1 [.slice none 0 0] := hr5.keep (fun b hb => Below.heap_setCell _ _ _ _ (by have : w.heap.size + 1 = b := (by simpa [Value.ownBlock] using hb); simp; omega))
      have hS6 : OwnS (w5.setCell ⟨w.heap.size + 2, 0, none⟩ (.slice oa5 (k + 1) oc5)) (w.heap.size + 3) 34 (.slice oa5 (k + 1) oc5) (G.take k ++ [bitsI M]) := hS5.keepB (fun b hb _ => Below.heap_setCell _ _ _ _ (by first | (simp; done) | (simp; omega))) (by simp)
      have hq6 : Below w.heap.size w (w5.setCell ⟨w.heap.size + 2, 0, none⟩ (.slice oa5 (k + 1) oc5)) := hq5.setCell (by first | (simp; done) | (simp; omega)) _
      have cg6 := (World.cell?_of_block (a := ⟨w.heap.size, 0, none⟩) (Below.heap_setCell w5 ⟨w.heap.size + 2, 0, none⟩ (.slice oa5 (k + 1) oc5) _ (by simp))).trans cg5
      generalize w5.setCell ⟨w.heap.size + 2, 0, none⟩ (.slice oa5 (k + 1) oc5) = w6 at *
      go_wp2
      go_roundw
      case rel => exact ⟨k + 1, _, by omega, by go_num, by rw [HST.out]; exact hS6, hr6, ho6, hq6, cg6⟩
      case measure => simp [intOf]; omega
    rw [if_neg e2] at hst
    have HST := Lib.hid hst
    have hx3 : ((k : Int) == (z : Int)) = false := by rw [beq_eq_false_iff_ne]; omega
    have hx4 : (k == z) = false := by rw [beq_eq_false_iff_ne]; exact e2
    have hX := hrow.weak (S' := fun _ => True) (fun _ _ => trivial)
    generalize A.getD k 0 = M at *
    have HNE := Lib.hid hne
    have HE1 := Lib.hid e1
    have HE2 := Lib.hid e2
    clear hst hne e1 e2
    go_wp2
    refine wp_region_late (S := (fun w' => w'.cell? ⟨w.heap.size + 2, 0, none⟩ = some (.slice oa k oc))) (late := [7]) (by kernel_rfl) ?_ (fun hHeld => ?_)
    · first | assumption | (simp [*, go_sem])
    have hdw : Drawn wi wi.drew := (Drawn.refl _).drew
    generalize wi.drew = wd at hdw hHeld ⊢
    refine wpLate_take (i := 0) (v := ?v17) (by simp only [List.getElem?_toArray, List.getElem?_cons_zero]; exact rfl) (by kernel_rfl) (by kernel_rfl) (by kernel_rfl) (by intro _ _ _ h; exact h) (Or.inl ⟨by rfl, ?y17⟩) ?_
    case y17 => (intro w _; go_simp; try (with_reducible rfl))
    try simp only [Act.put, List.setIfInBounds_toArray, List.set_cons_zero, List.set_cons_succ]
    refine wpLate_load (i := 1) (v := ?v18) (by simp only [List.getElem?_toArray, List.getElem?_cons_succ, List.getElem?_cons_zero]; exact rfl) (by kernel_rfl) (by kernel_rfl) (by kernel_rfl) (by kernel_rfl) (by intro _ _ _ h; exact h) (Or.inl ⟨by rfl, ?y18⟩) hHeld ?_
    case y18 => (intro w hSw; (try dsimp only at hSw); go_simp; try (with_reducible rfl))
    try simp only [Act.put, List.setIfInBounds_toArray, List.set_cons_zero, List.set_cons_succ]
    refine wpLate_take (i := 2) (v := ?v19) (by simp only [List.getElem?_toArray, List.getElem?_cons_succ, List.getElem?_cons_zero]; exact rfl) (by kernel_rfl) (by kernel_rfl) (by kernel_rfl) (by intro _ _ _ h; exact h) (Or.inl ⟨by rfl, ?y19⟩) ?_
    case y19 => (intro w _; go_simp; try (with_reducible rfl))
    try simp only [Act.put, List.setIfInBounds_toArray, List.set_cons_zero, List.set_cons_succ]
    refine wpLate_one (i := 3) (by kernel_rfl) (by simp only [List.getElem?_toArray, List.getElem?_cons_succ, List.getElem?_cons_zero]; exact rfl) (by kernel_rfl) (fun K hK => ?_)
    go_simp
    refine (l1Copy_any _ _ _ (hX.drawn hdw) (by have := bitsI_len M; omega)).mono ?_
    rintro e w3 ⟨xc, rfl, hxc, hb3⟩
    have hqd := hq.trans (hdw.below _)
    have hq3 := hqd.trans (hb3.mono hqd.size)
    have hSd := hS.drawn hdw
    have hS3 := hSd.below hb3 (Nat.le_refl _)
    have ho3 := (ho.drawn hdw).below hb3 (Nat.le_refl _)
    have hr3 := (hr.drawn hdw).below hb3 (Nat.le_refl _)
    have cg3 := (hb3.cell (cell_lt ((hdw.cell _).trans cg))).trans ((hdw.cell _).trans cg)
    obtain ⟨p1, p2, -, p3⟩ := own_cell ho3
    obtain ⟨xa, xcap, rfl⟩ := hxc.isSlice
    have hxi := (Own.ints (xs := bitsI M) hxc (by have := bitsI_len M; omega))
    have hsz3 : w.heap.size + 3 ≤ wd.heap.size := by rw [hdw.heap]; exact hBi
    try dsimp only
    refine hK.out _ _ ?h20 (fun hHeld => ?_)
    case h20 => first | assumption | (simp [*, go_sem])
    clear hK K
    try simp only [Act.put, List.setIfInBounds_toArray, List.set_cons_zero, List.set_cons_succ]
    refine wpLate_one (i := 4) (by kernel_rfl) (by simp only [List.getElem?_toArray, List.getElem?_cons_succ, List.getElem?_cons_zero]; exact rfl) (by kernel_rfl) (fun K hK => ?_)
    go_simp
    have hbb : Below w3.heap.size w3 (w3.alloc (.cells #[.slice xa (bitsI M).length xcap] 34)) := (Below.refl _ _).alloc (Nat.le_refl _) _
    have p1b := (hbb.cell (cell_lt p1)).trans p1
    try dsimp only
    refine hK.out _ _ ?h21 (fun hHeld => ?_)
    case h21 => first | assumption | (simp [*, go_sem])
    clear hK K
    try simp only [Act.put, List.setIfInBounds_toArray, List.set_cons_zero, List.set_cons_succ]
    refine wpLate_one (i := 5) (by kernel_rfl) (by simp only [List.getElem?_toArray, List.getElem?_cons_succ, List.getElem?_cons_zero]; exact rfl) (by kernel_rfl) (fun K hK => ?_)
    rw [if_pos (by rfl)]
    obtain ⟨vs, hvl, hown, hrows⟩ := hS3
    rw [HLN.out] at hvl hown
    refine opWp_append1S elRows _ _ rfl hown rfl rfl rfl rfl (by omega) (by have := hb3.size; omega) ?_
    intro o5 w5 hown5 hkept hmv
    have hS5 : OwnS w5 (w.heap.size + 3) 34 o5 (G.take k ++ [bitsI M]) := OwnS.app (news := [.slice xa (bitsI M).length xcap]) (by rw [HLN.out]; exact hvl) rfl hrows (fun i hi hi2 => by (obtain rfl : i = 0 := by simp at hi; omega); exact hxi.low3S.weak (fun b hb => ⟨by have := hxc.ge b hb.1; omega, hb.2, fun e => by have h1 := hxc.ge b hb.1; (obtain ⟨vs', _, h2, _⟩ := hSd); have := (h2.lt b e).2; omega⟩)) (by rw [HLN.out]; exact hown5) hkept hmv (by simp)
    have ho5 := ho3.otherT hown (by decide) hkept
    have hr5 := hr3.otherT hown (by decide) hkept
    have hq5 := hkept.below hq3 hq3.size (fun b hb => by have := (hown.lt b hb).1; omega)
    have cg5 := (World.cell?_of_block (a := ⟨w.heap.size, 0, none⟩) (hkept.2.2.2.2 w.heap.size (cell_lt cg3) (fun e => by have := (hown.lt w.heap.size e.symm).1; omega))).trans cg3
    obtain ⟨p1, p2, -, p3⟩ := own_cell ho5
    obtain ⟨oa5, oc5, rfl⟩ := hown5.isSlice
    try dsimp only
    refine hK.out _ _ ?h22 (fun hHeld => ?_)
    case h22 => first | assumption | (simp [*, go_sem])
    clear hK K
    try simp only [Act.put, List.setIfInBounds_toArray, List.set_cons_zero, List.set_cons_succ]
    refine wpLate_take (i := 6) (v := ?v23) (by simp only [List.getElem?_toArray, List.getElem?_cons_succ, List.getElem?_cons_zero]; exact rfl) (by kernel_rfl) (by kernel_rfl) (by kernel_rfl) (by intro _ _ _ h; exact h) (Or.inl ⟨by rfl, ?y23⟩) ?_
    case y23 => (intro w _; go_simp; try (with_reducible rfl))
    try simp only [Act.put, List.setIfInBounds_toArray, List.set_cons_zero, List.set_cons_succ]
    refine wpLate_late (i := 7) (by kernel_rfl) (by simp only [List.getElem?_toArray, List.getElem?_cons_succ, List.getElem?_cons_zero]; exact rfl) (by kernel_rfl) (fun K hK => ?_)
    go_simp
    skip
    try dsimp only
    refine hK.out _ _ ?_
    clear hK K
    try simp only [Act.put, List.setIfInBounds_toArray, List.set_cons_zero, List.set_cons_succ]
    refine wpLate_done (by kernel_rfl) ?_ _
    have ho6 := own_set ho5 (.slice oa5 (k + 1) oc5)
    have hr6 : Own (w5.setCell ⟨w.heap.size + 2, 0, none⟩ (.slice oa5 (k + 1) oc5)) (w.heap.size + 1) 27 1 (.slice (some ⟨w.heap.size + 1, 0, none⟩) 1 1) 1 [.slice none 0 0] := hr5.keep (fun b hb => Below.heap_setCell _ _ _ _ (by have : w.heap.size + 1 = b := (by simpa [Value.ownBlock] using hb); simp; omega))
    have hS6 : OwnS (w5.setCell ⟨w.heap.size + 2, 0, none⟩ (.slice oa5 (k + 1) oc5)) (w.heap.size + 3) 34 (.slice oa5 (k + 1) oc5) (G.take k ++ [bitsI M]) := hS5.keepB (fun b hb _ => Below.heap_setCell _ _ _ _ (by first | (simp; done) | (simp; omega))) (by simp)
    have hq6 : Below w.heap.size w (w5.setCell ⟨w.heap.size + 2, 0, none⟩ (.slice oa5 (k + 1) oc5)) := hq5.setCell (by first | (simp; done) | (simp; omega)) _
    have cg6 := (World.cell?_of_block (a := ⟨w.heap.size, 0, none⟩) (Below.heap_setCell w5 ⟨w.heap.size + 2, 0, none⟩ (.slice oa5 (k + 1) oc5) _ (by simp))).trans cg5
    generalize w5.setCell ⟨w.heap.size + 2, 0, none⟩ (.slice oa5 (k + 1) oc5) = w6 at *
    go_wp2
    go_roundw
    case rel => exact ⟨k + 1, _, by omega, by go_num, by rw [HST.out]; exact hS6, hr6, ho6, hq6, cg6⟩
    case measure => simp [intOf]; omega
end Go.Proofs.YtklnjpdpinccoaaDoor
