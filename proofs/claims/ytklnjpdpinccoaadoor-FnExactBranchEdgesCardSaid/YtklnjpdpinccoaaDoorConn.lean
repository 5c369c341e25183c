/- Is a set connected? By the reference. -/
import Derived.Test.YtklnjpdpinccoaaDoorFar
import Derived.Test.YtklnjpdpinccoaaDoorReach
namespace Go.Proofs.YtklnjpdpinccoaaDoor
open Go.RowKit
/-- The vertices with a distance. -/
def hasD (D : Nat → Int) (n : Nat) : List Nat := (List.range n).filter fun u => decide (0 ≤ D u)
theorem hasD_succ (D : Nat → Int) (k : Nat) : hasD D (k + 1) = if 0 ≤ D k then hasD D k ++ [k] else hasD D k := by
  unfold hasD
  rw [List.range_succ, List.filter_append]
  by_cases h : 0 ≤ D k <;> simp [h]
theorem hasD_len (D : Nat → Int) (n : Nat) : (hasD D n).length ≤ n := by
  have := List.length_filter_le (fun u => decide (0 ≤ D u)) (List.range n)
  simpa [hasD] using this
theorem dist_has {a : List Nat} {wi v n : Nat} {D : Nat → Int} (h : IsDist a wi v n D) {u : Nat} (hu : u < n) : 0 ≤ D u ↔ ∃ k, (ballN a wi v k).testBit u = true := by
  rcases h u hu with ⟨h1, h2⟩ | ⟨k, h1, h2, h3⟩
  · rw [h1]
    constructor
    · intro h; omega
    · rintro ⟨k, hk⟩; rw [h2 k] at hk; cases hk
  · rw [h1]
    exact ⟨fun _ => ⟨k, h2⟩, fun _ => by omega⟩
theorem reach_ball {a : List Nat} {wi v n : Nat} {D : Nat → Int} (hI : DistI a wi v n) (hD : IsDist a wi v n D) (hv : wi.testBit v = true) (u : Nat) : (reachN a wi v).testBit u = true ↔ u < n ∧ 0 ≤ D u := by
  have hw : wi < 4294967296 := Nat.lt_trans hI.wi (pow16_lt hI.wide.le)
  have hv32 : v < 32 := by have := hI.v; have := hI.wide.le; omega
  have hM : ∀ i, (maskL (natsI (hasD D n))).testBit i = true ↔ i < n ∧ 0 ≤ D i := fun i => by
    rw [testBit_maskL (fun x hx => by simp only [natsI, List.mem_map] at hx; obtain ⟨y, _, rfl⟩ := hx; omega), decide_eq_true_eq]
    simp only [natsI, List.mem_map, hasD, List.mem_filter, List.mem_range, decide_eq_true_eq]
    constructor
    · rintro ⟨y, h1, h2⟩
      have : y = i := by omega
      subst this; exact h1
    · intro h; exact ⟨i, h, rfl⟩
  constructor
  · intro h
    refine (hM u).1 (reach_least hw hv32 (fun x hx y hy hb => ?_) ?_ h)
    · obtain ⟨hxn, hx0⟩ := (hM x).1 hx
      obtain ⟨k, hk⟩ := (dist_has hD hxn).1 hx0
      have hb2 := (ball_succ hI k y).2 (.inr ⟨hy, x, hk, hb⟩)
      have hyn := bit_lt_of (ball_lt hI (k + 1)) hb2
      exact (hM y).2 ⟨hyn, (dist_has hD hyn).2 ⟨_, hb2⟩⟩
    · exact (hM v).2 ⟨hI.v, (dist_has hD hI.v).2 ⟨0, by unfold ballN; rw [testBit_bit]; simp⟩⟩
  · rintro ⟨hu, h0⟩
    obtain ⟨k, hk⟩ := (dist_has hD hu).1 h0
    have hall : ∀ k u, (ballN a wi v k).testBit u = true → (reachN a wi v).testBit u = true := by
      intro k
      induction k with
      | zero =>
        intro u hu
        unfold ballN at hu
        rw [testBit_bit] at hu
        have : v = u := by simpa using hu
        subst this
        exact reach_start hw hv32
      | succ k ih =>
        intro u hu
        rcases (ball_succ hI k u).1 hu with h1 | ⟨hwu, x, hx, hb⟩
        · exact ih u h1
        · exact reach_closed hw hv32 x (ih x hx) u hwu hb
    exact hall k u hk
theorem hasD_bits {a : List Nat} {wi v n : Nat} {D : Nat → Int} (hI : DistI a wi v n) (hD : IsDist a wi v n D) (hv : wi.testBit v = true) : (hasD D n).length = popN (reachN a wi v) := by
  have e : natsI (hasD D n) = bitsI (reachN a wi v) := by
    refine sorted_ext ?_ (bitsI_sorted _) fun x => ?_
    · unfold natsI hasD
      rw [List.pairwise_map]
      exact (List.Pairwise.filter _ List.pairwise_lt_range).imp fun h => by omega
    · rw [mem_bitsI (reachN_lt _ _ _)]
      simp only [natsI, List.mem_map, hasD, List.mem_filter, List.mem_range, decide_eq_true_eq]
      constructor
      · rintro ⟨y, ⟨h1, h2⟩, rfl⟩
        exact ⟨by omega, by simpa using (reach_ball hI hD hv y).2 ⟨h1, h2⟩⟩
      · rintro ⟨h0, h1⟩
        obtain ⟨h2, h3⟩ := (reach_ball hI hD hv x.toNat).1 h1
        exact ⟨x.toNat, ⟨h2, h3⟩, by omega⟩
  have e2 := congrArg List.length e
  rw [bitsI_lenN] at e2
  rw [← natsI_len (hasD D n), e2]
  rfl
noncomputable def connB (g : List (List Int)) (s : Nat) : Bool := decide (s ≠ 0) && decide ((partsN (netsL g) s).length = 1)
theorem conn_pop {a : List Nat} {s : Nat} (hs : s < 4294967296) (h0 : s ≠ 0) : popN (reachN a s (Lib.ctz 32 s)) = popN s ↔ (partsN a s).length = 1 := by
  rw [parts_one hs h0]
  constructor
  · intro h
    apply nat_ext
    intro i
    have hsub := fun i => reach_sub (a := a) (i := i) hs (ctz_bit h0 hs)
    cases e : (reachN a s (Lib.ctz 32 s)).testBit i
    · cases e2 : s.testBit i
      · rfl
      · have := popN_lt hs hsub e2 e; omega
    · exact (hsub i e).symm
  · intro h; rw [h]
set_option maxRecDepth 100000 in
set_option maxHeartbeats 4000000 in
theorem l3Part_any {S S' : Nat → Prop} {v u : Value} {g : List (List Int)} {s f : Nat} {w : World} (hg : GOk g) (hv : SlR S w v g) (hu : SlI S' w .i64 u (bitsI s)) (hs : s < 2 ^ g.length) (hf : f < g.length) (hfs : s.testBit f = true) :
    Calls Tryd.prog 178 #[.agg #[v], .int .i64 (f : Int), u] w fun e w' => ∃ a c, e = .returned (.slice a (popN (reachN (netsL g) s f)) c) ∧ Below w.heap.size w w' := by
  have h16 := hg.hi
  have hI : DistI (netsL g) s f g.length := ⟨WideI.of hg, hs, hf⟩
  have HHD := Lib.hid (fun D (h : IsDist (netsL g) s f g.length D) => hasD_bits hI h hfs)
  have hq0 : Below w.heap.size w (w.alloc (.cells #[v] 27)) := (Below.refl _ _).alloc (Nat.le_refl _) _
  obtain ⟨va, vc, rfl⟩ := hv.slice
  have hfar := l3From_any hg (hv.below hq0 (Nat.le_refl _)) (hu.below hq0 (Nat.le_refl _)) hs hf hfs
  clear hI
  go_enter Tryd.func178, Tryd.ntmps178
  go_wp2_with fail
  refine hfar.mono ?_
  rintro e w1 ⟨ob, oc, D, rfl, hob, hr, hD, hb1⟩
  have hq1 := hq0.trans (hb1.mono hq0.size)
  have HLD := Lib.hid (HHD.out D hD)
  have ho0 : Own (w1.alloc (.cells #[] 2)) w1.heap.size 2 1 (.slice (some ⟨w1.heap.size, 0, none⟩) 0 0) 0 [] := World.ownsRow_lit (base := w1.heap.size) (e := 2) (size := 1) w1 #[] 0 (Nat.le_refl _) (by unfold maxLen; omega) rfl
  have hqa := hq1.alloc hq1.size (.cells #[] 2)
  have hra := hr.below ((Below.refl w1.heap.size w1).alloc (Nat.le_refl _) (.cells #[] 2)) (Nat.le_refl _)
  clear hfar HHD hD
  go_wp2
  go_loopw [8, 9] (fun o i wr => ∃ k : Nat, k ≤ g.length ∧ i = .int .i64 k ∧ Own wr w1.heap.size 2 1 o (hasD D k).length ((natsI (hasD D k)).map (.int .i64)) ∧ Row wr ob g.length (tabV D) ∧ Below w.heap.size w wr ∧ w1.heap.size ≤ wr.heap.size) (fun _ i _ => g.length - (intOf i).toNat)
  case atStart => exact ⟨0, Nat.zero_le _, rfl, ho0, hra, hqa, by simp⟩
  case round =>
    clear ho0 hqa hra
    obtain ⟨k, hk, rfl, ho, hr2, hq, hB2⟩ := hrel
    by_cases hlt : k < g.length
    case neg =>
      obtain rfl : k = g.length := by omega
      obtain ⟨oa, oc2, rfl⟩ := ho.isSlice
      rw [HLD.out]
      go_wp2
      go_ret
      exact ⟨_, _, rfl, hq⟩
    obtain ⟨ck, -⟩ := hr2 k hlt
    unfold tabV at ck
    have hsd := hasD_succ D k
    have hdl := hasD_len D k
    by_cases h0 : 0 ≤ D k
    · rw [if_pos h0] at hsd
      have HSD := Lib.hid hsd; clear hsd
      generalize hasD D k = L at *
      go_wp2_with (at_builtin; refine wpList_append1b elI64 rfl _ _ rfl ho rfl (by first | rfl | simp) rfl rfl (by omega) hB2 ?_; intro o5 w5 ho5 hkept hmv)
      have hob1 : ob < w1.heap.size := hr.lt (by omega)
      have hq5 := hkept.below hq hq.size (fun c h => by have h1 := (ho.lt c h).1; have := hq1.size; omega)
      have hr5 := hr2.keep (w' := w5) (hkept.2.2.2.2 ob (by omega) (fun e => by have := (ho.lt _ e.symm).1; omega))
      go_roundw
      case rel => exact ⟨k + 1, by omega, by go_num, by rw [HSD.out]; simpa [natsI] using ho5, hr5, hq5, Nat.le_trans hB2 hkept.2.2.2.1⟩
      case measure => simp [intOf]; omega
    · rw [if_neg h0] at hsd
      have HSD := Lib.hid hsd; clear hsd
      go_wp2
      go_roundw
      case rel => exact ⟨k + 1, by omega, by go_num, by rw [HSD.out]; exact ho, hr2, hq, hB2⟩
      case measure => simp [intOf]; omega
set_option maxHeartbeats 2000000 in
theorem l3Connected_any {S S' : Nat → Prop} {v u : Value} {g : List (List Int)} {s : Nat} {w : World} (hg : GOk g) (hv : SlR S w v g) (hu : SlI S' w .i64 u (bitsI s)) (hs : s < 2 ^ g.length) :
    Calls Tryd.prog 150 #[.agg #[v], u] w fun e w' => e = .returned (.bool (connB g s)) ∧ Below w.heap.size w w' := by
  have h16 := hg.hi
  have hs32 : s < 4294967296 := Nat.lt_trans hs (pow16_lt h16)
  have hq0 : Below w.heap.size w (w.alloc (.cells #[v] 27)) := (Below.refl _ _).alloc (Nat.le_refl _) _
  obtain ⟨va, vc, rfl⟩ := hv.slice
  have hu1 := hu
  obtain ⟨ua, ub, uo, uc, rfl, hul, hua, huc⟩ := hu
  have hbl : (bitsI s).length = popN s := bitsI_lenN s
  by_cases h0 : s = 0
  case pos =>
    subst h0
    have HE := Lib.hid (show connB g 0 = false by simp [connB])
    have hz : (bitsI 0).length = 0 := by rw [hbl]; simp [popN, bitsN_zero]
    rw [hz]
    clear hu1 hul hua huc hbl
    go_enter Tryd.func150, Tryd.ntmps150
    go_wp2
    refine wp_region_held_drew (S := (fun w' => w'.cell? ⟨w.heap.size, 0, none⟩ = some (.slice va g.length vc))) (by kernel_rfl) ?_ (fun hHeld => ?_)
    · first | assumption | (simp [*, go_sem])
    have hqd := hq0.drew
    generalize (w.alloc (.cells #[.slice va g.length vc] 27)).drew = wd at hqd hHeld ⊢
    refine wpAnyH_take (i := 0) (v := ?v1) (by simp only [List.getElem?_toArray, List.getElem?_cons_zero]; exact rfl) (by kernel_rfl) (by kernel_rfl) (by kernel_rfl) (by intro _ _ _ h; exact h) (Or.inl ⟨by rfl, ?y1⟩) hHeld ?_
    case y1 => (intro w hSw; (try dsimp only at hSw); go_simp; try (with_reducible rfl))
    try simp only [Act.put, List.setIfInBounds_toArray, List.set_cons_zero, List.set_cons_succ]
    refine wpAnyH_take (i := 1) (v := ?v2) (by simp only [List.getElem?_toArray, List.getElem?_cons_succ, List.getElem?_cons_zero]; exact rfl) (by kernel_rfl) (by kernel_rfl) (by kernel_rfl) (by intro _ _ _ h; exact h) (Or.inl ⟨by rfl, ?y2⟩) hHeld ?_
    case y2 => (intro w hSw; (try dsimp only at hSw); go_simp; try (with_reducible rfl))
    try simp only [Act.put, List.setIfInBounds_toArray, List.set_cons_zero, List.set_cons_succ]
    refine wpAnyH_take (i := 2) (v := ?v3) (by simp only [List.getElem?_toArray, List.getElem?_cons_succ, List.getElem?_cons_zero]; exact rfl) (by kernel_rfl) (by kernel_rfl) (by kernel_rfl) (by intro _ _ _ h; exact h) (Or.inl ⟨by rfl, ?y3⟩) hHeld ?_
    case y3 => (intro w hSw; (try dsimp only at hSw); go_simp; try (with_reducible rfl))
    try simp only [Act.put, List.setIfInBounds_toArray, List.set_cons_zero, List.set_cons_succ]
    refine wpAnyH_take (i := 3) (v := ?v4) (by simp only [List.getElem?_toArray, List.getElem?_cons_succ, List.getElem?_cons_zero]; exact rfl) (by kernel_rfl) (by kernel_rfl) (by kernel_rfl) (by intro _ _ _ h; exact h) (Or.inl ⟨by rfl, ?y4⟩) hHeld ?_
    case y4 => (intro w hSw; (try dsimp only at hSw); go_simp; try (with_reducible rfl))
    try simp only [Act.put, List.setIfInBounds_toArray, List.set_cons_zero, List.set_cons_succ]
    refine wpAnyH_take (i := 4) (by simp only [List.getElem?_toArray, List.getElem?_cons_succ, List.getElem?_cons_zero]; exact rfl) (by kernel_rfl) (by kernel_rfl) (by kernel_rfl) (by intro _ _ _ h; exact h) (Or.inr ⟨by rfl, rfl⟩) hHeld ?_
    try simp only [Act.put, List.setIfInBounds_toArray, List.set_cons_zero, List.set_cons_succ]
    refine wpAnyH_take (i := 5) (by simp only [List.getElem?_toArray, List.getElem?_cons_succ, List.getElem?_cons_zero]; exact rfl) (by kernel_rfl) (by kernel_rfl) (by kernel_rfl) (by intro _ _ _ h; exact h) (Or.inr ⟨by rfl, rfl⟩) hHeld ?_
    try simp only [Act.put, List.setIfInBounds_toArray, List.set_cons_zero, List.set_cons_succ]
    refine wpAnyH_take (i := 6) (by simp only [List.getElem?_toArray, List.getElem?_cons_succ, List.getElem?_cons_zero]; exact rfl) (by kernel_rfl) (by kernel_rfl) (by kernel_rfl) (by intro _ _ _ h; exact h) (Or.inr ⟨by rfl, rfl⟩) hHeld ?_
    try simp only [Act.put, List.setIfInBounds_toArray, List.set_cons_zero, List.set_cons_succ]
    refine wpAnyH_take (i := 7) (by simp only [List.getElem?_toArray, List.getElem?_cons_succ, List.getElem?_cons_zero]; exact rfl) (by kernel_rfl) (by kernel_rfl) (by kernel_rfl) (by intro _ _ _ h; exact h) (Or.inr ⟨by rfl, rfl⟩) hHeld ?_
    try simp only [Act.put, List.setIfInBounds_toArray, List.set_cons_zero, List.set_cons_succ]
    refine wpAnyH_take (i := 8) (by simp only [List.getElem?_toArray, List.getElem?_cons_succ, List.getElem?_cons_zero]; exact rfl) (by kernel_rfl) (by kernel_rfl) (by kernel_rfl) (by intro _ _ _ h; exact h) (Or.inr ⟨by rfl, rfl⟩) hHeld ?_
    try simp only [Act.put, List.setIfInBounds_toArray, List.set_cons_zero, List.set_cons_succ]
    refine wpAnyH_take (i := 9) (by simp only [List.getElem?_toArray, List.getElem?_cons_succ, List.getElem?_cons_zero]; exact rfl) (by kernel_rfl) (by kernel_rfl) (by kernel_rfl) (by intro _ _ _ h; exact h) (Or.inr ⟨by rfl, rfl⟩) hHeld ?_
    try simp only [Act.put, List.setIfInBounds_toArray, List.set_cons_zero, List.set_cons_succ]
    refine wpAnyH_take (i := 10) (by simp only [List.getElem?_toArray, List.getElem?_cons_succ, List.getElem?_cons_zero]; exact rfl) (by kernel_rfl) (by kernel_rfl) (by kernel_rfl) (by intro _ _ _ h; exact h) (Or.inr ⟨by rfl, rfl⟩) hHeld ?_
    try simp only [Act.put, List.setIfInBounds_toArray, List.set_cons_zero, List.set_cons_succ]
    refine wpAnyH_take (i := 11) (by simp only [List.getElem?_toArray, List.getElem?_cons_succ, List.getElem?_cons_zero]; exact rfl) (by kernel_rfl) (by kernel_rfl) (by kernel_rfl) (by intro _ _ _ h; exact h) (Or.inr ⟨by rfl, rfl⟩) hHeld ?_
    try simp only [Act.put, List.setIfInBounds_toArray, List.set_cons_zero, List.set_cons_succ]
    refine wpAnyH_take (i := 12) (by simp only [List.getElem?_toArray, List.getElem?_cons_succ, List.getElem?_cons_zero]; exact rfl) (by kernel_rfl) (by kernel_rfl) (by kernel_rfl) (by intro _ _ _ h; exact h) (Or.inr ⟨by rfl, rfl⟩) hHeld ?_
    try simp only [Act.put, List.setIfInBounds_toArray, List.set_cons_zero, List.set_cons_succ]
    refine wpAnyH_take (i := 13) (by simp only [List.getElem?_toArray, List.getElem?_cons_succ, List.getElem?_cons_zero]; exact rfl) (by kernel_rfl) (by kernel_rfl) (by kernel_rfl) (by intro _ _ _ h; exact h) (Or.inr ⟨by rfl, rfl⟩) hHeld ?_
    try simp only [Act.put, List.setIfInBounds_toArray, List.set_cons_zero, List.set_cons_succ]
    refine wpAnyH_take (i := 14) (v := ?v15) (by simp only [List.getElem?_toArray, List.getElem?_cons_succ, List.getElem?_cons_zero]; exact rfl) (by kernel_rfl) (by kernel_rfl) (by kernel_rfl) (by intro _ _ _ h; exact h) (Or.inl ⟨by rfl, ?y15⟩) hHeld ?_
    case y15 => (intro w hSw; (try dsimp only at hSw); go_simp; try (with_reducible rfl))
    try simp only [Act.put, List.setIfInBounds_toArray, List.set_cons_zero, List.set_cons_succ]
    refine wpAnyH_take (i := 15) (v := ?v16) (by simp only [List.getElem?_toArray, List.getElem?_cons_succ, List.getElem?_cons_zero]; exact rfl) (by kernel_rfl) (by kernel_rfl) (by kernel_rfl) (by intro _ _ _ h; exact h) (Or.inl ⟨by rfl, ?y16⟩) hHeld ?_
    case y16 => (intro w hSw; (try dsimp only at hSw); go_simp; try (with_reducible rfl))
    try simp only [Act.put, List.setIfInBounds_toArray, List.set_cons_zero, List.set_cons_succ]
    refine wpAnyH_done (by kernel_rfl) ?_ _
    go_wp2
    go_ret
    exact ⟨by rw [HE.out]; rfl, hqd⟩
  have hc := ctz_bit h0 hs32
  have hcl := bit_lt_of hs hc
  have hp := conn_pop (a := netsL g) hs32 h0
  have hpos : 0 < (bitsI s).length := by
    rw [hbl]
    have h7 : popN s ≠ 0 := fun e => h0 ((popN_zero hs32).1 e)
    omega
  have hst : bitsI s = (Lib.ctz 32 s : Int) :: bitsI (s &&& (s - 1)) := bitsI_step h0 hs32
  have hx0 : (bitsI s)[0] = (Lib.ctz 32 s : Nat) := by simp [hst]
  have hcell := huc 0 hpos
  rw [hx0, Nat.add_zero] at hcell
  obtain ⟨rfl, -⟩ := hua hpos
  have hpt := fun (W : World) (hb : Below w.heap.size w W) => l3Part_any hg (hv.below hb (Nat.le_refl _)) (hu1.below hb (Nat.le_refl _)) hs hcl hc
  have hE : connB g s = decide (popN (reachN (netsL g) s (Lib.ctz 32 s)) = (bitsI s).length) := by
    rw [hbl, connB, decide_eq_true (show s ≠ 0 from h0), Bool.true_and, decide_eq_decide]
    exact hp.symm
  have HE := Lib.hid hE
  have hb1 : decide ((0 : Int) < ((bitsI s).length : Int)) = true := decide_eq_true (by omega)
  have hb2 : decide (0 < (bitsI s).length) = true := decide_eq_true hpos
  have hcell0 := (hq0.cell (p := ⟨ub, uo, none⟩) (cell_lt hcell)).trans hcell
  clear hE hp hst hx0 hbl huc
  generalize popN (reachN (netsL g) s (Lib.ctz 32 s)) = R at *
  generalize (bitsI s).length = N at *
  generalize Lib.ctz 32 s = f at *
  have hd1 : ((R : Int) == (N : Int)) = decide (R = N) := by rw [Bool.eq_iff_iff, beq_iff_eq, decide_eq_true_eq]; omega
  have hd2 : (R == N) = decide (R = N) := by rw [Bool.eq_iff_iff, beq_iff_eq, decide_eq_true_eq]
  generalize decide (R = N) = bb at *
  go_enter Tryd.func150, Tryd.ntmps150
  go_wp2
  refine wp_region_held_drew (S := (fun w' => w'.cell? ⟨w.heap.size, 0, none⟩ = some (.slice va g.length vc) ∧ w'.cell? ⟨ub, uo, none⟩ = some (.int .i64 (f : Int)))) (by kernel_rfl) ?_ (fun hHeld => ?_)
  · first | exact ⟨‹_›, ‹_›⟩ | assumption | (simp [*, go_sem])
  have hqd := hq0.drew
  generalize (w.alloc (.cells #[.slice va g.length vc] 27)).drew = wd at hqd hHeld ⊢
  have hHeld2 := hHeld
  obtain ⟨cg, cu⟩ := hHeld2
  refine wpAnyH_take (i := 0) (v := ?v17) (by simp only [List.getElem?_toArray, List.getElem?_cons_zero]; exact rfl) (by kernel_rfl) (by kernel_rfl) (by kernel_rfl) (by intro _ _ _ h; exact h) (Or.inl ⟨by rfl, ?y17⟩) hHeld ?_
  case y17 => (intro w hSw; (try dsimp only at hSw); go_simp; try (with_reducible rfl))
  try simp only [Act.put, List.setIfInBounds_toArray, List.set_cons_zero, List.set_cons_succ]
  refine wpAnyH_take (i := 1) (v := ?v18) (by simp only [List.getElem?_toArray, List.getElem?_cons_succ, List.getElem?_cons_zero]; exact rfl) (by kernel_rfl) (by kernel_rfl) (by kernel_rfl) (by intro _ _ _ h; exact h) (Or.inl ⟨by rfl, ?y18⟩) hHeld ?_
  case y18 => (intro w hSw; (try dsimp only at hSw); go_simp; try (with_reducible rfl))
  try simp only [Act.put, List.setIfInBounds_toArray, List.set_cons_zero, List.set_cons_succ]
  refine wpAnyH_take (i := 2) (v := ?v19) (by simp only [List.getElem?_toArray, List.getElem?_cons_succ, List.getElem?_cons_zero]; exact rfl) (by kernel_rfl) (by kernel_rfl) (by kernel_rfl) (by intro _ _ _ h; exact h) (Or.inl ⟨by rfl, ?y19⟩) hHeld ?_
  case y19 => (intro w hSw; (try dsimp only at hSw); go_simp; try (with_reducible rfl))
  try simp only [Act.put, List.setIfInBounds_toArray, List.set_cons_zero, List.set_cons_succ]
  refine wpAnyH_take (i := 3) (v := ?v20) (by simp only [List.getElem?_toArray, List.getElem?_cons_succ, List.getElem?_cons_zero]; exact rfl) (by kernel_rfl) (by kernel_rfl) (by kernel_rfl) (by intro _ _ _ h; exact h) (Or.inl ⟨by rfl, ?y20⟩) hHeld ?_
  case y20 => (intro w hSw; (try dsimp only at hSw); go_simp; try (with_reducible rfl))
  try simp only [Act.put, List.setIfInBounds_toArray, List.set_cons_zero, List.set_cons_succ]
  refine wpAnyH_take (i := 4) (v := ?v21) (by simp only [List.getElem?_toArray, List.getElem?_cons_succ, List.getElem?_cons_zero]; exact rfl) (by kernel_rfl) (by kernel_rfl) (by kernel_rfl) (by intro _ _ _ h; exact h) (Or.inl ⟨by rfl, ?y21⟩) hHeld ?_
  case y21 => (intro w hSw; (try dsimp only at hSw); go_simp; try (with_reducible rfl))
  try simp only [Act.put, List.setIfInBounds_toArray, List.set_cons_zero, List.set_cons_succ]
  refine wpAnyH_take (i := 5) (v := ?v22) (by simp only [List.getElem?_toArray, List.getElem?_cons_succ, List.getElem?_cons_zero]; exact rfl) (by kernel_rfl) (by kernel_rfl) (by kernel_rfl) (by intro _ _ _ h; exact h) (Or.inl ⟨by rfl, ?y22⟩) hHeld ?_
  case y22 => (intro w hSw; (try dsimp only at hSw); go_simp; try (with_reducible rfl))
  try simp only [Act.put, List.setIfInBounds_toArray, List.set_cons_zero, List.set_cons_succ]
  refine wpAnyH_take (i := 6) (v := ?v23) (by simp only [List.getElem?_toArray, List.getElem?_cons_succ, List.getElem?_cons_zero]; exact rfl) (by kernel_rfl) (by kernel_rfl) (by kernel_rfl) (by intro _ _ _ h; exact h) (Or.inl ⟨by rfl, ?y23⟩) hHeld ?_
  case y23 => (intro w hSw; (try dsimp only at hSw); go_simp; try (with_reducible rfl))
  try simp only [Act.put, List.setIfInBounds_toArray, List.set_cons_zero, List.set_cons_succ]
  refine wpAnyH_take (i := 7) (v := ?v24) (by simp only [List.getElem?_toArray, List.getElem?_cons_succ, List.getElem?_cons_zero]; exact rfl) (by kernel_rfl) (by kernel_rfl) (by kernel_rfl) (by intro _ _ _ h; exact h) (Or.inl ⟨by rfl, ?y24⟩) hHeld ?_
  case y24 => (intro w hSw; (try dsimp only at hSw); go_simp; try (with_reducible rfl))
  try simp only [Act.put, List.setIfInBounds_toArray, List.set_cons_zero, List.set_cons_succ]
  refine wpAnyH_take (i := 8) (v := ?v25) (by simp only [List.getElem?_toArray, List.getElem?_cons_succ, List.getElem?_cons_zero]; exact rfl) (by kernel_rfl) (by kernel_rfl) (by kernel_rfl) (by intro _ _ _ h; exact h) (Or.inl ⟨by rfl, ?y25⟩) hHeld ?_
  case y25 => (intro w hSw; (try dsimp only at hSw); go_simp; try (with_reducible rfl))
  try simp only [Act.put, List.setIfInBounds_toArray, List.set_cons_zero, List.set_cons_succ]
  refine wpAnyH_take (i := 11) (v := ?v26) (by simp only [List.getElem?_toArray, List.getElem?_cons_succ, List.getElem?_cons_zero]; exact rfl) (by kernel_rfl) (by kernel_rfl) (by kernel_rfl) (by intro _ _ _ h; exact h) (Or.inl ⟨by rfl, ?y26⟩) hHeld ?_
  case y26 => (intro w hSw; (try dsimp only at hSw); go_simp; try (with_reducible rfl))
  try simp only [Act.put, List.setIfInBounds_toArray, List.set_cons_zero, List.set_cons_succ]
  refine wpAnyH_take (i := 12) (v := ?v27) (by simp only [List.getElem?_toArray, List.getElem?_cons_succ, List.getElem?_cons_zero]; exact rfl) (by kernel_rfl) (by kernel_rfl) (by kernel_rfl) (by intro _ _ _ h; exact h) (Or.inl ⟨by rfl, ?y27⟩) hHeld ?_
  case y27 => (intro w hSw; (try dsimp only at hSw); go_simp; try (with_reducible rfl))
  try simp only [Act.put, List.setIfInBounds_toArray, List.set_cons_zero, List.set_cons_succ]
  refine wpAnyH_ready (rs := [9]) (by kernel_rfl) (by simp) ?_
  refine AllReadyH.cons (by simp only [List.getElem?_toArray, List.getElem?_cons_succ, List.getElem?_cons_zero]; exact rfl) (fun K hK => ?_) AllReadyH.nil
  go_simp
  refine (hpt _ hqd).mono ?_
  rintro e wn ⟨pa, pc, rfl, hbn⟩
  have hqd := hqd.trans (hbn.mono hqd.size)
  have cg := (hbn.cell (cell_lt cg)).trans cg
  have cu := (hbn.cell (cell_lt cu)).trans cu
  try dsimp only
  refine hK.out _ _ ?h29 (fun hHeld => ?_)
  case h29 => first | exact ⟨‹_›, ‹_›⟩ | assumption | (simp [*, go_sem])
  clear hK K
  try simp only [Act.put, List.setIfInBounds_toArray, List.set_cons_zero, List.set_cons_succ]
  refine wpAnyH_take (i := 10) (v := ?v30) (by simp only [List.getElem?_toArray, List.getElem?_cons_succ, List.getElem?_cons_zero]; exact rfl) (by kernel_rfl) (by kernel_rfl) (by kernel_rfl) (by intro _ _ _ h; exact h) (Or.inl ⟨by rfl, ?y30⟩) hHeld ?_
  case y30 => (intro w hSw; (try dsimp only at hSw); go_simp; try (with_reducible rfl))
  try simp only [Act.put, List.setIfInBounds_toArray, List.set_cons_zero, List.set_cons_succ]
  refine wpAnyH_take (i := 13) (v := ?v31) (by simp only [List.getElem?_toArray, List.getElem?_cons_succ, List.getElem?_cons_zero]; exact rfl) (by kernel_rfl) (by kernel_rfl) (by kernel_rfl) (by intro _ _ _ h; exact h) (Or.inl ⟨by rfl, ?y31⟩) hHeld ?_
  case y31 => (intro w hSw; (try dsimp only at hSw); go_simp; try (with_reducible rfl))
  try simp only [Act.put, List.setIfInBounds_toArray, List.set_cons_zero, List.set_cons_succ]
  refine wpAnyH_take (i := 14) (v := ?v32) (by simp only [List.getElem?_toArray, List.getElem?_cons_succ, List.getElem?_cons_zero]; exact rfl) (by kernel_rfl) (by kernel_rfl) (by kernel_rfl) (by intro _ _ _ h; exact h) (Or.inl ⟨by rfl, ?y32⟩) hHeld ?_
  case y32 => (intro w hSw; (try dsimp only at hSw); go_simp; try (with_reducible rfl))
  try simp only [Act.put, List.setIfInBounds_toArray, List.set_cons_zero, List.set_cons_succ]
  refine wpAnyH_take (i := 15) (v := ?v33) (by simp only [List.getElem?_toArray, List.getElem?_cons_succ, List.getElem?_cons_zero]; exact rfl) (by kernel_rfl) (by kernel_rfl) (by kernel_rfl) (by intro _ _ _ h; exact h) (Or.inl ⟨by rfl, ?y33⟩) hHeld ?_
  case y33 => (intro w hSw; (try dsimp only at hSw); go_simp; try (with_reducible rfl))
  try simp only [Act.put, List.setIfInBounds_toArray, List.set_cons_zero, List.set_cons_succ]
  refine wpAnyH_done (by kernel_rfl) ?_ _
  go_wp2
  go_ret
  exact ⟨by rw [HE.out]; rfl, hqd⟩
set_option maxHeartbeats 2000000 in
theorem ConnectedIn_any {S S' : Nat → Prop} {v u : Value} {g : List (List Int)} {xs : List Int} {w : World} (hg : GOk g) (hv : SlR S w v g) (hu : SlI S' w .i64 u xs) (hx : Rise xs g.length) :
    Calls Tryd.prog 113 #[.agg #[v], u] w fun e w' => e = .returned (.bool (connB g (maskL xs))) ∧ Below w.heap.size w w' := by
  have hq0 : Below w.heap.size w (w.alloc (.cells #[v] 27)) := (Below.refl _ _).alloc (Nat.le_refl _) _
  obtain ⟨va, vc, rfl⟩ := hv.slice
  have hso := specSetOk_any _ _ _ _ _ (hv.below hq0 (Nat.le_refl _)) (hu.below hq0 (Nat.le_refl _))
  have hset : setOkB g xs = true := by rw [setOkB, gokB_iff.2 hg, riseB_true hx]; rfl
  have h16 := hg.hi
  have hmem : ∀ x ∈ xs, 0 ≤ x ∧ x < g.length := fun x h => by
    obtain ⟨i, hi, rfl⟩ := List.getElem_of_mem h
    have := hx i hi hi
    omega
  rw [hset] at hso
  have hcn := fun (W : World) (hb : Below w.heap.size w W) (S2 : Nat → Prop) (h : SlI S2 W .i64 u (bitsI (maskL xs))) => l3Connected_any hg (hv.below hb (Nat.le_refl _)) h (s := maskL xs) (maskL_lt hmem)
  have hbm : bitsI (maskL xs) = xs := bitsI_maskL (rise_sorted hx) (fun x h => by have := hmem x h; omega)
  have hu2 : SlI S' w .i64 u (bitsI (maskL xs)) := by rw [hbm]; exact hu
  have HBM := Lib.hid hbm
  clear hbm hset hmem
  obtain ⟨ua, uc, rfl⟩ := hu.slice
  go_enter Tryd.func113, Tryd.ntmps113
  go_wp2_with fail
  refine hso.mono ?_
  rintro e w1 ⟨rfl, hb1⟩
  have hq1 := hq0.trans (hb1.mono hq0.size)
  have c3 : w1.cell? ⟨w.heap.size, 0, none⟩ = some (.slice va g.length vc) := (hb1.cell (p := ⟨w.heap.size, 0, none⟩) (by simp; try omega)).trans (by simp [go_sem])
  go_wp2_with fail
  refine (hcn _ hq1 _ (hu2.below hq1 (Nat.le_refl _))).mono ?_
  rintro e w2 ⟨rfl, hb2⟩
  go_wp2
  go_ret
  exact ⟨rfl, hq1.trans (hb2.mono hq1.size)⟩
end Go.Proofs.YtklnjpdpinccoaaDoor
