/- There is always a next ear: plain facts. -/
import Derived.Test.YtgkkgagnoeedaaaDoorEarM
import Derived.Test.YtgkkgagnoeedaaaDoorLoopL
import Derived.Test.YtgkkgagnoeedaaaDoorReaE
import Derived.Test.YtgkkgagnoeedaaaDoorTwo
namespace Go.Proofs.YtgkkgagnoeedaaaDoor
open Go.RowKit
/-- What an ear is, said at once. -/
theorem earB_iff {g : List (List Int)} {q : List Nat} {m : Nat} {U : List NP} {first : Bool} : earB g (natsI q) m U first = true ↔
    (if first = true then 3 else 2) ≤ q.length ∧ (∀ a ∈ q, a < g.length) ∧ q.Nodup ∧ (first = false → ∀ i, i < q.length → m.testBit (q.getD i 0) = (decide (i = 0) || decide (i = q.length - 1))) ∧ ∀ s ∈ stepsN q first, freeB g U s = true := by
  have e : ∀ i, i < q.length → (natsI q).getD i 0 = ((q.getD i 0 : Nat) : Int) := fun i hi => by simp [natsI, hi]
  have hno : natsOf (natsI q) = q := by
    unfold natsOf natsI
    rw [List.map_map]
    conv => rhs; rw [← List.map_id q]
    exact List.map_congr_left fun x _ => by simp
  unfold earB
  rw [Bool.and_eq_true, Bool.and_eq_true, decide_eq_true_eq, natsI_len, hno, List.all_eq_true, List.all_eq_true, and_assoc]
  refine and_congr_right fun _ => ?_
  constructor
  · rintro ⟨h1, h2⟩
    have hall : (List.range (natsI q).length).all (vokB g.length (natsI q) m first) = true := by rw [natsI_len, List.all_eq_true]; exact h1
    obtain ⟨-, -, hp⟩ := ear_nats hall
    rw [hno] at hp
    refine ⟨hp.1, hp.2, fun hf i hi => ?_, h2⟩
    have := h1 i (List.mem_range.2 hi)
    simp only [vokB, hf, Bool.false_or, Bool.and_eq_true, e i hi, Int.toNat_natCast, natsI_len, beq_iff_eq] at this
    exact this.2
  · rintro ⟨h1, h2, h3, h4⟩
    refine ⟨fun i hi => ?_, h4⟩
    have hi := List.mem_range.1 hi
    have hmem : q.getD i 0 ∈ q := getD_mem hi
    simp only [vokB, e i hi, Int.toNat_natCast, natsI_len, Bool.and_eq_true, Bool.not_eq_true', decide_eq_false_iff_not]
    refine ⟨⟨inB_iff.2 ⟨by omega, by have := h1 _ hmem; omega⟩, fun hc => ?_⟩, ?_⟩
    · obtain ⟨j, hj, ej⟩ := List.getElem_of_mem hc
      rw [List.length_take, natsI_len] at hj
      rw [List.getElem_take] at ej
      have e2 : (natsI q)[j]'(by rw [natsI_len]; omega) = ((q.getD j 0 : Nat) : Int) := by simp [natsI, show j < q.length by omega]
      rw [e2] at ej
      have := nodup_getD h2 (show j < q.length by omega) hi (by omega)
      omega
    · cases first
      · rw [h3 rfl i hi]; simp
      · rfl
theorem free_iff {g : List (List Int)} {U : List NP} {s : NP} : freeB g U s = true ↔ (s.2 : Int) ∈ g.getD s.1 [] ∧ s ∉ U := by
  unfold freeB
  rw [Bool.and_eq_true, decide_eq_true_eq, Bool.not_eq_true', decide_eq_false_iff_not]
theorem mem_steps {q : List Nat} {c : Bool} {s : NP} : s ∈ stepsN q c ↔ (∃ i, i + 1 < q.length ∧ s = (q.getD i 0, q.getD (i + 1) 0)) ∨ (c = true ∧ s = (lastN q, q.getD 0 0)) := by
  unfold stepsN lastN
  rw [List.mem_append, List.mem_map]
  refine or_congr ?_ ?_
  · constructor
    · rintro ⟨i, hi, rfl⟩
      exact ⟨i, by have := List.mem_range.1 hi; omega, rfl⟩
    · rintro ⟨i, hi, rfl⟩
      exact ⟨i, List.mem_range.2 (by omega), rfl⟩
  · cases c
    · simp
    · simp
/-- What two-connected means. -/
structure TwoCon (g : List (List Int)) : Prop where
  gok : GOk g
  three : 3 ≤ g.length
  all : ∀ y z, y < g.length → z < g.length → (reachN (netsL g) (firstN g.length) y).testBit z = true
  less : ∀ x y z, x < g.length → y < g.length → z < g.length → y ≠ x → z ≠ x → (reachN (netsL g) (andN (firstN g.length) (bit x)) y).testBit z = true
theorem nets_bitE {g : List (List Int)} (hg : GOk g) {u v : Nat} (hu : u < g.length) : ((netsL g).getD u 0).testBit v = true ↔ (v : Int) ∈ g.getD u [] := by
  have h := left_bit hg [] hu v
  rw [leftN_start] at h
  rw [h, free_iff]; simp
theorem nets_out {g : List (List Int)} {u v : Nat} (hu : ¬ u < g.length) : ((netsL g).getD u 0).testBit v = false := by
  have : (netsL g).getD u 0 = 0 := by simp [netsL, show g.length ≤ u by omega]
  rw [this, Nat.zero_testBit]
theorem nets_symN {g : List (List Int)} (hg : GOk g) {u v : Nat} (h : ((netsL g).getD u 0).testBit v = true) : u < g.length ∧ v < g.length ∧ u ≠ v ∧ ((netsL g).getD v 0).testBit u = true := by
  by_cases hu : u < g.length
  · have h1 := hg.symD hu ((nets_bitE hg hu).1 h)
    exact ⟨hu, h1.1, h1.2.2, (nets_bitE hg h1.1).2 h1.2.1⟩
  · rw [nets_out hu] at h; cases h
theorem one_part {a : List Nat} {wi : Nat} (hw : wi < 4294967296) (h0 : wi ≠ 0) (hs : SymN a wi) (h1 : (partsN a wi).length = 1) {y z : Nat} (hy : wi.testBit y = true) (hz : wi.testBit z = true) : (reachN a wi y).testBit z = true := by
  have hc := ctz_bit h0 hw
  have he := (parts_one hw h0).1 h1
  rw [reach_eq hw hs hc (by rw [he]; exact hy), he]
  exact hz
theorem two_of {g : List (List Int)} (h : twoB g = true) : TwoCon g := by
  unfold twoB at h
  simp only [Bool.and_eq_true, decide_eq_true_eq] at h
  obtain ⟨h1, h2, h3, h4⟩ := h
  have hg := gokB_iff.1 h1
  have h16 := hg.hi
  have hf := firstN_lt h16
  have hf32 : firstN g.length < 4294967296 := by omega
  have hsy : ∀ wi, SymN (netsL g) wi := fun wi x y _ _ hb => (nets_symN hg hb).2.2.2
  refine ⟨hg, h2, fun y z hy hz => ?_, fun x y z hx hy hz hyx hzx => ?_⟩
  · refine one_part hf32 (fun h0 => ?_) (hsy _) h3 (by rw [testBit_firstN]; simpa using hy) (by rw [testBit_firstN]; simpa using hz)
    have : (firstN g.length).testBit y = true := by rw [testBit_firstN]; simpa using hy
    rw [h0, Nat.zero_testBit] at this; cases this
  · have hb : bit x < 4294967296 := bit_lt (by omega)
    have hm : ∀ v, (andN (firstN g.length) (bit x)).testBit v = true ↔ v < g.length ∧ v ≠ x := fun v => by
      rw [testBit_andN hf32 hb, testBit_firstN, testBit_bit]
      simp only [Bool.and_eq_true, decide_eq_true_eq, Bool.not_eq_true', decide_eq_false_iff_not]
      exact ⟨fun h => ⟨h.1, fun e => h.2 e.symm⟩, fun h => ⟨h.1, fun e => h.2 e.symm⟩⟩
    have hA := Nat.lt_of_le_of_lt (andN_le (firstN g.length) (bit x)) hf32
    have h0 : andN (firstN g.length) (bit x) ≠ 0 := fun h0 => by
      have := (hm y).2 ⟨hy, hyx⟩
      rw [h0, Nat.zero_testBit] at this; cases this
    have hcut : cutB (netsL g) (firstN g.length) (x : Int) = false := by
      cases hc : cutB (netsL g) (firstN g.length) (x : Int)
      · rfl
      · have : (x : Int) ∈ cutsL g g.length := List.mem_filter.2 ⟨by unfold rangeI; exact List.mem_map.2 ⟨x, List.mem_range.2 hx, rfl⟩, hc⟩
        rw [List.eq_nil_of_length_eq_zero h4] at this; cases this
    unfold cutB at hcut
    rw [decide_eq_false_iff_not, Int.toNat_natCast, h3] at hcut
    have hne : (partsN (netsL g) (andN (firstN g.length) (bit x))).length ≠ 0 := by
      rw [partsN_step hA h0]; simp
    exact one_part hA h0 (hsy _) (by omega) ((hm y).2 ⟨hy, hyx⟩) ((hm z).2 ⟨hz, hzx⟩)
/-- A way from y that stays off some vertices, as far as a neighbour of one of them. -/
theorem way_to {H : List Nat} {n wi y m0 : Nat} {M : Nat → Prop} (hwn : wi < 2 ^ n) (hn : n ≤ 16) (hy : wi.testBit y = true) (hyM : ¬ M y) (hm0 : M m0) (hr : (reachN H wi y).testBit m0 = true) :
    ∃ q m1, PathN H n q ∧ q.getD 0 0 = y ∧ (∀ x ∈ q, wi.testBit x = true ∧ ¬ M x) ∧ M m1 ∧ wi.testBit m1 = true ∧ (H.getD (lastN q) 0).testBit m1 = true := by
  have hw : wi < 4294967296 := Nat.lt_trans hwn (pow16_lt hn)
  apply Classical.byContradiction
  intro hno
  let C : Nat → Prop := fun z => ∃ q, PathN H n q ∧ q.getD 0 0 = y ∧ lastN q = z ∧ ∀ x ∈ q, wi.testBit x = true ∧ ¬ M x
  have hstep : ∀ z u, C z → wi.testBit u = true → (H.getD z 0).testBit u = true → C u := by
    rintro z u ⟨q, hq, h0, rfl, hall⟩ hu hb
    have hMu : ¬ M u := fun hc => hno ⟨q, u, hq, h0, hall, hc, hu, hb⟩
    by_cases hm : u ∈ q
    · obtain ⟨s, t, rfl⟩ := List.append_of_mem hm
      have e : s ++ u :: t = (s ++ [u]) ++ t := by simp
      rw [e] at hq h0 hall
      refine ⟨s ++ [u], hq.pre (by simp), by rw [getD_left (by simp)] at h0; exact h0, lastN_snoc s u, fun x hx => hall x (List.mem_append_left _ hx)⟩
    · refine ⟨q ++ [u], hq.snoc (bit_lt_of hwn hu) hm hb, by rw [getD_left hq.ne]; exact h0, lastN_snoc q u, fun x hx => ?_⟩
      rcases List.mem_append.1 hx with hx | hx
      · exact hall x hx
      · simp at hx; subst hx; exact ⟨hu, hMu⟩
  have hyn : y < n := bit_lt_of hwn hy
  have hCy : C y := ⟨[y], PathN.one hyn, rfl, rfl, fun x hx => by simp at hx; subst hx; exact ⟨hy, hyM⟩⟩
  classical
  have hCn : ∀ z, C z → z < n := fun z ⟨q, hq, _, e, _⟩ => by rw [← e]; exact hq.lt _ (getD_mem (by have := hq.ne; omega))
  have hbit : ∀ z, (maskN ((List.range n).filter fun z => decide (C z))).testBit z = true ↔ C z := fun z => by
    rw [testBit_maskN, decide_eq_true_eq, List.mem_filter, List.mem_range, decide_eq_true_eq]
    exact ⟨fun h => h.2, fun h => ⟨hCn z h, h⟩⟩
  have hcl : ClosedN H wi (maskN ((List.range n).filter fun z => decide (C z))) := fun x hx u hu hb => (hbit u).2 (hstep x u ((hbit x).1 hx) hu hb)
  have := (hbit m0).1 (reach_least hw (bit_lt_of (n := 32) hw hy) hcl ((hbit y).2 hCy) hr)
  obtain ⟨q, hq, -, e, hall⟩ := this
  have hl := (hall (lastN q) (getD_mem (by have := hq.ne; omega))).2
  rw [e] at hl
  exact hl hm0
theorem lastN_app {p : List Nat} {x : Nat} (h : 0 < p.length) (y : Nat) : lastN (y :: (p ++ [x])) = x := by
  have := lastN_snoc (y :: p) x
  simpa using this
/-- An ear that may come next. -/
def EarG (g : List (List Int)) (m : Nat) (U : List NP) (q : List Nat) : Prop := earB g (natsI q) m U (decide (m = 0)) = true ∧ (m = 0 → q.getD 0 0 = 0)
theorem loop_ear {g : List (List Int)} (hg : GOk g) {q : List Nat} (hq : LoopN (netsL g) g.length q) (h0 : q.getD 0 0 = 0) : EarG g 0 [] q := by
  refine ⟨?_, fun _ => h0⟩
  rw [show decide ((0 : Nat) = 0) = true from rfl]
  refine earB_iff.2 ⟨hq.three, hq.path.lt, hq.path.nd, (fun h => by cases h), fun s hs => ?_⟩
  rw [free_iff]
  refine ⟨?_, by simp⟩
  rcases mem_steps.1 hs with ⟨i, hi, rfl⟩ | ⟨-, rfl⟩
  · exact (nets_bitE hg (hq.path.lt _ (getD_mem (by omega)))).1 (hq.path.ch i hi)
  · exact (nets_bitE hg (hq.path.lt _ (getD_mem (by have := hq.three; omega)))).1 hq.cl
theorem ear_loop {g : List (List Int)} (hg : GOk g) {q : List Nat} (h : EarG g 0 [] q) : LoopN (netsL g) g.length q ∧ q.getD 0 0 = 0 := by
  obtain ⟨h1, h2⟩ := h
  rw [show decide ((0 : Nat) = 0) = true from rfl] at h1
  obtain ⟨h3, h4, h5, -, h6⟩ := earB_iff.1 h1
  simp only [if_true] at h3
  have hb : ∀ s ∈ stepsN q true, ((netsL g).getD s.1 0).testBit s.2 = true := fun s hs => by
    have hf := free_iff.1 (h6 s hs)
    have hlt : s.1 < g.length := (steps_lt (by omega) h4 s hs).1
    exact (nets_bitE hg hlt).2 hf.1
  refine ⟨⟨⟨by omega, h4, h5, fun i hi => hb (q.getD i 0, q.getD (i + 1) 0) (mem_steps.2 (.inl ⟨i, hi, rfl⟩))⟩, h3, hb (lastN q, q.getD 0 0) (mem_steps.2 (.inr ⟨rfl, rfl⟩))⟩, h2 rfl⟩
theorem first_ear {g : List (List Int)} (h : TwoCon g) : ∃ q, EarG g 0 [] q := by
  have hg := h.gok
  have h3 := h.three
  have h16 := hg.hi
  have hf32 : firstN g.length < 4294967296 := by have := firstN_lt h16; omega
  have hm : ∀ x, x < g.length → ∀ v, (andN (firstN g.length) (bit x)).testBit v = true ↔ v < g.length ∧ v ≠ x := fun x hx v => by
    rw [testBit_andN hf32 (bit_lt (by omega)), testBit_firstN, testBit_bit]
    simp only [Bool.and_eq_true, decide_eq_true_eq, Bool.not_eq_true', decide_eq_false_iff_not]
    exact ⟨fun h => ⟨h.1, fun e => h.2 e.symm⟩, fun h => ⟨h.1, fun e => h.2 e.symm⟩⟩
  have hlt : ∀ x, andN (firstN g.length) (bit x) < 2 ^ g.length := fun x => Nat.lt_of_le_of_lt (andN_le _ _) (by unfold firstN; have := Nat.two_pow_pos g.length; omega)
  -- 0 has a neighbour
  have hnb : ∀ x, x < g.length → x ≠ 0 → ∃ y, y ≠ x ∧ ((netsL g).getD 0 0).testBit y = true := fun x hx hx0 => by
    apply Classical.byContradiction
    intro hno
    obtain ⟨z, hz, hz0, hzx⟩ : ∃ z, z < g.length ∧ z ≠ 0 ∧ z ≠ x := by
      by_cases e : x = 1
      · exact ⟨2, by omega, by omega, by omega⟩
      · exact ⟨1, by omega, by omega, fun e2 => e e2.symm⟩
    have hr := h.less x 0 z hx (by omega) hz (fun e => hx0 e.symm) hzx
    have hcl : ClosedN (netsL g) (andN (firstN g.length) (bit x)) (bit 0) := fun u hu v hv hb => by
      rw [testBit_bit, decide_eq_true_eq] at hu
      subst hu
      exact absurd ⟨v, ((hm x hx v).1 hv).2, hb⟩ hno
    have := reach_least (Nat.lt_trans (hlt x) (pow16_lt h16)) (by omega) hcl (by rw [testBit_bit]; simp) hr
    rw [testBit_bit, decide_eq_true_eq] at this
    exact hz0 this.symm
  obtain ⟨y, -, hy⟩ := hnb 1 (by omega) (by omega)
  obtain ⟨-, hyl, hy0, hyb⟩ := nets_symN hg hy
  obtain ⟨z, hzy, hz⟩ := hnb y hyl (fun e => hy0 e.symm)
  obtain ⟨-, hzl, hz0, hzb⟩ := nets_symN hg hz
  obtain ⟨q, m1, hq, hq0, hall, ⟨hm1, hm1y⟩, hmw, hlast⟩ := way_to (H := netsL g) (n := g.length) (wi := andN (firstN g.length) (bit 0)) (y := y) (m0 := z) (M := fun v => ((netsL g).getD 0 0).testBit v = true ∧ v ≠ y) (hlt 0) h16 ((hm 0 (by omega) y).2 ⟨hyl, fun e => hy0 e.symm⟩) (fun hc => hc.2 rfl) ⟨hz, hzy⟩ (h.less 0 y z (by omega) hyl hzl (fun e => hy0 e.symm) (fun e => hz0 e.symm))
  have hp1 := hq.snoc (v := m1) (nets_symN hg hm1).2.1 (fun hc => (hall m1 hc).2 ⟨hm1, hm1y⟩) hlast
  have h0q : ∀ x ∈ q ++ [m1], x ≠ 0 := fun x hx => by
    rcases List.mem_append.1 hx with hx | hx
    · exact ((hm 0 (by omega) x).1 (hall x hx).1).2
    · simp at hx; subst hx; exact ((hm 0 (by omega) x).1 hmw).2
  have hp2 := hp1.cons (u := 0) (by omega) (fun hc => h0q 0 hc rfl) (by rw [getD_left hq.ne, hq0]; exact hy)
  refine ⟨0 :: (q ++ [m1]), loop_ear hg ⟨hp2, by have := hq.ne; simp; omega, ?_⟩ (by simp)⟩
  unfold finN
  rw [lastN_app hq.ne 0]
  exact (nets_symN hg hm1).2.2.2
theorem next_ear {g : List (List Int)} (h : TwoCon g) {m : Nat} {U : List NP} (hI : EInv g m U) (hU : ∀ s ∈ U, m.testBit s.1 = true ∧ m.testBit s.2 = true) {a b : Nat} (ha : m.testBit a = true) (hb : m.testBit b = true) (hab : a ≠ b) (hl : U.length ≠ endsN g) : ∃ q, EarG g m U q := by
  have hg := h.gok
  have h16 := hg.hi
  have hf : firstN g.length < 2 ^ g.length := by unfold firstN; have := Nat.two_pow_pos g.length; omega
  have hf32 : firstN g.length < 4294967296 := Nat.lt_trans hf (pow16_lt h16)
  have hm0 : decide (m = 0) = false := by
    rw [decide_eq_false_iff_not]; intro e; rw [e, Nat.zero_testBit] at ha; cases ha
  have hne : ¬ m = 0 := of_decide_eq_false hm0
  obtain ⟨s, hs, hsU⟩ : ∃ s, s ∈ allP g ∧ s ∉ U := by
    apply Classical.byContradiction
    intro hc
    exact hl ((hI.full hg).2 fun s hs => Classical.byContradiction fun hn => hc ⟨s, hs, hn⟩)
  obtain ⟨hs1, hs2⟩ := (mem_allP hg).1 hs
  have hsy := hg.symD hs1 hs2
  by_cases hboth : m.testBit s.1 = true ∧ m.testBit s.2 = true
  · refine ⟨[s.1, s.2], ?_, fun e => absurd e hne⟩
    rw [hm0]
    refine earB_iff.2 ⟨by simp, fun x hx => ?_, ?_, fun _ i hi => ?_, fun t ht => ?_⟩
    · rcases List.mem_cons.1 hx with rfl | hx
      · exact hs1
      · simp at hx; subst hx; exact hsy.1
    · simpa using hsy.2.2
    · match i, hi with
      | 0, _ => simpa using hboth.1
      | 1, _ => simpa using hboth.2
      | i + 2, hi => exact absurd hi (by simp)
    · rcases mem_steps.1 ht with ⟨i, hi, rfl⟩ | ⟨hc, -⟩
      · match i, hi with
        | 0, _ => exact free_iff.2 ⟨hs2, hsU⟩
        | i + 1, hi => exact absurd hi (by simp)
      · cases hc
  -- a vertex beyond
  obtain ⟨w, hw, hwm⟩ : ∃ w, w < g.length ∧ m.testBit w = false := by
    by_cases h1 : m.testBit s.1 = true
    · exact ⟨s.2, hsy.1, by cases hc : m.testBit s.2; rfl; exact absurd ⟨h1, hc⟩ hboth⟩
    · exact ⟨s.1, hs1, by simpa using h1⟩
  have han : a < g.length := bit_lt_of hI.mask ha
  have hbn : b < g.length := bit_lt_of hI.mask hb
  obtain ⟨x, y, hx, hy, hxy, hyn⟩ : ∃ x y, m.testBit x = true ∧ m.testBit y = false ∧ ((netsL g).getD x 0).testBit y = true ∧ y < g.length := by
    apply Classical.byContradiction
    intro hno
    have hcl : ClosedN (netsL g) (firstN g.length) m := fun x hx u hu hbb => by
      cases hc : m.testBit u
      · exact absurd ⟨x, u, hx, hc, hbb, by rw [testBit_firstN] at hu; simpa using hu⟩ hno
      · rfl
    have := reach_least hf32 (by omega) hcl ha (h.all a w han hw)
    rw [hwm] at this; cases this
  have hxn : x < g.length := bit_lt_of hI.mask hx
  have hm : ∀ v, (andN (firstN g.length) (bit x)).testBit v = true ↔ v < g.length ∧ v ≠ x := fun v => by
    rw [testBit_andN hf32 (bit_lt (by omega)), testBit_firstN, testBit_bit]
    simp only [Bool.and_eq_true, decide_eq_true_eq, Bool.not_eq_true', decide_eq_false_iff_not]
    exact ⟨fun h => ⟨h.1, fun e => h.2 e.symm⟩, fun h => ⟨h.1, fun e => h.2 e.symm⟩⟩
  obtain ⟨c, hc, hcx⟩ : ∃ c, m.testBit c = true ∧ c ≠ x := by
    by_cases e : a = x
    · exact ⟨b, hb, fun e2 => hab (e.trans e2.symm)⟩
    · exact ⟨a, ha, e⟩
  have hcn : c < g.length := bit_lt_of hI.mask hc
  have hyx : y ≠ x := fun e => by rw [e, hx] at hy; cases hy
  obtain ⟨q, m1, hq, hq0, hall, hm1, hmw, hlast⟩ := way_to (H := netsL g) (n := g.length) (wi := andN (firstN g.length) (bit x)) (y := y) (m0 := c) (M := fun v => m.testBit v = true) (Nat.lt_of_le_of_lt (andN_le _ _) hf) h16 ((hm y).2 ⟨hyn, hyx⟩) (by rw [hy]; simp) hc (h.less x y c hxn hyn hcn hyx hcx)
  have hm1n : m1 < g.length := bit_lt_of hI.mask hm1
  have hp1 := hq.snoc (v := m1) hm1n (fun hcc => (hall m1 hcc).2 hm1) hlast
  have hxq : ∀ z ∈ q ++ [m1], z ≠ x := fun z hz => by
    rcases List.mem_append.1 hz with hz | hz
    · exact ((hm z).1 (hall z hz).1).2
    · simp at hz; subst hz; exact ((hm z).1 hmw).2
  have hp2 := hp1.cons (u := x) hxn (fun hcc => hxq x hcc rfl) (by rw [getD_left hq.ne, hq0]; exact hxy)
  have hlen : (x :: (q ++ [m1])).length = q.length + 2 := by simp
  have hqn := hq.ne
  have hin : ∀ i, 0 < i → i < q.length + 1 → m.testBit ((x :: (q ++ [m1])).getD i 0) = false := fun i h1 h2 => by
    obtain ⟨j, rfl⟩ : ∃ j, i = j + 1 := ⟨i - 1, by omega⟩
    rw [List.getD_cons_succ, getD_left (by omega)]
    have := (hall _ (getD_mem (show j < q.length by omega))).2
    simpa using this
  refine ⟨x :: (q ++ [m1]), ?_, fun e => absurd e hne⟩
  rw [hm0]
  refine earB_iff.2 ⟨by rw [hlen]; simp, hp2.lt, hp2.nd, fun _ i hi => ?_, fun t ht => ?_⟩
  · rw [hlen] at hi ⊢
    by_cases e0 : i = 0
    · subst e0; simpa using hx
    · by_cases e1 : i = q.length + 1
      · subst e1
        have : (x :: (q ++ [m1])).getD (q.length + 1) 0 = m1 := by rw [List.getD_cons_succ, getD_right (Nat.le_refl _), Nat.sub_self]; rfl
        rw [this, hm1]; simp
      · rw [hin i (by omega) (by omega), decide_eq_false e0, decide_eq_false (by omega)]; rfl
  · rcases mem_steps.1 ht with ⟨i, hi, rfl⟩ | ⟨hcc, -⟩
    · have hch := hp2.ch i hi
      rw [hlen] at hi
      refine free_iff.2 ⟨(nets_bitE hg (hp2.lt _ (getD_mem (by rw [hlen]; omega)))).1 hch, fun hcU => ?_⟩
      have hcc := hU _ hcU
      simp only at hcc
      by_cases e0 : i = 0
      · rw [hin (i + 1) (by omega) (by omega)] at hcc; exact absurd hcc.2 (by simp)
      · rw [hin i (by omega) (by omega)] at hcc; exact absurd hcc.1 (by simp)
    · cases hcc
/-- What the program goes on with. -/
def candE (A : List Nat) (m L : Nat) (p : List Nat) : List Nat := (bitsN (A.getD (lastN p) 0)).filter fun v => (m.testBit v == decide (p.length + 1 = L)) && !decide (v ∈ p)
/-- What the reference goes on with. -/
def candS (g : List (List Int)) (m : Nat) (U : List NP) (L : Nat) (p : List Nat) : List Nat := (bitsN ((netsL g).getD (lastN p) 0)).filter fun v => !(decide (v ∈ p) || (decide ((lastN p, v) ∈ U) || (!decide (m = 0) && (m.testBit v == decide (p.length + 1 < L)))))
def finS (g : List (List Int)) (m : Nat) (U : List NP) (p : List Nat) : Bool := earB g (natsI p) m U (decide (m = 0))
def anyP (_ : List Nat) : Bool := true
theorem candE_sorted (A : List Nat) (m L : Nat) (p : List Nat) : (candE A m L p).Pairwise (· < ·) := List.Pairwise.filter _ (bitsN_sorted _)
theorem candS_sorted (g : List (List Int)) (m : Nat) (U : List NP) (L : Nat) (p : List Nat) : (candS g m U L p).Pairwise (· < ·) := List.Pairwise.filter _ (bitsN_sorted _)
theorem nets_lt32 {g : List (List Int)} (hg : GOk g) (u : Nat) : (netsL g).getD u 0 < 4294967296 := by
  by_cases hu : u < g.length
  · have h := netsL_lt hg ((netsL g).getD u 0) (by
      have : (netsL g).getD u 0 = (netsL g)[u]'(by rw [netsL_len]; exact hu) := by simp [netsL_len, hu]
      rw [this]; exact List.getElem_mem _)
    exact h
  · have : (netsL g).getD u 0 = 0 := by simp [netsL, show g.length ≤ u by omega]
    rw [this]; omega
theorem left_lt32 {g : List (List Int)} (hg : GOk g) (U : List NP) (u : Nat) : (leftN g U).getD u 0 < 4294967296 := nat_getD (leftN_lt hg U) u
theorem left_out {g : List (List Int)} {U : List NP} {u : Nat} (hu : ¬ u < g.length) (v : Nat) : ((leftN g U).getD u 0).testBit v = false := by
  have : (leftN g U).getD u 0 = 0 := by simp [leftN, show g.length ≤ u by omega]
  rw [this, Nat.zero_testBit]
theorem left_iff {g : List (List Int)} (hg : GOk g) {U : List NP} {u v : Nat} : ((leftN g U).getD u 0).testBit v = true ↔ ((netsL g).getD u 0).testBit v = true ∧ (u, v) ∉ U := by
  by_cases hu : u < g.length
  · rw [left_bit hg U hu, free_iff, nets_bitE hg hu]
  · rw [left_out hu, nets_out hu]; simp
theorem mem_candS {g : List (List Int)} (hg : GOk g) {m L : Nat} {U : List NP} {p : List Nat} {v : Nat} : v ∈ candS g m U L p ↔ ((netsL g).getD (lastN p) 0).testBit v = true ∧ v ∉ p ∧ (lastN p, v) ∉ U ∧ (m ≠ 0 → m.testBit v ≠ decide (p.length + 1 < L)) := by
  unfold candS
  rw [List.mem_filter, mem_bitsN (nets_lt32 hg _)]
  simp only [Bool.not_eq_true', Bool.or_eq_false_iff, decide_eq_false_iff_not, Bool.and_eq_false_iff, beq_eq_false_iff_ne, ne_eq, Bool.not_eq_false', decide_eq_true_eq]
  refine and_congr_right fun _ => and_congr_right fun _ => and_congr_right fun _ => ?_
  constructor
  · rintro (h | h) h2
    · exact absurd h h2
    · exact h
  · intro h
    by_cases h0 : m = 0
    · exact .inl h0
    · exact .inr (h h0)
theorem mem_candE {g : List (List Int)} (hg : GOk g) {m L : Nat} {U : List NP} {p : List Nat} {v : Nat} : v ∈ candE (leftN g U) m L p ↔ ((netsL g).getD (lastN p) 0).testBit v = true ∧ (lastN p, v) ∉ U ∧ m.testBit v = decide (p.length + 1 = L) ∧ v ∉ p := by
  unfold candE
  rw [List.mem_filter, mem_bitsN (left_lt32 hg U _), left_iff hg, Bool.and_eq_true, beq_iff_eq, Bool.not_eq_true', decide_eq_false_iff_not, and_assoc]
theorem ext_fin {cand : List Nat → List Nat} {fin : List Nat → Bool} : ∀ {d : Nat} {p t : List Nat}, Ext cand fin d p t → fin (p ++ t) = true ∧ t.length = d
  | 0, p, t, h => by
    obtain ⟨rfl, h2⟩ := h
    rw [List.append_nil]; exact ⟨h2, rfl⟩
  | d + 1, p, t, h => by
    obtain ⟨v, t', rfl, -, h3⟩ := h
    have := ext_fin h3
    rw [List.append_assoc] at this
    exact ⟨this.1, by simp [this.2]⟩
/-- Step by step along an ear. -/
theorem ear_step {g : List (List Int)} (hg : GOk g) {m : Nat} {U : List NP} {p t : List Nat} {v : Nat} (h : EarG g m U (p ++ v :: t)) (hp : 0 < p.length) :
    ((netsL g).getD (lastN p) 0).testBit v = true ∧ v ∉ p ∧ (lastN p, v) ∉ U ∧ (m ≠ 0 → m.testBit v = decide (p.length + 1 = (p ++ v :: t).length)) := by
  obtain ⟨h1, h2, h3, h4, h5⟩ := earB_iff.1 h.1
  have hl : (p ++ v :: t).length = p.length + 1 + t.length := by simp; omega
  have e1 : (p ++ v :: t).getD (p.length - 1) 0 = lastN p := getD_left (by omega)
  have e2 : (p ++ v :: t).getD p.length 0 = v := by rw [getD_right (Nat.le_refl _), Nat.sub_self]; rfl
  have hs := h5 ((p ++ v :: t).getD (p.length - 1) 0, (p ++ v :: t).getD (p.length - 1 + 1) 0) (mem_steps.2 (.inl ⟨p.length - 1, by omega, rfl⟩))
  rw [show p.length - 1 + 1 = p.length by omega, e1, e2] at hs
  have hf := free_iff.1 hs
  have hlast : lastN p < g.length := h2 _ (List.mem_append_left _ (getD_mem (by omega)))
  refine ⟨(nets_bitE hg hlast).2 hf.1, fun hc => ?_, hf.2, fun hm => ?_⟩
  · have := (List.nodup_append.1 h3).2.2 v hc v (by simp)
    exact this rfl
  · have := h4 (decide_eq_false hm) p.length (by omega)
    rw [e2, decide_eq_false (show ¬ p.length = 0 by omega), Bool.false_or] at this
    rw [this, decide_eq_decide, hl]; omega
theorem ear_extS {g : List (List Int)} (hg : GOk g) {m L : Nat} {U : List NP} : ∀ {t p : List Nat}, 0 < p.length → EarG g m U (p ++ t) → (p ++ t).length = L → Ext (candS g m U L) (finS g m U) t.length p t
  | [], p, _, h, _ => ⟨rfl, by rw [List.append_nil] at h; exact h.1⟩
  | v :: t, p, hp, h, hL => by
    obtain ⟨h1, h2, h3, h4⟩ := ear_step hg h hp
    refine ⟨v, t, rfl, (mem_candS hg).2 ⟨h1, h2, h3, fun hm e => ?_⟩, ?_⟩
    · rw [h4 hm, decide_eq_decide, hL] at e
      simp at hL; omega
    · exact ear_extS hg (p := p ++ [v]) (by simp) (by rw [List.append_assoc]; exact h) (by rw [List.append_assoc]; exact hL)
theorem ear_extE {g : List (List Int)} (hg : GOk g) {m L : Nat} {U : List NP} (hm : m ≠ 0) : ∀ {t p : List Nat}, 0 < p.length → EarG g m U (p ++ t) → (p ++ t).length = L → Ext (candE (leftN g U) m L) anyP t.length p t
  | [], p, _, h, _ => ⟨rfl, rfl⟩
  | v :: t, p, hp, h, hL => by
    obtain ⟨h1, h2, h3, h4⟩ := ear_step hg h hp
    refine ⟨v, t, rfl, (mem_candE hg).2 ⟨h1, h3, by rw [h4 hm, hL], h2⟩, ?_⟩
    exact ear_extE hg hm (p := p ++ [v]) (by simp) (by rw [List.append_assoc]; exact h) (by rw [List.append_assoc]; exact hL)
/-- As far as the program is. -/
structure PreE (g : List (List Int)) (m : Nat) (U : List NP) (L : Nat) (p : List Nat) : Prop where
  ne : 0 < p.length
  lt : ∀ a ∈ p, a < g.length
  nd : p.Nodup
  start : m.testBit (p.getD 0 0) = true
  inner : ∀ i, 0 < i → i < p.length → m.testBit (p.getD i 0) = decide (i + 1 = L)
  steps : ∀ s ∈ stepsN p false, freeB g U s = true
theorem PreE.one {g : List (List Int)} {m L v : Nat} {U : List NP} (hv : v < g.length) (hm : m.testBit v = true) : PreE g m U L [v] :=
  ⟨by simp, fun a ha => by simp at ha; omega, by simp, by simpa using hm, fun i h1 h2 => by simp at h2; omega, fun s hs => by simp [stepsN] at hs⟩
theorem PreE.snoc {g : List (List Int)} (hg : GOk g) {m L v : Nat} {U : List NP} {p : List Nat} (h : PreE g m U L p) (hv : v ∈ candE (leftN g U) m L p) : PreE g m U L (p ++ [v]) := by
  obtain ⟨h1, h2, h3, h4⟩ := (mem_candE hg).1 hv
  have hs := nets_symN hg h1
  have hp := h.ne
  refine ⟨by simp, fun a ha => ?_, ?_, by rw [getD_left hp]; exact h.start, fun i hi1 hi2 => ?_, fun s hs2 => ?_⟩
  · rcases List.mem_append.1 ha with ha | ha
    · exact h.lt a ha
    · simp at ha; subst ha; exact hs.2.1
  · rw [List.nodup_append]
    exact ⟨h.nd, by simp, fun a ha b hb => by simp at hb; subst hb; exact fun e => h4 (e ▸ ha)⟩
  · rw [List.length_append, List.length_singleton] at hi2
    by_cases e : i = p.length
    · subst e
      rw [getD_right (Nat.le_refl _), Nat.sub_self]
      exact h3
    · rw [getD_left (by omega)]
      exact h.inner i hi1 (by omega)
  · rcases mem_steps.1 hs2 with ⟨i, hi, rfl⟩ | ⟨hc, -⟩
    · rw [List.length_append, List.length_singleton] at hi
      by_cases e : i + 1 = p.length
      · have e1 : (p ++ [v]).getD i 0 = lastN p := by
          rw [getD_left (by omega), show i = p.length - 1 by omega]; rfl
        have e2 : (p ++ [v]).getD (i + 1) 0 = v := by rw [getD_right (by omega), e, Nat.sub_self]; rfl
        rw [e1, e2]
        exact free_iff.2 ⟨(nets_bitE hg hs.1).1 h1, h2⟩
      · rw [getD_left (by omega), getD_left (by omega)]
        exact h.steps _ (mem_steps.2 (.inl ⟨i, by omega, rfl⟩))
    · cases hc
theorem PreE.ext {g : List (List Int)} (hg : GOk g) {m L : Nat} {U : List NP} : ∀ {d : Nat} {p t : List Nat}, PreE g m U L p → Ext (candE (leftN g U) m L) anyP d p t → PreE g m U L (p ++ t)
  | 0, p, t, h, he => by
    obtain ⟨rfl, -⟩ := he
    rw [List.append_nil]; exact h
  | d + 1, p, t, h, he => by
    obtain ⟨v, t', rfl, h2, h3⟩ := he
    have := (h.snoc hg h2).ext hg h3
    rwa [List.append_assoc] at this
theorem PreE.ear {g : List (List Int)} {m L : Nat} {U : List NP} {q : List Nat} (h : PreE g m U L q) (hL : q.length = L) (h2 : 2 ≤ L) : EarG g m U q := by
  have hm : m ≠ 0 := fun e => by have := h.start; rw [e, Nat.zero_testBit] at this; cases this
  refine ⟨?_, fun e => absurd e hm⟩
  rw [decide_eq_false hm]
  refine earB_iff.2 ⟨by simp; omega, h.lt, h.nd, fun _ i hi => ?_, h.steps⟩
  by_cases e : i = 0
  · subst e; rw [h.start]; simp
  · rw [h.inner i (by omega) hi, decide_eq_false e, Bool.false_or, decide_eq_decide]; omega
/-- Where an ear begins. -/
def fromN (m : Nat) : List Nat := if m = 0 then [0] else bitsN m
theorem from_sorted (m : Nat) : (fromN m).Pairwise (· < ·) := by
  unfold fromN
  split
  · simp
  · exact bitsN_sorted m
theorem ear_from {g : List (List Int)} (hg : GOk g) {m : Nat} {U : List NP} {q : List Nat} (hm : m < 2 ^ g.length) (h : EarG g m U q) : 2 ≤ q.length ∧ q.length ≤ g.length ∧ q.getD 0 0 ∈ fromN m := by
  obtain ⟨h1, h2, h3, h4, -⟩ := earB_iff.1 h.1
  have h5 : 2 ≤ q.length := by split at h1 <;> omega
  refine ⟨h5, ?_, ?_⟩
  · have := nodup_lenA h3 (E := List.range g.length) (fun x hx => List.mem_range.2 (h2 x hx))
    simpa using this
  · unfold fromN
    by_cases e : m = 0
    · rw [if_pos e, h.2 e]; simp
    · rw [if_neg e, mem_bitsN (Nat.lt_trans hm (pow16_lt hg.hi)), h4 (decide_eq_false e) 0 (by omega)]; simp
/-- Nothing was found so far. -/
def NoF (G : List Nat → Prop) (F : List Nat) (L k : Nat) : Prop := ∀ q, G q → L < q.length ∨ (L = q.length ∧ q.getD 0 0 ∈ F.drop k)
theorem NoF.start {G : List Nat → Prop} {F : List Nat} {L : Nat} (h : ∀ q, G q → L ≤ q.length ∧ q.getD 0 0 ∈ F) : NoF G F L 0 := fun q hq => by
  obtain ⟨h1, h2⟩ := h q hq
  by_cases e : L = q.length
  · exact .inr ⟨e, h2⟩
  · exact .inl (by omega)
theorem NoF.next {G : List Nat → Prop} {F : List Nat} {L k : Nat} (h : NoF G F L k) (hk : k < F.length) (hno : ∀ q, G q → q.length = L → q.getD 0 0 = F[k] → False) : NoF G F L (k + 1) := fun q hq => by
  rcases h q hq with h1 | ⟨h1, h2⟩
  · exact .inl h1
  · refine .inr ⟨h1, ?_⟩
    rw [List.drop_eq_getElem_cons hk] at h2
    rcases List.mem_cons.1 h2 with h2 | h2
    · exact (hno q hq h1.symm h2).elim
    · exact h2
theorem NoF.long {G : List Nat → Prop} {F : List Nat} {L : Nat} (h : NoF G F L F.length) (hF : ∀ q, G q → q.getD 0 0 ∈ F) : NoF G F (L + 1) 0 := NoF.start fun q hq => by
  refine ⟨?_, hF q hq⟩
  rcases h q hq with h1 | ⟨h1, h2⟩
  · omega
  · rw [List.drop_length] at h2; cases h2
theorem NoF.least {G : List Nat → Prop} {F : List Nat} {L k : Nat} {q : List Nat} (h : NoF G F L k) (hk : k < F.length) (hs : F.Pairwise (· < ·)) (hL : 0 < L) (hq : G q) (hl : q.length = L) (h0 : q.getD 0 0 = F[k]) (hm : ∀ q', G q' → q'.length = L → q'.getD 0 0 = F[k] → ltN q' q = false) : LeastG G q := by
  refine least_at (L := L) (v := F[k]) (fun q' hq' => ?_) hq hl h0 hL hm
  rcases h q' hq' with h1 | ⟨h1, h2⟩
  · exact .inl h1
  · refine .inr ⟨h1, ?_⟩
    rw [List.drop_eq_getElem_cons hk] at h2
    rcases List.mem_cons.1 h2 with h2 | h2
    · rw [h2]; exact Nat.le_refl _
    · obtain ⟨j, hj, e⟩ := List.getElem_of_mem h2
      rw [List.getElem_drop] at e
      rw [List.pairwise_iff_getElem] at hs
      rw [List.length_drop] at hj
      have := hs k (k + 1 + j) hk (by omega) (by omega)
      omega
theorem split_start {q : List Nat} {v : Nat} (h : 0 < q.length) (h0 : q.getD 0 0 = v) : ∃ t, q = v :: t := by
  match q, h, h0 with
  | a :: t, _, h0 => exact ⟨t, by rw [show a = v from h0]⟩
/-- Found by the reference. -/
theorem foundS {g : List (List Int)} (hg : GOk g) {m L k : Nat} {U : List NP} {q : List Nat} (hk : k < (fromN m).length) (hL : 2 ≤ L) (hno : NoF (EarG g m U) (fromN m) L k) (h : dfsF (candS g m U L) (finS g m U) (L - 1) [(fromN m)[k]] = some q) : LeastG (EarG g m U) q := by
  obtain ⟨t, rfl, he, hm⟩ := dfs_some (candS_sorted _ _ _ _) h
  obtain ⟨h1, h2⟩ := ext_fin he
  refine hno.least hk (from_sorted m) (by omega) ⟨h1, fun e => ?_⟩ (by simp; omega) rfl fun q' hq' hl' h0' => ?_
  · subst e
    show (fromN 0)[k] = 0
    have : ∀ x ∈ fromN 0, x = 0 := by simp [fromN]
    exact this _ (List.getElem_mem _)
  · obtain ⟨t', rfl⟩ := split_start (by omega) h0'
    have hl2 : t'.length = L - 1 := by simp at hl'; omega
    have he' := ear_extS hg (L := L) (t := t') (p := [(fromN m)[k]]) (by simp) (by simpa using hq') (by simpa using hl')
    rw [hl2] at he'
    have := hm t' he'
    rw [← ltN_app [(fromN m)[k]] t' t] at this
    simpa using this
theorem nothingS {g : List (List Int)} (hg : GOk g) {m L k : Nat} {U : List NP} (hk : k < (fromN m).length) (h : dfsF (candS g m U L) (finS g m U) (L - 1) [(fromN m)[k]] = none) : ∀ q, EarG g m U q → q.length = L → q.getD 0 0 = (fromN m)[k] → False := fun q hq hl h0 => by
  obtain ⟨t', rfl⟩ := split_start (by have := (earB_iff.1 hq.1).1; split at this <;> omega) h0
  have hl2 : t'.length = L - 1 := by simp at hl; omega
  have he' := ear_extS hg (L := L) (t := t') (p := [(fromN m)[k]]) (by simp) (by simpa using hq) (by simpa using hl)
  rw [hl2] at he'
  exact dfs_none h t' he'
/-- Found by the program. -/
theorem foundE {g : List (List Int)} (hg : GOk g) {m L k : Nat} {U : List NP} {q : List Nat} (hm0 : m ≠ 0) (hmg : m < 2 ^ g.length) (hk : k < (fromN m).length) (hL : 2 ≤ L) (hno : NoF (EarG g m U) (fromN m) L k) (h : dfsF (candE (leftN g U) m L) anyP (L - 1) [(fromN m)[k]] = some q) : LeastG (EarG g m U) q := by
  obtain ⟨t, rfl, he, hm⟩ := dfs_some (candE_sorted _ _ _) h
  obtain ⟨-, h2⟩ := ext_fin he
  have hb : m.testBit (fromN m)[k] = true := by
    have := List.getElem_mem hk
    unfold fromN at this ⊢
    simp only [if_neg hm0] at this ⊢
    exact (mem_bitsN (Nat.lt_trans hmg (pow16_lt hg.hi))).1 this
  have hpre := (PreE.one (g := g) (U := U) (L := L) (bit_lt_of hmg hb) hb).ext hg he
  refine hno.least hk (from_sorted m) (by omega) (hpre.ear (by simp; omega) hL) (by simp; omega) rfl fun q' hq' hl' h0' => ?_
  obtain ⟨t', rfl⟩ := split_start (by omega) h0'
  have hl2 : t'.length = L - 1 := by simp at hl'; omega
  have he' := ear_extE hg hm0 (L := L) (t := t') (p := [(fromN m)[k]]) (by simp) (by simpa using hq') (by simpa using hl')
  rw [hl2] at he'
  have := hm t' he'
  rw [← ltN_app [(fromN m)[k]] t' t] at this
  simpa using this
theorem nothingE {g : List (List Int)} (hg : GOk g) {m L k : Nat} {U : List NP} (hm0 : m ≠ 0) (hk : k < (fromN m).length) (h : dfsF (candE (leftN g U) m L) anyP (L - 1) [(fromN m)[k]] = none) : ∀ q, EarG g m U q → q.length = L → q.getD 0 0 = (fromN m)[k] → False := fun q hq hl h0 => by
  obtain ⟨t', rfl⟩ := split_start (by have := (earB_iff.1 hq.1).1; split at this <;> omega) h0
  have hl2 : t'.length = L - 1 := by simp at hl; omega
  have he' := ear_extE hg hm0 (L := L) (t := t') (p := [(fromN m)[k]]) (by simp) (by simpa using hq) (by simpa using hl)
  rw [hl2] at he'
  exact dfs_none h t' he'
/-- What was used so far. -/
structure UseI (g : List (List Int)) (m : Nat) (U : List NP) (c : Nat) : Prop where
  inv : EInv g m U
  ends : ∀ s ∈ U, m.testBit s.1 = true ∧ m.testBit s.2 = true
  none_ : m = 0 → U = [] ∧ c = 0
  two : m ≠ 0 → ∃ a b, m.testBit a = true ∧ m.testBit b = true ∧ a ≠ b
  count : m ≠ 0 → U.length + 2 = 2 * popN m + 2 * c
  many : 2 * c ≤ U.length
theorem UseI.start (g : List (List Int)) : UseI g 0 [] 0 := ⟨EInv.start g, by simp, fun _ => ⟨rfl, rfl⟩, fun h => absurd rfl h, fun h => absurd rfl h, by simp⟩
theorem testBit_natMask {q : List Nat} {v : Nat} : (maskL (natsI q)).testBit v = true ↔ v ∈ q := by
  rw [testBit_maskL (fun x hx => by obtain ⟨y, -, rfl⟩ := List.mem_map.1 hx; omega), decide_eq_true_eq]
  unfold natsI
  rw [List.mem_map]
  constructor
  · rintro ⟨y, hy, e⟩
    have : y = v := by omega
    subst this; exact hy
  · intro h; exact ⟨v, h, rfl⟩
theorem pop_list {m : Nat} (hm : m < 4294967296) {l : List Nat} (hn : l.Nodup) (h : ∀ v, m.testBit v = true ↔ v ∈ l) : popN m = l.length := by
  unfold popN
  exact Nat.le_antisymm (nodup_lenA ((bitsN_sorted m).imp fun h => by omega) (fun x hx => (h x).1 ((mem_bitsN hm).1 hx))) (nodup_lenA hn (fun x hx => (mem_bitsN hm).2 ((h x).2 hx)))
theorem UseI.next {g : List (List Int)} (hg : GOk g) {m c : Nat} {U : List NP} (h : UseI g m U c) {q : List Nat} (hq : EarG g m U q) : UseI g (m ||| maskL (natsI q)) (useU U (stepsN q (decide (m = 0)))) (c + 1) ∧ m ||| maskL (natsI q) ≠ 0 := by
  have hb := hq.1
  obtain ⟨h1, h2, h3, h4, h5⟩ := earB_iff.1 hb
  have hno : natsOf (natsI q) = q := by
    unfold natsOf natsI
    rw [List.map_map]
    conv => rhs; rw [← List.map_id q]
    exact List.map_congr_left fun x _ => by simp
  have hi := h.inv.next hg hb
  rw [hno] at hi
  obtain ⟨hi1, hi2, hi3⟩ := hi
  have h6 : 2 ≤ q.length := by split at h1 <;> omega
  have hbit : ∀ v, (m ||| maskL (natsI q)).testBit v = true ↔ m.testBit v = true ∨ v ∈ q := fun v => by rw [Nat.testBit_or, Bool.or_eq_true, testBit_natMask]
  have hlt := Nat.lt_trans hi1.mask (pow16_lt hg.hi)
  have hstep : ∀ s ∈ stepsN q (decide (m = 0)), s.1 ∈ q ∧ s.2 ∈ q := fun s hs => by
    rcases mem_steps.1 hs with ⟨i, hi, rfl⟩ | ⟨-, rfl⟩
    · exact ⟨getD_mem (by omega), getD_mem hi⟩
    · exact ⟨getD_mem (by omega), getD_mem (by omega)⟩
  refine ⟨⟨hi1, fun s hs => ?_, fun e => absurd e hi2, fun _ => ?_, fun _ => ?_, ?_⟩, hi2⟩
  · rw [hbit, hbit]
    rcases mem_useU.1 hs with hs | ⟨t, ht, rfl | rfl⟩
    · exact ⟨.inl (h.ends s hs).1, .inl (h.ends s hs).2⟩
    · exact ⟨.inr (hstep _ ht).1, .inr (hstep _ ht).2⟩
    · exact ⟨.inr (hstep _ ht).2, .inr (hstep _ ht).1⟩
  · refine ⟨q.getD 0 0, q.getD 1 0, (hbit _).2 (.inr (getD_mem (by omega))), (hbit _).2 (.inr (getD_mem (by omega))), fun e => ?_⟩
    have := nodup_getD h3 (show 0 < q.length by omega) (show 1 < q.length by omega) e
    omega
  · rw [useU_len, stepsN_len]
    by_cases hm : m = 0
    · obtain ⟨rfl, rfl⟩ := h.none_ hm
      subst hm
      have hp : popN (0 ||| maskL (natsI q)) = q.length := pop_list hlt h3 (fun v => by rw [hbit v, Nat.zero_testBit]; simp)
      rw [hp]
      simp; omega
    · have hin := h4 (decide_eq_false hm)
      have hm32 := Nat.lt_trans h.inv.mask (pow16_lt hg.hi)
      have hcnt := h.count hm
      have hmq : popN (m ||| maskL (natsI q)) = popN m + (q.length - 2) := by
        have hmid : ((q.drop 1).take (q.length - 2)).length = q.length - 2 := by rw [List.length_take, List.length_drop]; omega
        have hget : ∀ j (hj : j < ((q.drop 1).take (q.length - 2)).length), ((q.drop 1).take (q.length - 2))[j] = q.getD (j + 1) 0 := fun j hj => by
          rw [hmid] at hj
          rw [List.getElem_take, List.getElem_drop]
          simp [show j + 1 < q.length by omega, Nat.add_comm]
        have := pop_list hlt (l := bitsN m ++ (q.drop 1).take (q.length - 2)) ?_ (fun v => ?_)
        · rw [this, List.length_append, hmid]; rfl
        · rw [List.nodup_append]
          refine ⟨(bitsN_sorted m).imp fun h => by omega, (h3.sublist ((List.take_sublist _ _).trans (List.drop_sublist _ _))), fun a ha b hb2 e => ?_⟩
          subst e
          obtain ⟨j, hj, e⟩ := List.getElem_of_mem hb2
          rw [hget j hj] at e
          rw [hmid] at hj
          have := hin (j + 1) (by omega)
          rw [e, (mem_bitsN hm32).1 ha, decide_eq_false (by omega), decide_eq_false (by omega)] at this
          cases this
        · rw [hbit v, List.mem_append, mem_bitsN hm32]
          constructor
          · rintro (hv | hv)
            · exact .inl hv
            · obtain ⟨i, hi, rfl⟩ := List.getElem_of_mem hv
              have e : q.getD i 0 = q[i] := by simp [hi]
              by_cases e0 : i = 0
              · left
                have := hin i hi
                rw [e, decide_eq_true e0, Bool.true_or] at this
                exact this
              · by_cases e1 : i = q.length - 1
                · left
                  have := hin i hi
                  rw [e, decide_eq_true e1, Bool.or_true] at this
                  exact this
                · right
                  rw [← e]
                  have := hget (i - 1) (by rw [hmid]; omega)
                  rw [show i - 1 + 1 = i by omega] at this
                  rw [← this]; exact List.getElem_mem _
          · rintro (hv | hv)
            · exact .inl hv
            · exact .inr (List.mem_of_mem_drop (List.mem_of_mem_take hv))
      rw [hmq, decide_eq_false hm]
      simp only [Bool.false_eq_true, if_false]
      omega
  · rw [useU_len, stepsN_len]
    have := h.many
    omega
/-- The ears one after the other. -/
noncomputable def runE (g : List (List Int)) : Nat → Nat → List NP → List (List Nat)
  | 0, _, _ => []
  | k + 1, m, U => if U.length = endsN g then [] else pickG (EarG g m U) :: runE g k (m ||| maskL (natsI (pickG (EarG g m U)))) (useU U (stepsN (pickG (EarG g m U)) (decide (m = 0))))
noncomputable def earsL (g : List (List Int)) : List (List Nat) := if twoB g = true then runE g 600 0 [] else []
theorem UseI.ex {g : List (List Int)} (h : TwoCon g) {m c : Nat} {U : List NP} (hI : UseI g m U c) (hl : U.length ≠ endsN g) : ∃ q, EarG g m U q := by
  by_cases hm : m = 0
  · subst hm
    rw [(hI.none_ rfl).1]
    exact first_ear h
  · obtain ⟨a, b, ha, hb, hab⟩ := hI.two hm
    exact next_ear h hI.inv hI.ends ha hb hab hl
/-- No ear is left when all edges are used. -/
theorem UseI.full {g : List (List Int)} (hg : GOk g) {m c : Nat} {U : List NP} (hI : UseI g m U c) (hl : U.length = endsN g) (q : List Nat) : ¬ EarG g m U q := fun hq => by
  obtain ⟨h1, h2, h3, h4, h5⟩ := earB_iff.1 hq.1
  have h6 : 2 ≤ q.length := by split at h1 <;> omega
  have hs := free_iff.1 (h5 (q.getD 0 0, q.getD 1 0) (mem_steps.2 (.inl ⟨0, by omega, rfl⟩)))
  exact hs.2 ((hI.inv.full hg).1 hl _ ((mem_allP hg).2 ⟨h2 _ (getD_mem (by omega)), hs.1⟩))
theorem run_step {g : List (List Int)} {k m : Nat} {U : List NP} {q : List Nat} (hl : U.length ≠ endsN g) (hq : LeastG (EarG g m U) q) : runE g (k + 1) m U = q :: runE g k (m ||| maskL (natsI q)) (useU U (stepsN q (decide (m = 0)))) := by
  rw [runE, if_neg hl, pick_some hq]
theorem run_end {g : List (List Int)} {k m : Nat} {U : List NP} (hl : U.length = endsN g) : runE g k m U = [] := by
  cases k with
  | zero => rfl
  | succ k => rw [runE, if_pos hl]
end Go.Proofs.YtgkkgagnoeedaaaDoor
