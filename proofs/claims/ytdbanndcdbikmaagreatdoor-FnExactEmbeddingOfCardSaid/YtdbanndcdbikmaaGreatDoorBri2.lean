/- A graph without an edge, built by the reference. -/
import Derived.Test.YtdbanndcdbikmaaGreatDoorLoopL
import Derived.Test.YtdbanndcdbikmaaGreatDoorDistM
import Derived.Test.YtdbanndcdbikmaaGreatDoorEdge
import Derived.Test.YtdbanndcdbikmaaGreatDoorOwnS
import Derived.Test.YtdbanndcdbikmaaGreatDoorMark4
import Derived.Test.YtdbanndcdbikmaaGreatDoorReach2
import Derived.Test.YtdbanndcdbikmaaGreatDoorFit4
namespace Go.Proofs.YtdbanndcdbikmaaGreatDoor
open Go.RowKit
theorem cutN_lt {a : List Nat} {u x : Nat} (ha : ∀ m ∈ a, m < 4294967296) : ∀ m ∈ cutN a u x, m < 4294967296 := cutAt_lt (cutAt_lt ha)
noncomputable def cutG (g : List (List Int)) (u z : Nat) : List (List Int) := (cutN (netsL g) u z).map bitsI
theorem cutG_len (g : List (List Int)) (u z : Nat) : (cutG g u z).length = g.length := by rw [cutG, List.length_map, cutN_len, netsL_len]
theorem cutN_get {a : List Nat} {u z x : Nat} (ha : ∀ m ∈ a, m < 4294967296) (hu : u < a.length) (hz : z < a.length) (h16 : a.length ≤ 16) (hne : u ≠ z) : (cutN a u z).getD x 0 = if x = u then andN (a.getD u 0) (bit z) else if x = z then andN (a.getD z 0) (bit u) else a.getD x 0 := by
  apply Nat.eq_of_testBit_eq
  intro v
  rw [cutN_bit ha hu hz h16]
  have hb : ∀ y i, y < 32 → (andN (a.getD i 0) (bit y)).testBit v = ((a.getD i 0).testBit v && !decide (y = v)) := fun y i hy => by
    rw [testBit_andN (nat_getD ha i) (bit_lt hy), testBit_bit]
  by_cases e1 : x = u
  · subst e1
    rw [if_pos rfl, hb z x (by omega)]
    congr 2
    rw [Bool.eq_iff_iff, Bool.or_eq_true, decide_eq_true_eq, decide_eq_true_eq, decide_eq_true_eq]
    constructor
    · rintro (h | h)
      · exact (congrArg Prod.snd h).symm
      · exact absurd (congrArg Prod.fst h) hne
    · intro h; left; rw [h]
  · rw [if_neg e1]
    by_cases e2 : x = z
    · subst e2
      rw [if_pos rfl, hb u x (by omega)]
      congr 2
      rw [Bool.eq_iff_iff, Bool.or_eq_true, decide_eq_true_eq, decide_eq_true_eq, decide_eq_true_eq]
      constructor
      · rintro (h | h)
        · exact absurd (congrArg Prod.fst h) e1
        · exact (congrArg Prod.snd h).symm
      · intro h; right; rw [h]
    · rw [if_neg e2]
      have a1 : decide ((x, v) = (u, z)) = false := decide_eq_false fun h => e1 (congrArg Prod.fst h)
      have a2 : decide ((x, v) = (z, u)) = false := decide_eq_false fun h => e2 (congrArg Prod.fst h)
      rw [a1, a2]; simp
theorem cutG_row {g : List (List Int)} {u z x : Nat} (hx : x < (cutG g u z).length) : (cutG g u z)[x] = bitsI ((cutN (netsL g) u z).getD x 0) := by
  have h : x < (cutN (netsL g) u z).length := by simpa [cutG] using hx
  simp [cutG, h]
theorem maskL_bitsB {m : Nat} (hm : m < 4294967296) : maskL (bitsI m) = m := by
  apply Nat.eq_of_testBit_eq
  intro i
  rw [testBit_maskL (fun x hx => ((mem_bitsI hm).1 hx).1), Bool.eq_iff_iff, decide_eq_true_eq, mem_bitsI hm, Int.toNat_natCast]
  exact ⟨fun h => h.2, fun h => ⟨by omega, h⟩⟩
theorem nets_bitsB {M : List Nat} (h : ∀ m ∈ M, m < 4294967296) : netsL (M.map bitsI) = M := by
  unfold netsL
  rw [List.map_map]
  conv => rhs; rw [← List.map_id M]
  exact List.map_congr_left fun m hm => maskL_bitsB (h m hm)
theorem netsL_cutG {g : List (List Int)} (hg : GOk g) (u z : Nat) : netsL (cutG g u z) = cutN (netsL g) u z := nets_bitsB (cutN_lt (netsL_lt hg))
/-- A list of masks makes a right graph. -/
theorem gok_bits {M : List Nat} {n : Nat} (hl : M.length = n) (h1 : 1 ≤ n) (h16 : n ≤ 16) (hlt : ∀ m ∈ M, m < 2 ^ n) (hsym : ∀ x y, x < n → y < n → (M.getD x 0).testBit y = true → (M.getD y 0).testBit x = true) (hirr : ∀ x, x < n → (M.getD x 0).testBit x = false) : GOk (M.map bitsI) := by
  have hn32 : ∀ m ∈ M, m < 4294967296 := fun m hm => Nat.lt_trans (hlt m hm) (pow_lt32 (by omega))
  have hrow : ∀ v (h : v < (M.map bitsI).length), (M.map bitsI)[v] = bitsI (M.getD v 0) ∧ M.getD v 0 < 2 ^ n := fun v h => by
    have h2 : v < M.length := by simpa using h
    have e : M.getD v 0 = M[v] := by simp [h2]
    exact ⟨by rw [e]; simp, by rw [e]; exact hlt _ (List.getElem_mem _)⟩
  have hm : ∀ v (h : v < (M.map bitsI).length) (x : Int), x ∈ (M.map bitsI)[v] → 0 ≤ x ∧ x < n ∧ (M.getD v 0).testBit x.toNat = true := fun v h x hx => by
    obtain ⟨e, hl2⟩ := hrow v h
    rw [e, mem_bitsI (Nat.lt_trans hl2 (pow_lt32 (by omega)))] at hx
    have := bit_lt_of hl2 hx.2
    exact ⟨hx.1, by omega, hx.2⟩
  refine ⟨by rw [List.length_map]; omega, by rw [List.length_map]; omega, fun v hv => ?_, fun v hv hx => ?_, fun v hv u hu => ?_⟩
  · rw [List.length_map, hl]
    refine sorted_rise ?_ (fun x hx => ⟨(hm v hv x hx).1, (hm v hv x hx).2.1⟩)
    rw [(hrow v hv).1]; exact bitsI_sorted _
  · have h2 := (hm v hv _ hx).2.2
    rw [Int.toNat_natCast, hirr v (by rw [List.length_map] at hv; omega)] at h2; cases h2
  · obtain ⟨h2, h3, h4⟩ := hm v hv u hu
    have hvn : v < n := by rw [List.length_map] at hv; omega
    have hul : u.toNat < (M.map bitsI).length := by rw [List.length_map]; omega
    have e : (M.map bitsI).getD u.toNat [] = (M.map bitsI)[u.toNat] := by simp; rw [List.getElem?_eq_getElem (by rw [List.length_map] at hul; omega)]; rfl
    rw [e, (hrow _ hul).1, mem_bitsI (Nat.lt_trans (hrow _ hul).2 (pow_lt32 (by omega))), Int.toNat_natCast]
    exact ⟨by omega, hsym v u.toNat hvn (by omega) h4⟩
theorem cutG_ok {g : List (List Int)} (hg : GOk g) {u z : Nat} (hu : u < g.length) (hz : z < g.length) : GOk (cutG g u z) := by
  have h16 := hg.hi
  have hal := netsL_lt hg
  have hb : ∀ y v, ((cutN (netsL g) u z).getD y 0).testBit v = (((netsL g).getD y 0).testBit v && !(decide ((y, v) = (u, z)) || decide ((y, v) = (z, u)))) := fun y v => cutN_bit hal (by rw [netsL_len]; exact hu) (by rw [netsL_len]; exact hz) (by rw [netsL_len]; exact h16)
  refine gok_bits (n := g.length) (by rw [cutN_len, netsL_len]) hg.lo h16 (fun m hm => ?_) (fun x y hx hy h => ?_) (fun x hx => ?_)
  · obtain ⟨i, hi, rfl⟩ := List.getElem_of_mem hm
    have hi2 : i < g.length := by rw [cutN_len, netsL_len] at hi; exact hi
    refine lt_bits fun j hj => ?_
    have e : (cutN (netsL g) u z).getD i 0 = (cutN (netsL g) u z)[i] := by simp [hi]
    rw [← e, hb, Bool.and_eq_true, nets_bit2 hg hi2, decide_eq_true_eq] at hj
    exact (hg.symD hi2 hj.1).1
  · rw [hb, Bool.and_eq_true, nets_bit2 hg hx, decide_eq_true_eq] at h
    have h2 := hg.symD hx h.1
    rw [hb, nets_bit2 hg hy, decide_eq_true h2.2.1, Bool.true_and]
    have h3 := h.2
    rw [Bool.not_eq_true', Bool.or_eq_false_iff, decide_eq_false_iff_not, decide_eq_false_iff_not] at h3
    rw [Bool.not_eq_true', Bool.or_eq_false_iff, decide_eq_false_iff_not, decide_eq_false_iff_not]
    exact ⟨fun e => h3.2 (by rw [(Prod.mk.inj e).1, (Prod.mk.inj e).2]), fun e => h3.1 (by rw [(Prod.mk.inj e).1, (Prod.mk.inj e).2])⟩
  · rw [hb, nets_bit2 hg hx, Bool.and_eq_false_iff]
    left
    refine decide_eq_false fun h => (hg.symD hx h).2.2 rfl
noncomputable def bridgeB (g : List (List Int)) (u v : Nat) : Bool := !(reachN (cutN (netsL g) u v) (firstN g.length) u).testBit v
noncomputable def isBr (g : List (List Int)) (e : List Int) : Bool := bridgeB g (e.getD 0 0).toNat (e.getD 1 0).toNat
noncomputable def bridgesL (g : List (List Int)) : List (List Int) := (edgesL g).filter (isBr g)
theorem orAt_bit {a : List Nat} {u x y v : Nat} (hu : u < a.length) : ((orAt a u x).getD y 0).testBit v = ((a.getD y 0).testBit v || (decide (u = y) && decide (x = v))) := by
  unfold orAt
  by_cases e : u = y
  · subst e
    have : (a.set u (a.getD u 0 ||| bit x)).getD u 0 = a.getD u 0 ||| bit x := by simp [hu]
    rw [this, Nat.testBit_or, testBit_bit, decide_eq_true rfl, Bool.true_and]
  · have : (a.set u (a.getD u 0 ||| bit x)).getD y 0 = a.getD y 0 := by
      generalize a.getD u 0 ||| bit x = z
      simp [e]
    rw [this, decide_eq_false e]; simp
theorem join_cut {a : List Nat} {u x : Nat} (ha : ∀ m ∈ a, m < 4294967296) (hu : u < a.length) (hx : x < a.length) (h16 : a.length ≤ 16) (h1 : (a.getD u 0).testBit x = true) (h2 : (a.getD x 0).testBit u = true) : joinN (cutN a u x) u x = a := by
  apply list_bits
  · rw [joinN_len, cutN_len]
  · intro y hy v
    unfold joinN
    rw [orAt_bit (by rw [orAt_len, cutN_len]; exact hx), orAt_bit (by rw [cutN_len]; exact hu), cutN_bit ha hu hx h16]
    by_cases e1 : (y, v) = (u, x)
    · obtain ⟨rfl, rfl⟩ := Prod.mk.inj e1
      rw [h1]; simp
    · by_cases e2 : (y, v) = (x, u)
      · obtain ⟨rfl, rfl⟩ := Prod.mk.inj e2
        rw [h2]; simp
      · rw [decide_eq_false e1, decide_eq_false e2]
        have a1 : ¬ (u = y ∧ x = v) := fun h => e1 (by rw [h.1, h.2])
        have a2 : ¬ (x = y ∧ u = v) := fun h => e2 (by rw [h.1, h.2])
        have b1 : (decide (u = y) && decide (x = v)) = false := by rw [Bool.and_eq_false_iff, decide_eq_false_iff_not, decide_eq_false_iff_not]; exact Classical.not_and_iff_not_or_not.1 a1
        have b2 : (decide (x = y) && decide (u = v)) = false := by rw [Bool.and_eq_false_iff, decide_eq_false_iff_not, decide_eq_false_iff_not]; exact Classical.not_and_iff_not_or_not.1 a2
        rw [b1, b2]; simp
theorem bridges_small {g : List (List Int)} (hg : GOk g) : SmallR (bridgesL g) 1048576 := by
  have h := edges_small hg
  refine ⟨by have := List.length_filter_le (isBr g) (edgesL g); have := h.1; unfold bridgesL; omega, fun i hi _ => ?_⟩
  have hm : (bridgesL g)[i] ∈ edgesL g := (List.mem_filter.1 (List.getElem_mem hi)).1
  obtain ⟨j, hj, e⟩ := List.getElem_of_mem hm
  rw [← e]; exact h.2 j hj hj
/-- The chosen ones among the first k. -/
def chosen (p : List Int → Bool) (E : List (List Int)) (k : Nat) : List Nat := (List.range k).filter fun i => p (E.getD i [])
theorem chosen_yes {p : List Int → Bool} {E : List (List Int)} {k : Nat} (h : p (E.getD k []) = true) : chosen p E (k + 1) = chosen p E k ++ [k] := by
  unfold chosen; rw [List.range_succ, List.filter_append]; simp only [List.filter_cons, h, if_true, List.filter_nil]
theorem chosen_no {p : List Int → Bool} {E : List (List Int)} {k : Nat} (h : p (E.getD k []) = false) : chosen p E (k + 1) = chosen p E k := by
  unfold chosen; rw [List.range_succ, List.filter_append]; simp only [List.filter_cons, h, Bool.false_eq_true, if_false, List.filter_nil, List.append_nil]
theorem chosen_lt {p : List Int → Bool} {E : List (List Int)} {k i : Nat} (h : i ∈ chosen p E k) : i < k := List.mem_range.1 (List.mem_filter.1 h).1
theorem chosen_len (p : List Int → Bool) (E : List (List Int)) (k : Nat) : (chosen p E k).length ≤ k := by
  have := List.length_filter_le (fun i => p (E.getD i [])) (List.range k)
  rw [List.length_range] at this; exact this
theorem chosen_sorted (p : List Int → Bool) (E : List (List Int)) (k : Nat) : (chosen p E k).Pairwise (· < ·) := List.Pairwise.filter _ List.pairwise_lt_range
theorem chosen_all (p : List Int → Bool) (E : List (List Int)) : ∀ k, k ≤ E.length → (chosen p E k).map (fun i => E.getD i []) = (E.take k).filter p
  | 0, _ => by simp [chosen]
  | k + 1, hk => by
    have e : E.getD k [] = E[k] := by simp; rw [List.getElem?_eq_getElem (by omega)]; rfl
    rw [List.take_succ_eq_append_getElem (by omega), List.filter_append, ← chosen_all p E k (by omega)]
    cases h : p (E.getD k []) with
    | true => rw [chosen_yes h, List.map_append, ← e]; simp only [List.map_cons, List.map_nil, List.filter_cons, h, if_true, List.filter_nil]
    | false => rw [chosen_no h, ← e]; simp only [List.filter_cons, h, Bool.false_eq_true, if_false, List.filter_nil, List.append_nil]
theorem edge_at {g : List (List Int)} (hg : GOk g) {k : Nat} (hk : k < (edgesL g).length) : ∃ u z : Nat, (edgesL g)[k] = [(u : Int), (z : Int)] ∧ u < g.length ∧ z < g.length ∧ ((netsL g).getD u 0).testBit z = true ∧ ((netsL g).getD z 0).testBit u = true := by
  obtain ⟨u, hu, v, hv, -, e⟩ := mem_edgesTo.1 (show (edgesL g)[k] ∈ edgesTo g g.length from List.getElem_mem hk)
  have e1 : g.getD u [] = g[u] := by simp [hu]
  rw [e1] at hv
  have h1 := hg.ge hu v hv
  obtain ⟨z, rfl⟩ := Int.eq_ofNat_of_zero_le h1.1
  rw [← e1] at hv
  obtain ⟨h2, h3, -⟩ := hg.symD hu hv
  refine ⟨u, z, e, hu, h2, ?_, ?_⟩
  · rw [nets_bit2 hg hu]; exact decide_eq_true hv
  · rw [nets_bit2 hg h2]; exact decide_eq_true h3
def triV (f : Tri) : Value := .agg #[.int .i64 f.a, .int .i64 f.b, .int .i64 f.c]
def rowF (v : Nat) (L : List Nat) : Option Tri :=
  if 2 < L.length then none
  else some ⟨v, if 0 < L.length then (L.getD 0 0 : Nat) else -1, if 1 < L.length then (L.getD 1 0 : Nat) else -1⟩
theorem foldF_row (a : List Nat) (left v : Nat) : foldF a left v = rowF v (nearN a left v) := rfl
def TriP (f : Option Tri) (w : World) (e : Ending) (w' : World) : Prop := e = .returned (.tuple #[triV (f.getD ⟨0, 0, 0⟩), .bool f.isSome]) ∧ Below w.heap.size w w'
