/- Bridges: what they are; the program's bridgesOf. -/
import Derived.Test.YtbpjbjeglcphcaaOwnS
import Derived.Test.YtbpjbjeglcphcaaTrail
import Derived.Test.YtbpjbjeglcphcaaEdge
import Derived.Test.YtbpjbjeglcphcaaMark4
import Derived.Test.YtbpjbjeglcphcaaCutG
namespace Go.Proofs.Ytbpjbjeglcphcaa
open Go.RowKit
noncomputable def bridgeB (g : List (List Int)) (u v : Nat) : Bool := !(reachN (cutN (netsL g) u v) (firstN g.length) u).testBit v
noncomputable def isBr (g : List (List Int)) (e : List Int) : Bool := bridgeB g (e.getD 0 0).toNat (e.getD 1 0).toNat
noncomputable def bridgesL (g : List (List Int)) : List (List Int) := (edgesL g).filter (isBr g)
theorem orAt_bit {a : List Nat} {u x y v : Nat} (hu : u < a.length) : ((orAt a u x).getD y 0).testBit v = ((a.getD y 0).testBit v || (decide (u = y) && decide (x = v))) := by
  unfold orAt
  by_cases e : u = y
  · subst e
    have : (a.set u (a.getD u 0 ||| bit x)).getD u 0 = a.getD u 0 ||| bit x := by simp [hu]
    rw [this, Nat.testBit_or, testBit_bit, decide_eq_true rfl, Bool.true_and]
  · have : (a.set u (a.getD u 0 ||| bit x)).getD y 0 = a.getD y 0 := by
      generalize a.getD u 0 ||| bit x = z
      simp [e]
    rw [this, decide_eq_false e]; simp
theorem join_cut {a : List Nat} {u x : Nat} (ha : ∀ m ∈ a, m < 4294967296) (hu : u < a.length) (hx : x < a.length) (h16 : a.length ≤ 16) (h1 : (a.getD u 0).testBit x = true) (h2 : (a.getD x 0).testBit u = true) : joinN (cutN a u x) u x = a := by
  apply list_bits
  · rw [joinN_len, cutN_len]
  · intro y hy v
    unfold joinN
    rw [orAt_bit (by rw [orAt_len, cutN_len]; exact hx), orAt_bit (by rw [cutN_len]; exact hu), cutN_bit ha hu hx h16]
    by_cases e1 : (y, v) = (u, x)
    · obtain ⟨rfl, rfl⟩ := Prod.mk.inj e1
      rw [h1]; simp
    · by_cases e2 : (y, v) = (x, u)
      · obtain ⟨rfl, rfl⟩ := Prod.mk.inj e2
        rw [h2]; simp
      · rw [decide_eq_false e1, decide_eq_false e2]
        have a1 : ¬ (u = y ∧ x = v) := fun h => e1 (by rw [h.1, h.2])
        have a2 : ¬ (x = y ∧ u = v) := fun h => e2 (by rw [h.1, h.2])
        have b1 : (decide (u = y) && decide (x = v)) = false := by rw [Bool.and_eq_false_iff, decide_eq_false_iff_not, decide_eq_false_iff_not]; exact Classical.not_and_iff_not_or_not.1 a1
        have b2 : (decide (x = y) && decide (u = v)) = false := by rw [Bool.and_eq_false_iff, decide_eq_false_iff_not, decide_eq_false_iff_not]; exact Classical.not_and_iff_not_or_not.1 a2
        rw [b1, b2]; simp
theorem bridges_small {g : List (List Int)} (hg : GOk g) : SmallR (bridgesL g) 1048576 := by
  have h := edges_small hg
  refine ⟨by have := List.length_filter_le (isBr g) (edgesL g); have := h.1; unfold bridgesL; omega, fun i hi _ => ?_⟩
  have hm : (bridgesL g)[i] ∈ edgesL g := (List.mem_filter.1 (List.getElem_mem hi)).1
  obtain ⟨j, hj, e⟩ := List.getElem_of_mem hm
  rw [← e]; exact h.2 j hj hj
/-- The chosen ones among the first k. -/
def chosen (p : List Int → Bool) (E : List (List Int)) (k : Nat) : List Nat := (List.range k).filter fun i => p (E.getD i [])
theorem chosen_yes {p : List Int → Bool} {E : List (List Int)} {k : Nat} (h : p (E.getD k []) = true) : chosen p E (k + 1) = chosen p E k ++ [k] := by
  unfold chosen; rw [List.range_succ, List.filter_append]; simp only [List.filter_cons, h, if_true, List.filter_nil]
theorem chosen_no {p : List Int → Bool} {E : List (List Int)} {k : Nat} (h : p (E.getD k []) = false) : chosen p E (k + 1) = chosen p E k := by
  unfold chosen; rw [List.range_succ, List.filter_append]; simp only [List.filter_cons, h, Bool.false_eq_true, if_false, List.filter_nil, List.append_nil]
theorem chosen_lt {p : List Int → Bool} {E : List (List Int)} {k i : Nat} (h : i ∈ chosen p E k) : i < k := List.mem_range.1 (List.mem_filter.1 h).1
theorem chosen_len (p : List Int → Bool) (E : List (List Int)) (k : Nat) : (chosen p E k).length ≤ k := by
  have := List.length_filter_le (fun i => p (E.getD i [])) (List.range k)
  rw [List.length_range] at this; exact this
theorem chosen_sorted (p : List Int → Bool) (E : List (List Int)) (k : Nat) : (chosen p E k).Pairwise (· < ·) := List.Pairwise.filter _ List.pairwise_lt_range
theorem chosen_all (p : List Int → Bool) (E : List (List Int)) : ∀ k, k ≤ E.length → (chosen p E k).map (fun i => E.getD i []) = (E.take k).filter p
  | 0, _ => by simp [chosen]
  | k + 1, hk => by
    have e : E.getD k [] = E[k] := by simp; rw [List.getElem?_eq_getElem (by omega)]; rfl
    rw [List.take_succ_eq_append_getElem (by omega), List.filter_append, ← chosen_all p E k (by omega)]
    cases h : p (E.getD k []) with
    | true => rw [chosen_yes h, List.map_append, ← e]; simp only [List.map_cons, List.map_nil, List.filter_cons, h, if_true, List.filter_nil]
    | false => rw [chosen_no h, ← e]; simp only [List.filter_cons, h, Bool.false_eq_true, if_false, List.filter_nil, List.append_nil]
theorem edge_at {g : List (List Int)} (hg : GOk g) {k : Nat} (hk : k < (edgesL g).length) : ∃ u z : Nat, (edgesL g)[k] = [(u : Int), (z : Int)] ∧ u < g.length ∧ z < g.length ∧ ((netsL g).getD u 0).testBit z = true ∧ ((netsL g).getD z 0).testBit u = true := by
  obtain ⟨u, hu, v, hv, -, e⟩ := mem_edgesTo.1 (show (edgesL g)[k] ∈ edgesTo g g.length from List.getElem_mem hk)
  have e1 : g.getD u [] = g[u] := by simp [hu]
  rw [e1] at hv
  have h1 := hg.ge hu v hv
  obtain ⟨z, rfl⟩ := Int.eq_ofNat_of_zero_le h1.1
  rw [← e1] at hv
  obtain ⟨h2, h3, -⟩ := hg.symD hu hv
  refine ⟨u, z, e, hu, h2, ?_, ?_⟩
  · rw [nets_bit2 hg hu]; exact decide_eq_true hv
  · rw [nets_bit2 hg h2]; exact decide_eq_true h3
