/- Is a set connected? By the reference. -/
import Derived.Test.YtgkkgagnoeedaaaDoorFar
import Derived.Test.YtgkkgagnoeedaaaDoorReach
namespace Go.Proofs.YtgkkgagnoeedaaaDoor
open Go.RowKit
/-- The vertices with a distance. -/
def hasD (D : Nat → Int) (n : Nat) : List Nat := (List.range n).filter fun u => decide (0 ≤ D u)
theorem hasD_succ (D : Nat → Int) (k : Nat) : hasD D (k + 1) = if 0 ≤ D k then hasD D k ++ [k] else hasD D k := by
  unfold hasD
  rw [List.range_succ, List.filter_append]
  by_cases h : 0 ≤ D k <;> simp [h]
theorem hasD_len (D : Nat → Int) (n : Nat) : (hasD D n).length ≤ n := by
  have := List.length_filter_le (fun u => decide (0 ≤ D u)) (List.range n)
  simpa [hasD] using this
theorem dist_has {a : List Nat} {wi v n : Nat} {D : Nat → Int} (h : IsDist a wi v n D) {u : Nat} (hu : u < n) : 0 ≤ D u ↔ ∃ k, (ballN a wi v k).testBit u = true := by
  rcases h u hu with ⟨h1, h2⟩ | ⟨k, h1, h2, h3⟩
  · rw [h1]
    constructor
    · intro h; omega
    · rintro ⟨k, hk⟩; rw [h2 k] at hk; cases hk
  · rw [h1]
    exact ⟨fun _ => ⟨k, h2⟩, fun _ => by omega⟩
theorem reach_ball {a : List Nat} {wi v n : Nat} {D : Nat → Int} (hI : DistI a wi v n) (hD : IsDist a wi v n D) (hv : wi.testBit v = true) (u : Nat) : (reachN a wi v).testBit u = true ↔ u < n ∧ 0 ≤ D u := by
  have hw : wi < 4294967296 := Nat.lt_trans hI.wi (pow16_lt hI.wide.le)
  have hv32 : v < 32 := by have := hI.v; have := hI.wide.le; omega
  have hM : ∀ i, (maskL (natsI (hasD D n))).testBit i = true ↔ i < n ∧ 0 ≤ D i := fun i => by
    rw [testBit_maskL (fun x hx => by simp only [natsI, List.mem_map] at hx; obtain ⟨y, _, rfl⟩ := hx; omega), decide_eq_true_eq]
    simp only [natsI, List.mem_map, hasD, List.mem_filter, List.mem_range, decide_eq_true_eq]
    constructor
    · rintro ⟨y, h1, h2⟩
      have : y = i := by omega
      subst this; exact h1
    · intro h; exact ⟨i, h, rfl⟩
  constructor
  · intro h
    refine (hM u).1 (reach_least hw hv32 (fun x hx y hy hb => ?_) ?_ h)
    · obtain ⟨hxn, hx0⟩ := (hM x).1 hx
      obtain ⟨k, hk⟩ := (dist_has hD hxn).1 hx0
      have hb2 := (ball_succ hI k y).2 (.inr ⟨hy, x, hk, hb⟩)
      have hyn := bit_lt_of (ball_lt hI (k + 1)) hb2
      exact (hM y).2 ⟨hyn, (dist_has hD hyn).2 ⟨_, hb2⟩⟩
    · exact (hM v).2 ⟨hI.v, (dist_has hD hI.v).2 ⟨0, by unfold ballN; rw [testBit_bit]; simp⟩⟩
  · rintro ⟨hu, h0⟩
    obtain ⟨k, hk⟩ := (dist_has hD hu).1 h0
    have hall : ∀ k u, (ballN a wi v k).testBit u = true → (reachN a wi v).testBit u = true := by
      intro k
      induction k with
      | zero =>
        intro u hu
        unfold ballN at hu
        rw [testBit_bit] at hu
        have : v = u := by simpa using hu
        subst this
        exact reach_start hw hv32
      | succ k ih =>
        intro u hu
        rcases (ball_succ hI k u).1 hu with h1 | ⟨hwu, x, hx, hb⟩
        · exact ih u h1
        · exact reach_closed hw hv32 x (ih x hx) u hwu hb
    exact hall k u hk
theorem hasD_bits {a : List Nat} {wi v n : Nat} {D : Nat → Int} (hI : DistI a wi v n) (hD : IsDist a wi v n D) (hv : wi.testBit v = true) : (hasD D n).length = popN (reachN a wi v) := by
  have e : natsI (hasD D n) = bitsI (reachN a wi v) := by
    refine sorted_ext ?_ (bitsI_sorted _) fun x => ?_
    · unfold natsI hasD
      rw [List.pairwise_map]
      exact (List.Pairwise.filter _ List.pairwise_lt_range).imp fun h => by omega
    · rw [mem_bitsI (reachN_lt _ _ _)]
      simp only [natsI, List.mem_map, hasD, List.mem_filter, List.mem_range, decide_eq_true_eq]
      constructor
      · rintro ⟨y, ⟨h1, h2⟩, rfl⟩
        exact ⟨by omega, by simpa using (reach_ball hI hD hv y).2 ⟨h1, h2⟩⟩
      · rintro ⟨h0, h1⟩
        obtain ⟨h2, h3⟩ := (reach_ball hI hD hv x.toNat).1 h1
        exact ⟨x.toNat, ⟨h2, h3⟩, by omega⟩
  have e2 := congrArg List.length e
  rw [bitsI_lenN] at e2
  rw [← natsI_len (hasD D n), e2]
  rfl
noncomputable def connB (g : List (List Int)) (s : Nat) : Bool := decide (s ≠ 0) && decide ((partsN (netsL g) s).length = 1)
theorem conn_pop {a : List Nat} {s : Nat} (hs : s < 4294967296) (h0 : s ≠ 0) : popN (reachN a s (Lib.ctz 32 s)) = popN s ↔ (partsN a s).length = 1 := by
  rw [parts_one hs h0]
  constructor
  · intro h
    apply nat_ext
    intro i
    have hsub := fun i => reach_sub (a := a) (i := i) hs (ctz_bit h0 hs)
    cases e : (reachN a s (Lib.ctz 32 s)).testBit i
    · cases e2 : s.testBit i
      · rfl
      · have := popN_lt hs hsub e2 e; omega
    · exact (hsub i e).symm
  · intro h; rw [h]
