/- Sets by their numbers; DistancesKept: what both decide. -/
import Derived.Test.YtdbanndcdbikmaaGreatDoorDistM
import Derived.Test.YtdbanndcdbikmaaGreatDoorWide2
import Derived.Test.YtdbanndcdbikmaaGreatDoorReach2
import Derived.Test.YtdbanndcdbikmaaGreatDoorQueue
import Derived.Test.YtdbanndcdbikmaaGreatDoorLoopL
import Derived.Test.YtdbanndcdbikmaaGreatDoorMod3
namespace Go.Proofs.YtdbanndcdbikmaaGreatDoor
open Go.RowKit
theorem bits_natsI3 (m : Nat) : bitsI m = natsI (bitsN m) := by simp [bitsI, natsI]
theorem pop_more {a b : Nat} (ha : a < 4294967296) (hb : b < 4294967296) (h : ∀ i, a.testBit i = true → b.testBit i = true) {u : Nat} (hu : b.testBit u = true) (hn : a.testBit u = false) : popN a + 1 ≤ popN b := by
  have hu32 := bit_lt_of (n := 32) hb hu
  rw [← popN_add ha hu32 hn]
  refine popN_le ?_ hb fun i hi => ?_
  · exact Nat.or_lt_two_pow (n := 32) ha (bit_lt hu32)
  · rw [Nat.testBit_or, testBit_bit, Bool.or_eq_true] at hi
    rcases hi with hi | hi
    · exact h i hi
    · have : u = i := by simpa using hi
      subst this; exact hu
theorem some_bit {m : Nat} (h : m ≠ 0) : ∃ u, m.testBit u = true := Nat.exists_testBit_of_ne_zero h
theorem ball_many {a : List Nat} {wi v n : Nat} (h : DistI a wi v n) : ∀ (j x : Nat), (ballN a wi v j).testBit x = true → (∀ i, i < j → (ballN a wi v i).testBit x = false) → j + 1 ≤ popN (ballN a wi v j)
  | 0, x, hx, _ => by
    have := pop_more (a := 0) (b := ballN a wi v 0) (by omega) (ball_lt32 h 0) (fun i hi => by simp at hi) hx (by simp)
    omega
  | j + 1, x, hx, hn => by
    rcases (ball_succ h j x).1 hx with h1 | ⟨hw, y, hy, hb⟩
    · rw [hn j (by omega)] at h1; cases h1
    · have ih := ball_many h j y hy (fun i hi => by
        cases e : (ballN a wi v i).testBit y
        · rfl
        · have : (ballN a wi v (i + 1)).testBit x = true := (ball_succ h i x).2 (.inr ⟨hw, y, e, hb⟩)
          rw [hn (i + 1) (by omega)] at this; cases this)
      have := pop_more (ball_lt32 h j) (ball_lt32 h (j + 1)) (fun i hi => ball_mono h hi (Nat.le_succ j)) hx (hn j (by omega))
      omega
theorem DP.xsmall {a : List Nat} {wi v n : Nat} {D : Nat → Int} {M d x : Nat} {T Q1 Q2 : List Nat} (hI : DistI a wi v n) (h : DP a wi v n D M d x T Q1 Q2) : 0 ≤ D x ∧ D x ≤ 16 := by
  have h16 := hI.wide.le
  rcases h.cor x (bit_lt_of h.lt h.hx.1) with ⟨_, h2⟩ | ⟨_, j, _, h2, h3, h4⟩
  · rw [h.hx.1] at h2; cases h2
  · have := ball_many hI j x h3 h4
    have := popN_pow (by omega) (ball_lt hI j)
    omega
/-- How many have no distance yet. -/
def negD (D : Nat → Int) (n : Nat) : Nat := ((List.range n).filter fun u => decide (D u < 0)).length
def negW (w : World) (ob n : Nat) : Nat := ((List.range n).filter fun u => match w.cell? ⟨ob, u, none⟩ with | some (.int _ x) => decide (x < 0) | _ => false).length
theorem negW_row {w : World} {ob n : Nat} {D : Nat → Int} (h : Row w ob n (tabV D)) : negW w ob n = negD D n := by
  unfold negW negD
  congr 1
  apply List.filter_congr
  intro u hu
  have h1 := (h u (List.mem_range.1 hu)).1
  unfold tabV at h1
  rw [h1]
theorem negD_set {D : Nat → Int} {n u : Nat} {x : Int} (hu : u < n) (h : D u < 0) (hx : 0 ≤ x) : negD (fun y => if u = y then x else D y) n + 1 = negD D n := by
  unfold negD
  rw [← filter_less (p := fun u => decide (D u < 0)) (v := u) List.nodup_range (List.mem_range.2 hu) (by simpa using h)]
  congr 2
  apply List.filter_congr
  intro y _
  by_cases e : u = y
  · subst e; simp; omega
  · simp [e]
theorem negD_le (D : Nat → Int) (n : Nat) : negD D n ≤ n := by
  have := List.length_filter_le (fun u => decide (D u < 0)) (List.range n)
  simpa [negD] using this
theorem i64_and_nat (a b : Nat) (ha : a < 4294967296) (hb : b < 4294967296) : bits .and .i64 (a : Int) (b : Int) = ((a &&& b : Nat) : Int) := by
  have hx : a &&& b < 2 ^ 32 := Nat.and_lt_two_pow _ (by omega)
  have h1 : (BitVec.ofInt 64 (a : Int)).toNat = a := by
    rw [BitVec.ofInt_natCast, BitVec.toNat_ofNat]; exact Nat.mod_eq_of_lt (by omega)
  have h2 : (BitVec.ofInt 64 (b : Int)).toNat = b := by
    rw [BitVec.ofInt_natCast, BitVec.toNat_ofNat]; exact Nat.mod_eq_of_lt (by omega)
  show IntKind.i64.wrap ((BitVec.ofInt 64 (a : Int) &&& BitVec.ofInt 64 (b : Int)).toNat : Int) = _
  rw [BitVec.toNat_and, h1, h2, IntKind.wrap_i64]
  omega
def lowL (m v : Nat) : List Nat := (List.range v).filter m.testBit
theorem lowL_succ (m v : Nat) : lowL m (v + 1) = lowL m v ++ if m.testBit v = true then [v] else [] := by
  unfold lowL
  rw [List.range_succ, List.filter_append]
  by_cases h : m.testBit v = true <;> simp [h]
theorem lowL_all {m v : Nat} (hm : m < 4294967296) (h : m < 2 ^ v) : natsI (lowL m v) = bitsI m := by
  have hs : (natsI (lowL m v)).Pairwise (· < ·) := by
    unfold natsI lowL
    rw [List.pairwise_map]
    exact (List.pairwise_lt_range.filter _).imp (fun h => by omega)
  refine sorted_ext hs (bitsI_sorted _) fun x => ?_
  rw [mem_bitsI hm]
  unfold natsI lowL
  simp only [List.mem_map, List.mem_filter, List.mem_range]
  constructor
  · rintro ⟨u, ⟨_, h2⟩, rfl⟩
    exact ⟨by omega, by simpa using h2⟩
  · rintro ⟨h1, h2⟩
    exact ⟨x.toNat, ⟨bit_lt_of h h2, h2⟩, by omega⟩
theorem lowL_len {m v : Nat} : (lowL m v).length ≤ v := by
  have := List.length_filter_le m.testBit (List.range v)
  simpa [lowL] using this
theorem and_bit_zero {m v : Nat} : (m &&& bit v = 0) ↔ m.testBit v = false := by
  constructor
  · intro h
    have : (m &&& bit v).testBit v = false := by rw [h]; simp
    rw [Nat.testBit_and, testBit_bit] at this
    simpa using this
  · intro h
    apply nat_ext
    intro i
    rw [Nat.testBit_and, testBit_bit]
    by_cases e : v = i
    · subst e; simp [h]
    · simp [e]
noncomputable def smallD (g : List (List Int)) : Bool := gokB g && decide (g.length ≤ 8)
/-- Inside s the distance of v and u is what it is in the whole. -/
def SameD (a : List Nat) (n s v u : Nat) : Prop := ∀ D D', IsDist a s v n D → IsDist a (firstN n) v n D' → D u = D' u
def KeptD (a : List Nat) (n s : Nat) : Prop := reachN a s (Lib.ctz 32 s) = s → ∀ v, s.testBit v = true → ∀ u, s.testBit u = true → SameD a n s v u
open Classical in
noncomputable def keptB (g : List (List Int)) : Bool := smallD g && decide (∀ s, 0 < s → s < 2 ^ g.length → KeptD (netsL g) g.length s)
theorem SameD.of {a : List Nat} {n s v u : Nat} {D D' : Nat → Int} (h1 : IsDist a s v n D) (h2 : IsDist a (firstN n) v n D') (hu : u < n) (h : D u = D' u) : SameD a n s v u := fun E E' k1 k2 => by
  rw [← h1.unique k1 hu, ← h2.unique k2 hu]; exact h
theorem SameD.not {a : List Nat} {n s v u : Nat} {D D' : Nat → Int} (h1 : IsDist a s v n D) (h2 : IsDist a (firstN n) v n D') (h : D u ≠ D' u) : ¬ SameD a n s v u := fun k => h (k D D' h1 h2)
theorem isSmallD_any {S : Nat → Prop} {v : Value} {g : List (List Int)} {w : World} (hv : SlR S w v g) : Calls Tryz.prog 47 #[.agg #[v]] w fun e w' => e = .returned (.bool (smallD g)) ∧ Below w.heap.size w w' := by
  have hb : Below w.heap.size w (w.alloc (.cells #[v] 26)) := (Below.refl _ _).alloc (Nat.le_refl _) _
  obtain ⟨va, vc, rfl⟩ := hv.slice
  have hgo := implGraphOk_any _ _ _ (hv.below hb (Nat.le_refl _))
  have hlen := hv.len
  by_cases hg : gokB g = true
  · rw [hg] at hgo
    have hs : decide (g.length ≤ 8) = smallD g := by simp [smallD, hg]
    have HS := Lib.hid hs; clear hs hg
    go_enter Tryz.func47, Tryz.ntmps47
    go_wp2_with fail
    refine hgo.mono ?_
    rintro e w1 ⟨rfl, hb1⟩
    have c1 : w1.cell? ⟨w.heap.size, 0, none⟩ = some (.slice va g.length vc) := (hb1.cell (p := ⟨w.heap.size, 0, none⟩) (by simp)).trans (by simp [go_sem])
    clear hgo
    go_wp2
    go_ret
    exact ⟨ret_bool (by rw [← HS.out]; first | rfl | (simp; omega)), hb.trans (hb1.mono hb.size)⟩
  · have hg' : gokB g = false := by simpa using hg
    rw [hg'] at hgo
    have HS := Lib.hid (show smallD g = false by simp [smallD, hg']); clear hg hg'
    go_enter Tryz.func47, Tryz.ntmps47
    go_wp2_with fail
    refine hgo.mono ?_
    rintro e w1 ⟨rfl, hb1⟩
    clear hgo
    go_wp2
    go_ret
    exact ⟨ret_bool HS.out.symm, hb.trans (hb1.mono hb.size)⟩
end Go.Proofs.YtdbanndcdbikmaaGreatDoor
