/- Sets by their numbers; DistancesKept: what both decide. -/
import Derived.Test.YtbpjbjeglcphcaaDoorDist1
import Derived.Test.YtbpjbjeglcphcaaDoorGok
namespace Go.Proofs.YtbpjbjeglcphcaaDoor
open Go.RowKit
theorem i64_and_nat (a b : Nat) (ha : a < 4294967296) (hb : b < 4294967296) : bits .and .i64 (a : Int) (b : Int) = ((a &&& b : Nat) : Int) := by
  have hx : a &&& b < 2 ^ 32 := Nat.and_lt_two_pow _ (by omega)
  have h1 : (BitVec.ofInt 64 (a : Int)).toNat = a := by
    rw [BitVec.ofInt_natCast, BitVec.toNat_ofNat]; exact Nat.mod_eq_of_lt (by omega)
  have h2 : (BitVec.ofInt 64 (b : Int)).toNat = b := by
    rw [BitVec.ofInt_natCast, BitVec.toNat_ofNat]; exact Nat.mod_eq_of_lt (by omega)
  show IntKind.i64.wrap ((BitVec.ofInt 64 (a : Int) &&& BitVec.ofInt 64 (b : Int)).toNat : Int) = _
  rw [BitVec.toNat_and, h1, h2, IntKind.wrap_i64]
  omega
def lowL (m v : Nat) : List Nat := (List.range v).filter m.testBit
theorem lowL_succ (m v : Nat) : lowL m (v + 1) = lowL m v ++ if m.testBit v = true then [v] else [] := by
  unfold lowL
  rw [List.range_succ, List.filter_append]
  by_cases h : m.testBit v = true <;> simp [h]
theorem lowL_all {m v : Nat} (hm : m < 4294967296) (h : m < 2 ^ v) : natsI (lowL m v) = bitsI m := by
  have hs : (natsI (lowL m v)).Pairwise (· < ·) := by
    unfold natsI lowL
    rw [List.pairwise_map]
    exact (List.pairwise_lt_range.filter _).imp (fun h => by omega)
  refine sorted_ext hs (bitsI_sorted _) fun x => ?_
  rw [mem_bitsI hm]
  unfold natsI lowL
  simp only [List.mem_map, List.mem_filter, List.mem_range]
  constructor
  · rintro ⟨u, ⟨_, h2⟩, rfl⟩
    exact ⟨by omega, by simpa using h2⟩
  · rintro ⟨h1, h2⟩
    exact ⟨x.toNat, ⟨bit_lt_of h h2, h2⟩, by omega⟩
theorem lowL_len {m v : Nat} : (lowL m v).length ≤ v := by
  have := List.length_filter_le m.testBit (List.range v)
  simpa [lowL] using this
theorem and_bit_zero {m v : Nat} : (m &&& bit v = 0) ↔ m.testBit v = false := by
  constructor
  · intro h
    have : (m &&& bit v).testBit v = false := by rw [h]; simp
    rw [Nat.testBit_and, testBit_bit] at this
    simpa using this
  · intro h
    apply nat_ext
    intro i
    rw [Nat.testBit_and, testBit_bit]
    by_cases e : v = i
    · subst e; simp [h]
    · simp [e]
noncomputable def smallD (g : List (List Int)) : Bool := gokB g && decide (g.length ≤ 8)
/-- Inside s the distance of v and u is what it is in the whole. -/
def SameD (a : List Nat) (n s v u : Nat) : Prop := ∀ D D', IsDist a s v n D → IsDist a (firstN n) v n D' → D u = D' u
def KeptD (a : List Nat) (n s : Nat) : Prop := reachN a s (Lib.ctz 32 s) = s → ∀ v, s.testBit v = true → ∀ u, s.testBit u = true → SameD a n s v u
open Classical in
noncomputable def keptB (g : List (List Int)) : Bool := smallD g && decide (∀ s, 0 < s → s < 2 ^ g.length → KeptD (netsL g) g.length s)
theorem SameD.of {a : List Nat} {n s v u : Nat} {D D' : Nat → Int} (h1 : IsDist a s v n D) (h2 : IsDist a (firstN n) v n D') (hu : u < n) (h : D u = D' u) : SameD a n s v u := fun E E' k1 k2 => by
  rw [← h1.unique k1 hu, ← h2.unique k2 hu]; exact h
theorem SameD.not {a : List Nat} {n s v u : Nat} {D D' : Nat → Int} (h1 : IsDist a s v n D) (h2 : IsDist a (firstN n) v n D') (h : D u ≠ D' u) : ¬ SameD a n s v u := fun k => h (k D D' h1 h2)
theorem l12Bit_any (v : Nat) (w : World) (hv : v ≤ 30) : Calls Tryd.prog 26 #[.int .i64 (v : Int)] w fun e w' => e = .returned (.int .i64 (bit v : Int)) ∧ w = w' := by
  have hp : bit v ≤ 1073741824 := Nat.le_trans (Nat.pow_le_pow_right (by omega) hv) (by decide)
  have he : wrap64 ((2 : Int) ^ v) = (bit v : Int) := by rw [pow_int]; unfold wrap64; omega
  have HE := Lib.hid he; clear he
  go_enter Tryd.func26, Tryd.ntmps26
  go_wp2
  go_ret
  exact ⟨ret_int (by first | exact HE.out | (simpa using HE.out) | (simp; exact HE.out)), rfl⟩
set_option maxHeartbeats 4000000 in
theorem l12Set_any (m : Nat) (w : World) (hm : m < 1024) : Calls Tryd.prog 27 #[.int .i64 (m : Int)] w fun e w' => ∃ u, e = .returned u ∧ SlI (fun b => w.heap.size ≤ b) w' .i64 u (bitsI m) ∧ Below w.heap.size w w' := by
  have ho0 : Own (w.alloc (.cells #[] 2)) w.heap.size 2 1 (.slice (some ⟨w.heap.size, 0, none⟩) 0 0) 0 [] := by
    have := World.ownsRow_lit (base := w.heap.size) (e := 2) (size := 1) w #[] 0 (Nat.le_refl _) (by unfold maxLen; omega) rfl
    simpa [Own] using this
  have hq0 : Below w.heap.size w (w.alloc (.cells #[] 2)) := (Below.refl _ _).alloc (Nat.le_refl _) _
  have h11 : ∀ v, m < bit v → m < 2 ^ v := fun v h => h
  have H11 := Lib.hid h11; clear h11
  go_enter Tryd.func27, Tryd.ntmps27
  go_wp2
  go_loopw [3, 4] (fun o i wr => ∃ v : Nat, v ≤ 10 ∧ i = .int .i64 v ∧ Own wr w.heap.size 2 1 o (lowL m v).length ((natsI (lowL m v)).map (.int .i64)) ∧ Below w.heap.size w wr) (fun _ i _ => 11 - (intOf i).toNat)
  case atStart => exact ⟨0, by omega, rfl, ho0, hq0⟩
  case round =>
    clear ho0 hq0
    obtain ⟨v, hv, rfl, ho, hq⟩ := hrel
    have hb := l12Bit_any v wr (by omega)
    have hbl : bit v < 4294967296 := bit_lt (by omega)
    have hll := lowL_len (m := m) (v := v)
    by_cases hle : bit v ≤ m
    case neg =>
      have HA := Lib.hid (lowL_all (m := m) (by omega) (H11.out v (by omega)))
      have hoi := Own.ints (xs := natsI (lowL m v)) ho (by omega)
      generalize bit v = x at *
      go_wp2_with (go_at_call 26; refine hb.mono ?_; rintro e w' ⟨rfl, rfl⟩)
      go_ret
      exact ⟨_, rfl, by rw [← HA.out]; exact hoi.weak (fun b hb => (ho.lt b hb).1), hq⟩
    have hv9 : v ≤ 9 := by
      apply Nat.le_of_lt_succ
      apply Nat.lt_of_not_le
      intro h
      have h2 : bit 10 ≤ bit v := Nat.pow_le_pow_right (by omega) h
      have h3 : bit 10 = 1024 := by decide
      omega
    have hand := i64_and_nat m (bit v) (by omega) hbl
    have hz := and_bit_zero (m := m) (v := v)
    have hls := lowL_succ m v
    have hxl : m &&& bit v < 4294967296 := Nat.lt_of_le_of_lt Nat.and_le_left (by omega)
    cases ht : m.testBit v
    · have h0 := hz.2 ht
      rw [ht] at hls
      simp only [Bool.false_eq_true, if_false, List.append_nil] at hls
      rw [h0] at hand
      rw [← hls] at ho
      clear hz hls h0 ht hxl
      generalize bit v = x at *
      go_wp2_with (go_at_call 26; refine hb.mono ?_; rintro e w' ⟨rfl, rfl⟩)
      go_roundw
      case rel => exact ⟨v + 1, by omega, by go_num, ho, hq⟩
      case measure => simp [intOf]; omega
    · have h0 : m &&& bit v ≠ 0 := fun h => by rw [hz.1 h] at ht; cases ht
      rw [ht] at hls
      simp only [if_true] at hls
      have hne : ((m &&& bit v : Nat) : Int) ≠ 0 := by omega
      have hb1 : (((m &&& bit v : Nat) : Int) != 0) = true := by rw [bne_iff_ne]; exact hne
      have hb2 : ((m &&& bit v : Nat) != 0) = true := by rw [bne_iff_ne]; exact h0
      have HLS := Lib.hid hls
      have hB := hq.size
      clear hz hls ht hxl hne
      generalize m &&& bit v = y at *
      generalize bit v = x at *
      go_wp2_with (first | (go_at_call 26; refine hb.mono ?_; rintro e w' ⟨rfl, rfl⟩) | (at_builtin; refine wpList_append1b elI64 rfl _ _ rfl ho rfl rfl rfl rfl (by omega) hB ?_; intro o' w3 ho3 hkept hmv))
      have hq3 := hkept.below hq hq.size (fun c h => (ho.lt c h).1)
      go_roundw
      case rel => exact ⟨v + 1, by omega, by go_num, by rw [HLS.out]; simpa [natsI] using ho3, hq3⟩
      case measure => simp [intOf]; omega
theorem isSmallD_any {S : Nat → Prop} {v : Value} {g : List (List Int)} {w : World} (hv : SlR S w v g) : Calls Tryd.prog 16 #[.agg #[v]] w fun e w' => e = .returned (.bool (smallD g)) ∧ Below w.heap.size w w' := by
  have hb : Below w.heap.size w (w.alloc (.cells #[v] 28)) := (Below.refl _ _).alloc (Nat.le_refl _) _
  obtain ⟨va, vc, rfl⟩ := hv.slice
  have hgo := implGraphOk_any _ _ _ (hv.below hb (Nat.le_refl _))
  have hlen := hv.len
  by_cases hg : gokB g = true
  · rw [hg] at hgo
    have hs : decide (g.length ≤ 8) = smallD g := by simp [smallD, hg]
    have HS := Lib.hid hs; clear hs hg
    go_enter Tryd.func16, Tryd.ntmps16
    go_wp2_with fail
    refine hgo.mono ?_
    rintro e w1 ⟨rfl, hb1⟩
    have c1 : w1.cell? ⟨w.heap.size, 0, none⟩ = some (.slice va g.length vc) := (hb1.cell (p := ⟨w.heap.size, 0, none⟩) (by simp)).trans (by simp [go_sem])
    clear hgo
    go_wp2
    go_ret
    exact ⟨ret_bool (by rw [← HS.out]; first | rfl | (simp; omega)), hb.trans (hb1.mono hb.size)⟩
  · have hg' : gokB g = false := by simpa using hg
    rw [hg'] at hgo
    have HS := Lib.hid (show smallD g = false by simp [smallD, hg']); clear hg hg'
    go_enter Tryd.func16, Tryd.ntmps16
    go_wp2_with fail
    refine hgo.mono ?_
    rintro e w1 ⟨rfl, hb1⟩
    clear hgo
    go_wp2
    go_ret
    exact ⟨ret_bool HS.out.symm, hb.trans (hb1.mono hb.size)⟩
end Go.Proofs.YtbpjbjeglcphcaaDoor
