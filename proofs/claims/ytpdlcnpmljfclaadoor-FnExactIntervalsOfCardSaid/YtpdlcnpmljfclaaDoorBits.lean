/- Sets of vertices as words: one, mask, list, least, size. -/
import Derived.Test.YtpdlcnpmljfclaaDoorOwn
import Derived.Laws.BitsAllLaws
import Derived.Lib.TrailingZeros
namespace Go.Proofs.YtpdlcnpmljfclaaDoor
open Go.RowKit

/-- The table by which the lowest bit is found, as the library lays it. -/
def Tab (w : World) : Prop := ∀ i, i < 32 → w.cell? ⟨0, i, none⟩ = some (.int .u8 ((Lib.deBruijn32tab.getD i 0 : Nat) : Int))
theorem Tab.below {w w' : World} {B : Nat} (h : Tab w) (hb : Below B w w') (hB : w.heap.size ≤ B) : Tab w' := fun i hi => by
  have hl := cell_lt (h i hi)
  exact (hb.cell (p := ⟨0, i, none⟩) (by simp at hl ⊢; omega)).trans (h i hi)
theorem Tab.drawn {w w' : World} (h : Tab w) (hw : Drawn w w') : Tab w' := fun i hi => (hw.cell _).trans (h i hi)

/-- The vertices of a set, rising. -/
def bitsN (m : Nat) : List Nat := (List.range 32).filter m.testBit
def bitsI (m : Nat) : List Int := (bitsN m).map fun i : Nat => (i : Int)
theorem mem_bitsN {m i : Nat} (hm : m < 4294967296) : i ∈ bitsN m ↔ m.testBit i = true := by
  simp only [bitsN, List.mem_filter, List.mem_range]
  refine ⟨fun h => h.2, fun h => ⟨?_, h⟩⟩
  apply Nat.lt_of_not_le
  intro hle
  have h2 : m < 2 ^ i := Nat.lt_of_lt_of_le hm (Nat.pow_le_pow_right (n := 2) (by decide) (by omega) |> fun h => by simpa using (show 2 ^ 32 ≤ 2 ^ i from h))
  rw [Nat.testBit_lt_two_pow h2] at h; cases h
theorem mem_bitsI {m : Nat} {v : Int} (hm : m < 4294967296) : v ∈ bitsI m ↔ 0 ≤ v ∧ m.testBit v.toNat = true := by
  simp only [bitsI, List.mem_map]
  constructor
  · rintro ⟨i, hi, rfl⟩; exact ⟨by omega, by simpa using (mem_bitsN hm).1 hi⟩
  · rintro ⟨h0, h1⟩; exact ⟨v.toNat, (mem_bitsN hm).2 h1, by omega⟩
theorem bitsN_sorted (m : Nat) : (bitsN m).Pairwise (· < ·) := List.Pairwise.filter _ List.pairwise_lt_range
theorem bitsN_lt {m i : Nat} (h : i ∈ bitsN m) : i < 32 := by simp only [bitsN, List.mem_filter, List.mem_range] at h; exact h.1
theorem bitsN_len (m : Nat) : (bitsN m).length ≤ 32 := by
  have := List.length_filter_le m.testBit (List.range 32); simpa [bitsN] using this
theorem bitsI_len (m : Nat) : (bitsI m).length ≤ 32 := by simpa [bitsI] using bitsN_len m
theorem bitsN_zero : bitsN 0 = [] := by simp [bitsN]

theorem lowest_parts {s : Nat} (h0 : s ≠ 0) (h : s < 4294967296) : ∃ m, s = 2 ^ Lib.ctz 32 s * (2 * m + 1) ∧ Lib.ctz 32 s < 32 := by
  obtain ⟨m, hm, hk⟩ := Lib.ctzFrom_spec 32 s (by omega) (by simpa using h)
  have e : Lib.ctz 32 s = Lib.ctzFrom 32 s := by simp [Lib.ctz, h0]
  exact ⟨m, by rw [e]; exact hm, by rw [e]; exact hk⟩
theorem drop_bit (k m i : Nat) : (2 ^ k * (2 * m + 1) &&& (2 ^ k * (2 * m + 1) - 1)).testBit i = (decide (k < i) && (2 ^ k * (2 * m + 1)).testBit i) := by
  have hp : 0 < 2 ^ k := Nat.two_pow_pos k
  have e1 : 2 ^ k * (2 * m + 1) - 1 = 2 ^ k * (2 * m) + (2 ^ k - 1) := by
    rw [Nat.mul_add, Nat.mul_one]; omega
  have e0 : 2 ^ k * (2 * m + 1) = 2 ^ k * (2 * m + 1) + 0 := rfl
  rw [Nat.testBit_and, e1, Nat.testBit_two_pow_mul_add _ (by omega)]
  rw [e0, Nat.testBit_two_pow_mul_add _ hp]
  by_cases h1 : i < k
  · simp [h1]
  · by_cases h2 : i = k
    · subst h2; simp [Nat.testBit_zero]
    · obtain ⟨j, rfl⟩ : ∃ j, i = k + (j + 1) := ⟨i - k - 1, by omega⟩
      have e3 : k + (j + 1) - k = j + 1 := by omega
      rw [if_neg h1, if_neg h1, e3, Nat.testBit_succ, Nat.testBit_succ]
      have d1 : (2 * m + 1) / 2 = m := by omega
      have d2 : 2 * m / 2 = m := by omega
      rw [d1, d2]
      simp
theorem low_bit (k m i : Nat) : (2 ^ k * (2 * m + 1)).testBit i = (decide (i = k) || (decide (k < i) && (2 ^ k * (2 * m + 1)).testBit i)) := by
  have e0 : 2 ^ k * (2 * m + 1) = 2 ^ k * (2 * m + 1) + 0 := rfl
  rw [e0, Nat.testBit_two_pow_mul_add _ (Nat.two_pow_pos k)]
  by_cases h1 : i < k
  · have e1 : ¬ i = k := by omega
    have e2 : ¬ k < i := by omega
    simp [h1, e1, e2]
  · by_cases h2 : i = k
    · subst h2; simp [Nat.testBit_zero]
    · have : k < i := by omega
      simp [h1, h2, this]
theorem bitsN_step {s : Nat} (h0 : s ≠ 0) (h : s < 4294967296) : bitsN s = Lib.ctz 32 s :: bitsN (s &&& (s - 1)) := by
  obtain ⟨m, hm, hk⟩ := lowest_parts h0 h
  generalize hke : Lib.ctz 32 s = k at hm hk
  have hr : List.range 32 = List.range k ++ k :: List.range' (k + 1) (31 - k) := by
    rw [List.range_eq_range', List.range_eq_range']
    have h1 := List.range'_append_1 (s := 0) (m := k) (n := 32 - k)
    rw [show k + (32 - k) = 32 by omega, Nat.zero_add] at h1
    rw [← h1]
    obtain ⟨d, hd⟩ : ∃ d, 32 - k = d + 1 := ⟨31 - k, by omega⟩
    rw [hd, show 31 - k = d by omega, List.range'_succ]
  unfold bitsN
  rw [hr, List.filter_append, List.filter_append]
  have low : ∀ i ∈ List.range k, s.testBit i = false ∧ (s &&& (s - 1)).testBit i = false := by
    intro i hi
    have hi' : i < k := by simpa using hi
    have e2 : ¬ k < i := by omega
    have e3 : ¬ i = k := by omega
    rw [hm, drop_bit, low_bit]
    simp [e2, e3]
  have f1 : (List.range k).filter s.testBit = [] := List.filter_eq_nil_iff.2 fun i hi => by simp [(low i hi).1]
  have f2 : (List.range k).filter (s &&& (s - 1)).testBit = [] := List.filter_eq_nil_iff.2 fun i hi => by simp only [(low i hi).2]; simp
  have bk : s.testBit k = true := by rw [hm, low_bit]; simp
  have bk2 : (s &&& (s - 1)).testBit k = false := by rw [hm, drop_bit]; simp
  rw [f1, f2, List.filter_cons, List.filter_cons, bk, bk2]
  simp only [List.nil_append, if_true, Bool.false_eq_true, if_false]
  congr 1
  apply List.filter_congr
  intro i hi
  have hi' : k < i := by simp only [List.mem_range'_1] at hi; omega
  rw [hm, drop_bit]
  simp [hi']
theorem and_pred_lt {s : Nat} (h0 : s ≠ 0) : s &&& (s - 1) < s := by
  have := @Nat.and_le_right s (s - 1); omega
theorem bitsI_step {s : Nat} (h0 : s ≠ 0) (h : s < 4294967296) : bitsI s = (Lib.ctz 32 s : Int) :: bitsI (s &&& (s - 1)) := by
  unfold bitsI; rw [bitsN_step h0 h]; rfl

/-- The set of one vertex; of the first n. -/
def bit (v : Nat) : Nat := 2 ^ v
def firstN (n : Nat) : Nat := 2 ^ n - 1
theorem testBit_bit (v i : Nat) : (bit v).testBit i = decide (v = i) := by unfold bit; rw [Nat.testBit_two_pow]
theorem testBit_firstN (n i : Nat) : (firstN n).testBit i = decide (i < n) := by unfold firstN; rw [Nat.testBit_two_pow_sub_one]
/-- The set of the numbers of a list. -/
def maskL (xs : List Int) : Nat := xs.foldl (fun m v => m ||| bit v.toNat) 0
theorem testBit_fold (xs : List Int) (m i : Nat) (hx : ∀ v ∈ xs, 0 ≤ v) : (xs.foldl (fun m v => m ||| bit v.toNat) m).testBit i = (m.testBit i || decide ((i : Int) ∈ xs)) := by
  induction xs generalizing m with
  | nil => simp
  | cons x xs ih =>
    have hx0 := hx x (by simp)
    rw [List.foldl_cons, ih _ (fun v hv => hx v (by simp [hv])), Nat.testBit_or, testBit_bit, Bool.or_assoc]
    congr 1
    have : decide (x.toNat = i) = decide ((i : Int) = x) := by
      by_cases h : x.toNat = i
      · have : (i : Int) = x := by omega
        simp [h, this]
      · have : ¬ (i : Int) = x := by omega
        simp [h, this]
    rw [this]
    simp [List.mem_cons, Bool.decide_or]
theorem testBit_maskL {xs : List Int} (hx : ∀ v ∈ xs, 0 ≤ v) (i : Nat) : (maskL xs).testBit i = decide ((i : Int) ∈ xs) := by
  rw [maskL, testBit_fold xs 0 i hx]; simp
theorem maskL_lt {xs : List Int} {n : Nat} (hx : ∀ v ∈ xs, 0 ≤ v ∧ v < n) : maskL xs < 2 ^ n := by
  apply Nat.lt_pow_two_of_testBit
  intro i hi
  rw [testBit_maskL (fun v hv => (hx v hv).1)]
  have : ¬ ((i : Int) ∈ xs) := fun h => by have := (hx _ h).2; omega
  simp [this]
theorem maskL_snoc (xs : List Int) (v : Int) : maskL (xs ++ [v]) = maskL xs ||| bit v.toNat := by simp [maskL]
theorem maskL_take {xs : List Int} {k : Nat} (hk : k < xs.length) : maskL (xs.take (k + 1)) = maskL (xs.take k) ||| bit (xs[k]).toNat := by
  rw [List.take_succ_eq_append_getElem hk, maskL_snoc]

theorem pow_lt32 {n : Nat} (h : n < 32) : 2 ^ n < 4294967296 := by
  have := Nat.pow_lt_pow_right (a := 2) (by decide) h; simpa using this
theorem pow_le16 {n : Nat} (h : n ≤ 16) : 2 ^ n ≤ 65536 := by
  have := Nat.pow_le_pow_right (n := 2) (by decide) h; simpa using this
theorem pow_int (n : Nat) : (2 : Int) ^ n = ((bit n : Nat) : Int) := by simp [bit]
theorem bit_lt {n : Nat} (h : n < 32) : bit n < 4294967296 := pow_lt32 h
theorem bit_pos (n : Nat) : 0 < bit n := Nat.two_pow_pos n
theorem one_any (v : Int) (w : World) (h0 : 0 ≤ v) (h1 : v < 32) : Calls Tryd.prog 104 #[.int .i64 v] w fun e w' => e = .returned (.int .u32 (bit v.toNat : Int)) ∧ w = w' := by
  obtain ⟨n, rfl⟩ := Int.eq_ofNat_of_zero_le h0
  have hp := bit_lt (n := n) (by omega)
  have he : (2 : Int) ^ n % 4294967296 = (bit n : Int) := by rw [pow_int]; omega
  have HE := Lib.hid he; clear he
  go_enter Tryd.func104, Tryd.ntmps104
  go_wp2
  go_ret
  exact ⟨ret_int HE.out, rfl⟩
theorem firstOf_any (v : Int) (w : World) (h0 : 0 ≤ v) (h1 : v ≤ 16) : Calls Tryd.prog 105 #[.int .i64 v] w fun e w' => e = .returned (.int .u32 (firstN v.toNat : Int)) ∧ w = w' := by
  obtain ⟨n, rfl⟩ := Int.eq_ofNat_of_zero_le h0
  have hp := bit_lt (n := n) (by omega)
  have hp1 := bit_pos n
  have he : ((2 : Int) ^ n % 4294967296 - 1) % 4294967296 = (firstN n : Int) := by
    have : firstN n = bit n - 1 := rfl
    rw [pow_int, this]; omega
  have HE := Lib.hid he; clear he
  go_enter Tryd.func105, Tryd.ntmps105
  go_wp2
  go_ret
  exact ⟨ret_int HE.out, rfl⟩
set_option maxHeartbeats 1000000 in
theorem least_core (m k idx : Nat) (w : World) (hx0 : ((m : Int) == 0) = false)
    (key : bits BinOp.and IntKind.u32 (m : Int) (-(m : Int) % 4294967296) * 125613361 % 4294967296 / 134217728 = (idx : Int))
    (hi : idx < 32) (hk : k < 32) (hcell : w.cell? ⟨0, idx, none⟩ = some (.int .u8 k)) :
    Calls Tryd.prog 101 #[.int .u32 m] w fun e w' => e = .returned (.int .i64 (k : Int)) ∧ w = w' := by
  go_enter Tryd.func101, Tryd.ntmps101
  go_wp2_with (first | go_in | simp only [key])
  go_ret
  exact ⟨rfl, rfl⟩
theorem least_key (x a : Nat) (hx : x < 4294967296) (hx0 : x ≠ 0) (hlow : x &&& (4294967296 - x) = a) :
    bits BinOp.and IntKind.u32 (x : Int) (-(x : Int) % 4294967296) * 125613361 % 4294967296 / 134217728 = ((a * 125613361 % 4294967296 / 134217728 : Nat) : Int) := by
  have e1 : -(x : Int) % 4294967296 = ((4294967296 - x : Nat) : Int) := by omega
  rw [e1, u32_and_nat x _ hx (by omega), hlow]
  omega
theorem least_any (m : Nat) (w : World) (ht : Tab w) (h0 : m ≠ 0) (h1 : m < 4294967296) : Calls Tryd.prog 101 #[.int .u32 m] w fun e w' => e = .returned (.int .i64 (Lib.ctz 32 m : Int)) ∧ w = w' := by
  obtain ⟨hlow, hk⟩ := Lib.lowest_bit 32 m h0 h1
  obtain ⟨hi, htab⟩ := Lib.deBruijn32_at _ hk
  have hcell := ht _ hi
  rw [htab] at hcell
  exact least_core m _ _ w (by simp; omega) (least_key m _ h1 h0 hlow) hi hk hcell
theorem elInt : Elem Tryd.prog 71 3 1 8 (.int .i64 0) := ⟨Tryd.underlying71, by kernel_rfl, rfl, by omega, by omega⟩
set_option maxHeartbeats 1000000 in
theorem list_any (m : Nat) (w : World) (ht : Tab w) (h1 : m < 4294967296) :
    Calls Tryd.prog 111 #[.int .u32 m] w fun e w' => ∃ u, e = .returned u ∧ Own w' w.heap.size 3 1 u (bitsI m).length ((bitsI m).map (.int .i64)) ∧ Below w.heap.size w w' := by
  go_enter Tryd.func111, Tryd.ntmps111
  go_wp2
  go_loopw [3, 0] (fun o s wr => ∃ (v : Value) (done : List Int) (r : Nat), o = v ∧ s = .int .u32 (r : Int) ∧ r < 4294967296 ∧ done ++ bitsI r = bitsI m ∧ Own wr w.heap.size 3 1 v done.length (done.map (.int .i64)) ∧ Below w.heap.size w wr) (fun _ s _ => (intOf s).toNat)
  case atStart =>
    refine ⟨_, [], m, rfl, rfl, h1, rfl, ?_, (Below.refl _ _).alloc (Nat.le_refl _) _⟩
    exact World.ownsRow_lit (base := w.heap.size) (e := 3) (size := 1) w #[] 0 (Nat.le_refl _) (by unfold maxLen; omega) rfl
  case round =>
    obtain ⟨v, done, r, rfl, rfl, hr, hd, hown, hq⟩ := hrel
    have htb := ht.below hq (Nat.le_refl _)
    have HD := Lib.hid hd; clear hd
    by_cases h0 : r = 0
    · subst h0
      go_wp2
      go_ret
      have hd := HD.out
      rw [show bitsI 0 = [] by simp [bitsI, bitsN_zero], List.append_nil] at hd
      subst hd
      exact ⟨_, rfl, hown, hq⟩
    · have hn : ((r : Int) != 0) = true := by rw [bne_iff_ne]; omega
      have hsub : (r : Int) - 1 = ((r - 1 : Nat) : Int) := by omega
      have hand := u32_and_nat r (r - 1) hr (by omega)
      have hlen : done.length ≤ 32 := by have := bitsI_len m; rw [← HD.out, List.length_append] at this; omega
      have hB := hq.size
      have HS := Lib.hid hsub; have HA := Lib.hid hand; clear hsub hand
      go_wp2_with (first
        | (go_at_call 101; refine (least_any _ _ htb h0 hr).mono ?_; rintro e w' ⟨rfl, rfl⟩)
        | (at_builtin; refine wpList_append1 elInt rfl _ _ rfl hown rfl rfl rfl (by omega) hB ?_; intro v' w1 hown1 hkept hmv))
      go_roundw
      case rel =>
        have hd := HD.out
        rw [bitsI_step h0 hr] at hd
        refine ⟨v', done ++ [(Lib.ctz 32 r : Int)], r &&& (r - 1), rfl, ?_, by have := and_pred_lt h0; omega, by rw [List.append_assoc]; exact hd, by simpa using hown1, hkept.below hq hB hown.ge⟩
        rw [HS.out, HA.out]
      case measure =>
        have := and_pred_lt h0
        simp only [intOf]
        rw [HS.out, HA.out]
        omega
set_option maxHeartbeats 1000000 in
theorem maskOf_any {S : Nat → Prop} (v : Value) (xs : List Int) (w : World) (hv : SlI S w .i64 v xs) (hx : ∀ x ∈ xs, 0 ≤ x ∧ x < 32) :
    Calls Tryd.prog 89 #[v] w fun e w' => e = .returned (.int .u32 (maskL xs : Int)) ∧ w = w' := by
  obtain ⟨a, b, off, cap, rfl, hl, ha, hc⟩ := hv
  have hlt : ∀ k, maskL (xs.take k) < 4294967296 := fun k => by
    have := maskL_lt (xs := xs.take k) (n := 32) (fun v hv => hx v (List.mem_of_mem_take hv)); simpa using this
  go_enter Tryd.func89, Tryd.ntmps89
  go_wp2
  go_loop [8, 3] (fun i o => ∃ k : Nat, k ≤ xs.length ∧ i = .int .i64 k ∧ o = .int .u32 (maskL (xs.take k) : Int)) (fun i _ => xs.length - (intOf i).toNat)
  case atStart => exact ⟨0, Nat.zero_le _, rfl, by simp [maskL]⟩
  case round =>
    obtain ⟨k, hk, rfl, rfl⟩ := hrel
    by_cases hk2 : k < xs.length
    · have hcell := hc k hk2
      obtain ⟨rfl, hS⟩ := ha (by omega)
      have hxk := hx xs[k] (List.getElem_mem _)
      have hor := u32_or_nat (maskL (xs.take k)) (bit (xs[k]).toNat) (hlt k) (bit_lt (by omega))
      have hml := Lib.hid (maskL_take hk2)
      go_wp2_with (go_at_call 104; refine (one_any _ _ (by omega) (by omega)).mono ?_; rintro e w' ⟨rfl, rfl⟩)
      go_round
      case rel => exact ⟨k + 1, by omega, by go_num, by rw [hml.out]⟩
      case measure => simp [intOf]; omega
    · go_wp2
      go_ret
      exact ⟨ret_int (by rw [List.take_of_length_le (by omega)]), rfl⟩
end Go.Proofs.YtpdlcnpmljfclaaDoor
