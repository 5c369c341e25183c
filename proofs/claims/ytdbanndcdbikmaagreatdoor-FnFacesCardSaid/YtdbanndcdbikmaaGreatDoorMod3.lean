/- ModuleIn and SplitterOf of the program. -/
import Derived.Test.YtdbanndcdbikmaaGreatDoorOwn
import Derived.Laws.BitsAllLaws
import Derived.Lib.TrailingZeros
import Derived.Test.YtdbanndcdbikmaaGreatDoorBase
import Derived.StillTailTactics
namespace Go.Proofs.YtdbanndcdbikmaaGreatDoor
open Go.RowKit

/-- The table by which the lowest bit is found, as the library lays it. -/
def Tab (w : World) : Prop := ∀ i, i < 32 → w.cell? ⟨0, i, none⟩ = some (.int .u8 ((Lib.deBruijn32tab.getD i 0 : Nat) : Int))
theorem Tab.below {w w' : World} {B : Nat} (h : Tab w) (hb : Below B w w') (hB : w.heap.size ≤ B) : Tab w' := fun i hi => by
  have hl := cell_lt (h i hi)
  exact (hb.cell (p := ⟨0, i, none⟩) (by simp at hl ⊢; omega)).trans (h i hi)

/-- The vertices of a set, rising. -/
def bitsN (m : Nat) : List Nat := (List.range 32).filter m.testBit
def bitsI (m : Nat) : List Int := (bitsN m).map fun i : Nat => (i : Int)
theorem mem_bitsN {m i : Nat} (hm : m < 4294967296) : i ∈ bitsN m ↔ m.testBit i = true := by
  simp only [bitsN, List.mem_filter, List.mem_range]
  refine ⟨fun h => h.2, fun h => ⟨?_, h⟩⟩
  apply Nat.lt_of_not_le
  intro hle
  have h2 : m < 2 ^ i := Nat.lt_of_lt_of_le hm (Nat.pow_le_pow_right (n := 2) (by decide) (by omega) |> fun h => by simpa using (show 2 ^ 32 ≤ 2 ^ i from h))
  rw [Nat.testBit_lt_two_pow h2] at h; cases h
theorem mem_bitsI {m : Nat} {v : Int} (hm : m < 4294967296) : v ∈ bitsI m ↔ 0 ≤ v ∧ m.testBit v.toNat = true := by
  simp only [bitsI, List.mem_map]
  constructor
  · rintro ⟨i, hi, rfl⟩; exact ⟨by omega, by simpa using (mem_bitsN hm).1 hi⟩
  · rintro ⟨h0, h1⟩; exact ⟨v.toNat, (mem_bitsN hm).2 h1, by omega⟩
theorem bitsN_sorted (m : Nat) : (bitsN m).Pairwise (· < ·) := List.Pairwise.filter _ List.pairwise_lt_range
theorem bitsN_len (m : Nat) : (bitsN m).length ≤ 32 := by
  have := List.length_filter_le m.testBit (List.range 32); simpa [bitsN] using this
theorem bitsI_len (m : Nat) : (bitsI m).length ≤ 32 := by simpa [bitsI] using bitsN_len m
theorem bitsN_zero : bitsN 0 = [] := by simp [bitsN]

theorem lowest_parts {s : Nat} (h0 : s ≠ 0) (h : s < 4294967296) : ∃ m, s = 2 ^ Lib.ctz 32 s * (2 * m + 1) ∧ Lib.ctz 32 s < 32 := by
  obtain ⟨m, hm, hk⟩ := Lib.ctzFrom_spec 32 s (by omega) (by simpa using h)
  have e : Lib.ctz 32 s = Lib.ctzFrom 32 s := by simp [Lib.ctz, h0]
  exact ⟨m, by rw [e]; exact hm, by rw [e]; exact hk⟩
theorem drop_bit (k m i : Nat) : (2 ^ k * (2 * m + 1) &&& (2 ^ k * (2 * m + 1) - 1)).testBit i = (decide (k < i) && (2 ^ k * (2 * m + 1)).testBit i) := by
  have hp : 0 < 2 ^ k := Nat.two_pow_pos k
  have e1 : 2 ^ k * (2 * m + 1) - 1 = 2 ^ k * (2 * m) + (2 ^ k - 1) := by
    rw [Nat.mul_add, Nat.mul_one]; omega
  have e0 : 2 ^ k * (2 * m + 1) = 2 ^ k * (2 * m + 1) + 0 := rfl
  rw [Nat.testBit_and, e1, Nat.testBit_two_pow_mul_add _ (by omega)]
  rw [e0, Nat.testBit_two_pow_mul_add _ hp]
  by_cases h1 : i < k
  · simp [h1]
  · by_cases h2 : i = k
    · subst h2; simp [Nat.testBit_zero]
    · obtain ⟨j, rfl⟩ : ∃ j, i = k + (j + 1) := ⟨i - k - 1, by omega⟩
      have e3 : k + (j + 1) - k = j + 1 := by omega
      rw [if_neg h1, if_neg h1, e3, Nat.testBit_succ, Nat.testBit_succ]
      have d1 : (2 * m + 1) / 2 = m := by omega
      have d2 : 2 * m / 2 = m := by omega
      rw [d1, d2]
      simp
theorem low_bit (k m i : Nat) : (2 ^ k * (2 * m + 1)).testBit i = (decide (i = k) || (decide (k < i) && (2 ^ k * (2 * m + 1)).testBit i)) := by
  have e0 : 2 ^ k * (2 * m + 1) = 2 ^ k * (2 * m + 1) + 0 := rfl
  rw [e0, Nat.testBit_two_pow_mul_add _ (Nat.two_pow_pos k)]
  by_cases h1 : i < k
  · have e1 : ¬ i = k := by omega
    have e2 : ¬ k < i := by omega
    simp [h1, e1, e2]
  · by_cases h2 : i = k
    · subst h2; simp [Nat.testBit_zero]
    · have : k < i := by omega
      simp [h1, h2, this]
theorem bitsN_step {s : Nat} (h0 : s ≠ 0) (h : s < 4294967296) : bitsN s = Lib.ctz 32 s :: bitsN (s &&& (s - 1)) := by
  obtain ⟨m, hm, hk⟩ := lowest_parts h0 h
  generalize hke : Lib.ctz 32 s = k at hm hk
  have hr : List.range 32 = List.range k ++ k :: List.range' (k + 1) (31 - k) := by
    rw [List.range_eq_range', List.range_eq_range']
    have h1 := List.range'_append_1 (s := 0) (m := k) (n := 32 - k)
    rw [show k + (32 - k) = 32 by omega, Nat.zero_add] at h1
    rw [← h1]
    obtain ⟨d, hd⟩ : ∃ d, 32 - k = d + 1 := ⟨31 - k, by omega⟩
    rw [hd, show 31 - k = d by omega, List.range'_succ]
  unfold bitsN
  rw [hr, List.filter_append, List.filter_append]
  have low : ∀ i ∈ List.range k, s.testBit i = false ∧ (s &&& (s - 1)).testBit i = false := by
    intro i hi
    have hi' : i < k := by simpa using hi
    have e2 : ¬ k < i := by omega
    have e3 : ¬ i = k := by omega
    rw [hm, drop_bit, low_bit]
    simp [e2, e3]
  have f1 : (List.range k).filter s.testBit = [] := List.filter_eq_nil_iff.2 fun i hi => by simp [(low i hi).1]
  have f2 : (List.range k).filter (s &&& (s - 1)).testBit = [] := List.filter_eq_nil_iff.2 fun i hi => by simp only [(low i hi).2]; simp
  have bk : s.testBit k = true := by rw [hm, low_bit]; simp
  have bk2 : (s &&& (s - 1)).testBit k = false := by rw [hm, drop_bit]; simp
  rw [f1, f2, List.filter_cons, List.filter_cons, bk, bk2]
  simp only [List.nil_append, if_true, Bool.false_eq_true, if_false]
  congr 1
  apply List.filter_congr
  intro i hi
  have hi' : k < i := by simp only [List.mem_range'_1] at hi; omega
  rw [hm, drop_bit]
  simp [hi']
theorem and_pred_lt {s : Nat} (h0 : s ≠ 0) : s &&& (s - 1) < s := by
  have := @Nat.and_le_right s (s - 1); omega
theorem bitsI_step {s : Nat} (h0 : s ≠ 0) (h : s < 4294967296) : bitsI s = (Lib.ctz 32 s : Int) :: bitsI (s &&& (s - 1)) := by
  unfold bitsI; rw [bitsN_step h0 h]; rfl

/-- The set of one vertex; of the first n. -/
def bit (v : Nat) : Nat := 2 ^ v
def firstN (n : Nat) : Nat := 2 ^ n - 1
theorem testBit_bit (v i : Nat) : (bit v).testBit i = decide (v = i) := by unfold bit; rw [Nat.testBit_two_pow]
theorem testBit_firstN (n i : Nat) : (firstN n).testBit i = decide (i < n) := by unfold firstN; rw [Nat.testBit_two_pow_sub_one]
/-- The set of the numbers of a list. -/
def maskL (xs : List Int) : Nat := xs.foldl (fun m v => m ||| bit v.toNat) 0
theorem testBit_fold (xs : List Int) (m i : Nat) (hx : ∀ v ∈ xs, 0 ≤ v) : (xs.foldl (fun m v => m ||| bit v.toNat) m).testBit i = (m.testBit i || decide ((i : Int) ∈ xs)) := by
  induction xs generalizing m with
  | nil => simp
  | cons x xs ih =>
    have hx0 := hx x (by simp)
    rw [List.foldl_cons, ih _ (fun v hv => hx v (by simp [hv])), Nat.testBit_or, testBit_bit, Bool.or_assoc]
    congr 1
    have : decide (x.toNat = i) = decide ((i : Int) = x) := by
      by_cases h : x.toNat = i
      · have : (i : Int) = x := by omega
        simp [h, this]
      · have : ¬ (i : Int) = x := by omega
        simp [h, this]
    rw [this]
    simp [List.mem_cons, Bool.decide_or]
theorem testBit_maskL {xs : List Int} (hx : ∀ v ∈ xs, 0 ≤ v) (i : Nat) : (maskL xs).testBit i = decide ((i : Int) ∈ xs) := by
  rw [maskL, testBit_fold xs 0 i hx]; simp
theorem maskL_lt {xs : List Int} {n : Nat} (hx : ∀ v ∈ xs, 0 ≤ v ∧ v < n) : maskL xs < 2 ^ n := by
  apply Nat.lt_pow_two_of_testBit
  intro i hi
  rw [testBit_maskL (fun v hv => (hx v hv).1)]
  have : ¬ ((i : Int) ∈ xs) := fun h => by have := (hx _ h).2; omega
  simp [this]
theorem maskL_snoc (xs : List Int) (v : Int) : maskL (xs ++ [v]) = maskL xs ||| bit v.toNat := by simp [maskL]
theorem maskL_take {xs : List Int} {k : Nat} (hk : k < xs.length) : maskL (xs.take (k + 1)) = maskL (xs.take k) ||| bit (xs[k]).toNat := by
  rw [List.take_succ_eq_append_getElem hk, maskL_snoc]

theorem pow_lt32 {n : Nat} (h : n < 32) : 2 ^ n < 4294967296 := by
  have := Nat.pow_lt_pow_right (a := 2) (by decide) h; simpa using this
theorem pow_le16 {n : Nat} (h : n ≤ 16) : 2 ^ n ≤ 65536 := by
  have := Nat.pow_le_pow_right (n := 2) (by decide) h; simpa using this
theorem pow_int (n : Nat) : (2 : Int) ^ n = ((bit n : Nat) : Int) := by simp [bit]
theorem bit_lt {n : Nat} (h : n < 32) : bit n < 4294967296 := pow_lt32 h
theorem bit_pos (n : Nat) : 0 < bit n := Nat.two_pow_pos n
theorem one_any (v : Int) (w : World) (h0 : 0 ≤ v) (h1 : v < 32) : Calls Tryz.prog 109 #[.int .i64 v] w fun e w' => e = .returned (.int .u32 (bit v.toNat : Int)) ∧ w = w' := by
  obtain ⟨n, rfl⟩ := Int.eq_ofNat_of_zero_le h0
  have hp := bit_lt (n := n) (by omega)
  have he : (2 : Int) ^ n % 4294967296 = (bit n : Int) := by rw [pow_int]; omega
  have HE := Lib.hid he; clear he
  go_enter Tryz.func109, Tryz.ntmps109
  go_wp2
  go_ret
  exact ⟨ret_int HE.out, rfl⟩
theorem firstOf_any (v : Int) (w : World) (h0 : 0 ≤ v) (h1 : v ≤ 16) : Calls Tryz.prog 73 #[.int .i64 v] w fun e w' => e = .returned (.int .u32 (firstN v.toNat : Int)) ∧ w = w' := by
  obtain ⟨n, rfl⟩ := Int.eq_ofNat_of_zero_le h0
  have hp := bit_lt (n := n) (by omega)
  have hp1 := bit_pos n
  have he : ((2 : Int) ^ n % 4294967296 - 1) % 4294967296 = (firstN n : Int) := by
    have : firstN n = bit n - 1 := rfl
    rw [pow_int, this]; omega
  have HE := Lib.hid he; clear he
  go_enter Tryz.func73, Tryz.ntmps73
  go_wp2
  go_ret
  exact ⟨ret_int HE.out, rfl⟩
set_option maxHeartbeats 1000000 in
theorem least_core (m k idx : Nat) (w : World) (hx0 : ((m : Int) == 0) = false)
    (key : bits BinOp.and IntKind.u32 (m : Int) (-(m : Int) % 4294967296) * 125613361 % 4294967296 / 134217728 = (idx : Int))
    (hi : idx < 32) (hk : k < 32) (hcell : w.cell? ⟨0, idx, none⟩ = some (.int .u8 k)) :
    Calls Tryz.prog 72 #[.int .u32 m] w fun e w' => e = .returned (.int .i64 (k : Int)) ∧ w = w' := by
  go_enter Tryz.func72, Tryz.ntmps72
  go_wp2_with (first | go_in | simp only [key])
  go_ret
  exact ⟨rfl, rfl⟩
theorem least_key (x a : Nat) (hx : x < 4294967296) (hx0 : x ≠ 0) (hlow : x &&& (4294967296 - x) = a) :
    bits BinOp.and IntKind.u32 (x : Int) (-(x : Int) % 4294967296) * 125613361 % 4294967296 / 134217728 = ((a * 125613361 % 4294967296 / 134217728 : Nat) : Int) := by
  have e1 : -(x : Int) % 4294967296 = ((4294967296 - x : Nat) : Int) := by omega
  rw [e1, u32_and_nat x _ hx (by omega), hlow]
  omega
theorem least_any (m : Nat) (w : World) (ht : Tab w) (h0 : m ≠ 0) (h1 : m < 4294967296) : Calls Tryz.prog 72 #[.int .u32 m] w fun e w' => e = .returned (.int .i64 (Lib.ctz 32 m : Int)) ∧ w = w' := by
  obtain ⟨hlow, hk⟩ := Lib.lowest_bit 32 m h0 h1
  obtain ⟨hi, htab⟩ := Lib.deBruijn32_at _ hk
  have hcell := ht _ hi
  rw [htab] at hcell
  exact least_core m _ _ w (by simp; omega) (least_key m _ h1 h0 hlow) hi hk hcell
theorem elInt : Elem Tryz.prog 57 3 1 8 (.int .i64 0) := ⟨Tryz.underlying57, by kernel_rfl, rfl, by omega, by omega⟩
set_option maxHeartbeats 1000000 in
theorem list_any (m : Nat) (w : World) (ht : Tab w) (h1 : m < 4294967296) :
    Calls Tryz.prog 110 #[.int .u32 m] w fun e w' => ∃ u, e = .returned u ∧ Own w' w.heap.size 3 1 u (bitsI m).length ((bitsI m).map (.int .i64)) ∧ Below w.heap.size w w' := by
  go_enter Tryz.func110, Tryz.ntmps110
  go_wp2
  go_loopw [3, 0] (fun o s wr => ∃ (v : Value) (done : List Int) (r : Nat), o = v ∧ s = .int .u32 (r : Int) ∧ r < 4294967296 ∧ done ++ bitsI r = bitsI m ∧ Own wr w.heap.size 3 1 v done.length (done.map (.int .i64)) ∧ Below w.heap.size w wr) (fun _ s _ => (intOf s).toNat)
  case atStart =>
    refine ⟨_, [], m, rfl, rfl, h1, rfl, ?_, (Below.refl _ _).alloc (Nat.le_refl _) _⟩
    exact World.ownsRow_lit (base := w.heap.size) (e := 3) (size := 1) w #[] 0 (Nat.le_refl _) (by unfold maxLen; omega) rfl
  case round =>
    obtain ⟨v, done, r, rfl, rfl, hr, hd, hown, hq⟩ := hrel
    have htb := ht.below hq (Nat.le_refl _)
    have HD := Lib.hid hd; clear hd
    by_cases h0 : r = 0
    · subst h0
      go_wp2
      go_ret
      have hd := HD.out
      rw [show bitsI 0 = [] by simp [bitsI, bitsN_zero], List.append_nil] at hd
      subst hd
      exact ⟨_, rfl, hown, hq⟩
    · have hn : ((r : Int) != 0) = true := by rw [bne_iff_ne]; omega
      have hsub : (r : Int) - 1 = ((r - 1 : Nat) : Int) := by omega
      have hand := u32_and_nat r (r - 1) hr (by omega)
      have hlen : done.length ≤ 32 := by have := bitsI_len m; rw [← HD.out, List.length_append] at this; omega
      have hB := hq.size
      have HS := Lib.hid hsub; have HA := Lib.hid hand; clear hsub hand
      go_wp2_with (first
        | (go_at_call 72; refine (least_any _ _ htb h0 hr).mono ?_; rintro e w' ⟨rfl, rfl⟩)
        | (at_builtin; refine wpList_append1 elInt rfl _ _ rfl hown rfl rfl rfl (by omega) hB ?_; intro v' w1 hown1 hkept hmv))
      go_roundw
      case rel =>
        have hd := HD.out
        rw [bitsI_step h0 hr] at hd
        refine ⟨v', done ++ [(Lib.ctz 32 r : Int)], r &&& (r - 1), rfl, ?_, by have := and_pred_lt h0; omega, by rw [List.append_assoc]; exact hd, by simpa using hown1, hkept.below hq hB hown.ge⟩
        rw [HS.out, HA.out]
      case measure =>
        have := and_pred_lt h0
        simp only [intOf]
        rw [HS.out, HA.out]
        omega
set_option maxHeartbeats 1000000 in
theorem maskOf_any {S : Nat → Prop} (v : Value) (xs : List Int) (w : World) (hv : SlI S w .i64 v xs) (hx : ∀ x ∈ xs, 0 ≤ x ∧ x < 32) :
    Calls Tryz.prog 70 #[v] w fun e w' => e = .returned (.int .u32 (maskL xs : Int)) ∧ w = w' := by
  obtain ⟨a, b, off, cap, rfl, hl, ha, hc⟩ := hv
  have hlt : ∀ k, maskL (xs.take k) < 4294967296 := fun k => by
    have := maskL_lt (xs := xs.take k) (n := 32) (fun v hv => hx v (List.mem_of_mem_take hv)); simpa using this
  go_enter Tryz.func70, Tryz.ntmps70
  go_wp2
  go_loop [8, 3] (fun i o => ∃ k : Nat, k ≤ xs.length ∧ i = .int .i64 k ∧ o = .int .u32 (maskL (xs.take k) : Int)) (fun i _ => xs.length - (intOf i).toNat)
  case atStart => exact ⟨0, Nat.zero_le _, rfl, by simp [maskL]⟩
  case round =>
    obtain ⟨k, hk, rfl, rfl⟩ := hrel
    by_cases hk2 : k < xs.length
    · have hcell := hc k hk2
      obtain ⟨rfl, hS⟩ := ha (by omega)
      have hxk := hx xs[k] (List.getElem_mem _)
      have hor := u32_or_nat (maskL (xs.take k)) (bit (xs[k]).toNat) (hlt k) (bit_lt (by omega))
      have hml := Lib.hid (maskL_take hk2)
      go_wp2_with (go_at_call 109; refine (one_any _ _ (by omega) (by omega)).mono ?_; rintro e w' ⟨rfl, rfl⟩)
      go_round
      case rel => exact ⟨k + 1, by omega, by go_num, by rw [hml.out]⟩
      case measure => simp [intOf]; omega
    · go_wp2
      go_ret
      exact ⟨ret_int (by rw [List.take_of_length_le (by omega)]), rfl⟩
set_option maxHeartbeats 1000000 in
theorem specGraphOk_any {S : Nat → Prop} (v : Value) (g : List (List Int)) (w : World) (hv : SlR S w v g) :
    Calls Tryz.prog 40 #[.agg #[v]] w fun e w' => e = .returned (.bool (gokB g)) ∧ Below w.heap.size w w' := by
  obtain ⟨a, b, off, cap, f, rfl, hl, ha, hc0⟩ := hv
  by_cases hn : 1 ≤ g.length ∧ g.length ≤ 16
  · have hb0 := inB_true (n := g.length) (lo := 1) (hi := 16) (by omega)
    go_enter Tryz.func40, Tryz.ntmps40
    go_wp2_with (first | (go_at_call 83; refine (l1In_any _ _ _ _).mono ?_; rintro e w' ⟨rfl, rfl⟩) | go_in)
    go_loopw [4] (fun i wr => ∃ k : Nat, k ≤ g.length ∧ i = .int .i64 k ∧ OkTo1 g k ∧ Below w.heap.size w wr ∧ wr.cell? ⟨w.heap.size, 0, none⟩ = some (.slice a g.length cap)) (fun i _ => g.length - (intOf i).toNat)
    case atStart => exact ⟨0, Nat.zero_le _, rfl, (fun _ _ h => by omega), ((Below.refl _ _).alloc (Nat.le_refl _) _).alloc (by simp) _, by simp⟩
    case round =>
      obtain ⟨k, hk, rfl, hr, hq, hbx⟩ := hrel
      have hc := hc0.below hq (Nat.le_refl _)
      by_cases hlt : k < g.length
      · obtain ⟨hcell, hrow⟩ := hc k hlt
        obtain ⟨rfl, hS⟩ := ha (by omega)
        by_cases h1 : Rise g[k] g.length
        · have hb1 := riseB_true h1
          by_cases h2 : (k : Int) ∈ g[k]
          · have hb2 : decide ((k : Int) ∈ g[k]) = true := by simpa using h2
            go_wp2_with (first | (go_at_call 84; refine (l1Set_any _ _ _ _ hrow (by omega) (by omega)).mono ?_; rintro e w' ⟨rfl, m, rfl⟩) | (go_at_call 41; refine (l1Has_any _ _ _ _ (hrow.drewN _)).mono ?_; rintro e w' ⟨rfl, rfl⟩))
            go_ret
            exact ⟨ret_bool (gokB_false fun h => h.irrefl k hlt h2).symm, hq.trans ((Drawn.refl _).drewN _ |>.below _)⟩
          · have hb2 : decide ((k : Int) ∈ g[k]) = false := by simpa using h2
            go_wp2_with (first | (go_at_call 84; refine (l1Set_any _ _ _ _ hrow (by omega) (by omega)).mono ?_; rintro e w' ⟨rfl, m, rfl⟩) | (go_at_call 41; refine (l1Has_any _ _ _ _ (hrow.drewN _)).mono ?_; rintro e w' ⟨rfl, rfl⟩))
            go_roundw
            case rel => exact ⟨k + 1, by omega, by go_num, okTo1_succ hlt hr h1 h2, hq.trans ((Drawn.refl _).drewN _ |>.below _), hbx⟩
            case measure => simp [intOf]; omega
        · have hb1 := riseB_false h1
          go_wp2_with (first | (go_at_call 84; refine (l1Set_any _ _ _ _ hrow (by omega) (by omega)).mono ?_; rintro e w' ⟨rfl, m, rfl⟩) | (go_at_call 41; refine (l1Has_any _ _ _ _ (hrow.drewN _)).mono ?_; rintro e w' ⟨rfl, rfl⟩))
          go_ret
          exact ⟨ret_bool (gokB_false fun h => h1 (h.rise k hlt)).symm, hq.trans ((Drawn.refl _).drewN _ |>.below _)⟩
      · go_wp2
        go_loopw [5] (fun i wr => ∃ k : Nat, k ≤ g.length ∧ i = .int .i64 k ∧ OkTo2 g k ∧ Below w.heap.size w wr ∧ wr.cell? ⟨w.heap.size, 0, none⟩ = some (.slice a g.length cap)) (fun i _ => g.length - (intOf i).toNat)
        case atStart => exact ⟨0, Nat.zero_le _, rfl, (fun _ _ h => by omega), hq, hbx⟩
        case round =>
          clear hbx hq hc
          obtain ⟨wo, rfl⟩ : ∃ wo : World, wo = wr := ⟨_, rfl⟩
          obtain ⟨j, hj, rfl, hr2, hq, hbx⟩ := hrel
          have hc := hc0.below hq (Nat.le_refl _)
          by_cases hlt2 : j < g.length
          · obtain ⟨hcell, hrow⟩ := hc j hlt2
            obtain ⟨rfl, hS⟩ := ha (by omega)
            go_wp2
            go_loopw [6] (fun i wr => ∃ t : Nat, t ≤ g[j].length ∧ i = .int .i64 t ∧ OkTo3 g j g[j] t ∧ Below w.heap.size w wr ∧ wr.cell? ⟨w.heap.size, 0, none⟩ = some (.slice (some ⟨b, off, none⟩) g.length cap)) (fun i _ => g[j].length - (intOf i).toNat)
            case atStart => exact ⟨0, Nat.zero_le _, rfl, (fun u h => by simp at h), hq, hbx⟩
            case round =>
              clear hbx hq hc hcell hrow
              obtain ⟨t, ht, rfl, hr3, hq, hbx⟩ := hrel
              have hc := hc0.below hq (Nat.le_refl _)
              obtain ⟨hcell, hrow0⟩ := hc j hlt2
              obtain ⟨ra, rb, roff, rcap, hfj, hrl, hra, hrc⟩ := hrow0
              rw [hfj] at hcell
              by_cases hlt3 : t < g[j].length
              · have hcell2 := hrc t hlt3
                obtain ⟨rfl, _⟩ := hra (by omega)
                have hrise := (hr j hlt2 (by omega)).1 t hlt3 hlt3
                obtain ⟨u, hu⟩ := Int.eq_ofNat_of_zero_le hrise.1
                have hul : u < g.length := by omega
                rw [hu] at hcell2
                obtain ⟨hcell3, hrow3⟩ := hc u hul
                have hu2 : g.getD (g[j][t]).toNat [] = g[u] := by rw [hu]; simp [hul]
                by_cases h2 : (j : Int) ∈ g[u]
                · have hb2 : decide ((j : Int) ∈ g[u]) = true := by simpa using h2
                  go_wp2
                  go_quiet ((go_at_call 41; exact quiet_same (l1Has_any _ _ _ _ (hrow3.drewN _))))
                  go_wp2
                  go_roundw
                  case rel => exact ⟨t + 1, by omega, by go_num, okTo3_succ hlt3 hr3 (by rw [hu2]; exact h2), hq.trans ((Drawn.refl _).drewN _ |>.below _), hbx⟩
                  case measure => simp [intOf]; omega
                · have hb2 : decide ((j : Int) ∈ g[u]) = false := by simpa using h2
                  go_wp2
                  go_quiet ((go_at_call 41; exact quiet_same (l1Has_any _ _ _ _ (hrow3.drewN _))))
                  go_wp2
                  go_ret
                  refine ⟨ret_bool (gokB_false fun h => h2 ?_).symm, hq.trans ((Drawn.refl _).drewN _ |>.below _)⟩
                  rw [← hu2]; exact h.symm j hlt2 _ (List.getElem_mem _)
              · go_wp2
                go_roundw
                case rel => exact ⟨j + 1, by omega, by go_num, okTo2_succ hlt2 hr2 (by rw [show g[j].length = t from by omega]; exact hr3), hq, hbx⟩
                case measure => simp [intOf]; omega
          · go_wp2
            go_ret
            exact ⟨ret_bool (gokB_true (gok_of hn hr (by omega) hr2 (by omega))).symm, hq⟩
  · have hb0 := inB_false (n := g.length) (lo := 1) (hi := 16) (by omega)
    go_enter Tryz.func40, Tryz.ntmps40
    go_wp2_with (first | (go_at_call 83; refine (l1In_any _ _ _ _).mono ?_; rintro e w' ⟨rfl, rfl⟩) | go_in)
    go_ret
    exact ⟨ret_bool (gokB_false fun h => hn ⟨h.lo, h.hi⟩).symm, ((Below.refl _ _).alloc (Nat.le_refl _) _).alloc (by simp) _⟩
theorem inRange_any (n lo hi : Int) (w : World) : Calls Tryz.prog 121 #[.int .i64 n, .int .i64 lo, .int .i64 hi] w fun e w' => e = .returned (.bool (inB n lo hi)) ∧ w = w' := by
  by_cases h1 : lo ≤ n
  · by_cases h2 : n ≤ hi
    · go_enter Tryz.func121, Tryz.ntmps121
      go_wp2
      go_ret
      exact ⟨ret_bool (by simp [inB, h1, h2]), rfl⟩
    · go_enter Tryz.func121, Tryz.ntmps121
      go_wp2
      go_ret
      exact ⟨ret_bool (by simp [inB, h1, h2]), rfl⟩
  · go_enter Tryz.func121, Tryz.ntmps121
    go_wp2
    go_ret
    exact ⟨ret_bool (by have : decide (lo ≤ n) = false := by simpa using h1
                        simp [inB, this]), rfl⟩
/-- slices.Index. -/
def idxI (xs : List Int) (n : Int) : Int := if xs.findIdx (· == n) < xs.length then (xs.findIdx (· == n) : Nat) else -1
theorem idxI_hit {xs : List Int} {n : Int} {k : Nat} (hk : k < xs.length) (h : NotIn xs n k) (he : xs[k] = n) : idxI xs n = k := by
  have : xs.findIdx (· == n) = k := by
    rw [List.findIdx_eq hk]
    refine ⟨by simpa using he, fun j hj => ?_⟩
    have hne : ¬ xs[j] = n := fun e => h (List.mem_take_iff_getElem.2 ⟨j, by omega, e⟩)
    simpa using hne
  rw [idxI, this, if_pos hk]
theorem idxI_miss {xs : List Int} {n : Int} {k : Nat} (hk : xs.length ≤ k) (h : NotIn xs n k) : idxI xs n = -1 := by
  unfold NotIn at h; rw [List.take_of_length_le hk] at h
  rw [idxI, if_neg]
  rw [List.findIdx_lt_length]
  rintro ⟨x, hx, he⟩
  have : x = n := by simpa using he
  exact h (this ▸ hx)
theorem idxI_iff {xs : List Int} {n : Int} : decide (0 ≤ idxI xs n) = decide (n ∈ xs) := by
  by_cases h : n ∈ xs
  · obtain ⟨i, hi, e⟩ := List.getElem_of_mem h
    have hlt : xs.findIdx (· == n) < xs.length := List.findIdx_lt_length.2 ⟨n, h, by simp⟩
    simp [idxI, hlt, h]
  · have : ¬ xs.findIdx (· == n) < xs.length := by
      rw [List.findIdx_lt_length]; rintro ⟨x, hx, he⟩
      have : x = n := by simpa using he
      exact h (this ▸ hx)
    simp [idxI, this, h]
set_option maxHeartbeats 400000 in
theorem index_any {S : Nat → Prop} (v : Value) (xs : List Int) (n : Int) (w : World) (hv : SlI S w .i64 v xs) :
    Calls Tryz.prog 75 #[v, .int .i64 n] w fun e w' => e = .returned (.int .i64 (idxI xs n)) ∧ w = w' := by
  obtain ⟨a, b, off, cap, rfl, hl, ha, hc⟩ := hv
  go_enter Tryz.func75, Tryz.ntmps75
  go_wp2
  go_loop [8] (fun i => ∃ k : Nat, k ≤ xs.length ∧ i = .int .i64 k ∧ NotIn xs n k) (fun i => xs.length - (intOf i).toNat)
  case atStart => exact ⟨0, Nat.zero_le _, rfl, notIn_zero _ _⟩
  case round =>
    obtain ⟨k, hk, rfl, hn⟩ := hrel
    by_cases hlt : k < xs.length
    · have hcell := hc k hlt
      obtain ⟨rfl, hS⟩ := ha (by omega)
      by_cases he : xs[k] = n
      · have hb : (n == xs[k]) = true := by simp [he]
        have HE := Lib.hid he; clear he
        go_wp2
        go_ret
        exact ⟨ret_int (idxI_hit hlt hn HE.out).symm, rfl⟩
      · have hb : (n == xs[k]) = false := by simpa using fun e : n = xs[k] => he e.symm
        go_wp2
        go_round
        case rel => exact ⟨k + 1, by omega, by go_num, notIn_succ hlt hn he⟩
        case measure => simp [intOf]; omega
    · go_wp2
      go_ret
      exact ⟨ret_int (idxI_miss (by omega) hn).symm, rfl⟩
theorem contains_any {S : Nat → Prop} (v : Value) (xs : List Int) (n : Int) (w : World) (hv : SlI S w .i64 v xs) :
    Calls Tryz.prog 100 #[v, .int .i64 n] w fun e w' => e = .returned (.bool (decide (n ∈ xs))) ∧ w = w' := by
  go_enter Tryz.func100, Tryz.ntmps100
  go_wp2_with (go_at_call 75; refine (index_any _ _ _ _ hv).mono ?_; rintro e w' ⟨rfl, rfl⟩)
  go_ret
  exact ⟨ret_bool idxI_iff, rfl⟩
set_option maxHeartbeats 400000 in
theorem increasing_any {S : Nat → Prop} (v : Value) (xs : List Int) (n : Int) (w : World) (hv : SlI S w .i64 v xs) (hn1 : 0 ≤ n) (hn2 : n ≤ 1000000) :
    Calls Tryz.prog 99 #[v, .int .i64 n] w fun e w' => e = .returned (.bool (riseB xs n)) ∧ w = w' := by
  obtain ⟨a, b, off, cap, rfl, hl, ha, hc⟩ := hv
  go_enter Tryz.func99, Tryz.ntmps99
  go_wp2
  go_loop [9] (fun i => ∃ k : Nat, k ≤ xs.length ∧ i = .int .i64 k ∧ RiseTo xs n k) (fun i => xs.length - (intOf i).toNat)
  case atStart => exact ⟨0, Nat.zero_le _, rfl, riseTo_zero _ _⟩
  case round =>
    obtain ⟨k, hk, rfl, hr⟩ := hrel
    by_cases hlt : k < xs.length
    · have hcell := hc k hlt
      obtain ⟨rfl, hS⟩ := ha (by omega)
      by_cases hin : 0 ≤ xs[k] ∧ xs[k] ≤ n - 1
      · have hb := inB_true hin
        by_cases h0 : 0 < k
        · have hcell1 := hc (k - 1) (by omega)
          have hg : decide ((0 : Int) < k) = true := by simp; omega
          have hw3 : ((k : Int) - 1).toNat = k - 1 := by omega
          by_cases hcmp : xs[k] ≤ xs[k - 1]
          · go_wp2_with (go_at_call 121; refine (inRange_any _ _ _ _).mono ?_; rintro e w' ⟨rfl, rfl⟩)
            go_ret
            exact ⟨ret_bool (riseB_false (rise_bad_step hlt h0 hcmp)).symm, rfl⟩
          · go_wp2_with (go_at_call 121; refine (inRange_any _ _ _ _).mono ?_; rintro e w' ⟨rfl, rfl⟩)
            go_round
            case rel => exact ⟨k + 1, by omega, by go_num, riseTo_succ hlt hr hin.1 hin.2 (fun _ => by omega)⟩
            case measure => simp [intOf]; omega
        · have hg : decide ((0 : Int) < k) = false := by simp; omega
          go_wp2_with (go_at_call 121; refine (inRange_any _ _ _ _).mono ?_; rintro e w' ⟨rfl, rfl⟩)
          go_round
          case rel => exact ⟨k + 1, by omega, by go_num, riseTo_succ hlt hr hin.1 hin.2 (fun _ => by omega)⟩
          case measure => simp [intOf]; omega
      · have hb := inB_false hin
        go_wp2_with (go_at_call 121; refine (inRange_any _ _ _ _).mono ?_; rintro e w' ⟨rfl, rfl⟩)
        go_ret
        exact ⟨ret_bool (riseB_false (rise_bad_range hlt hin)).symm, rfl⟩
    · go_wp2
      go_ret
      obtain rfl : k = xs.length := by omega
      exact ⟨ret_bool (riseB_true hr).symm, rfl⟩
set_option maxHeartbeats 1000000 in
theorem implGraphOk_any {S : Nat → Prop} (v : Value) (g : List (List Int)) (w : World) (hv : SlR S w v g) :
    Calls Tryz.prog 60 #[.agg #[v]] w fun e w' => e = .returned (.bool (gokB g)) ∧ Below w.heap.size w w' := by
  obtain ⟨a, b, off, cap, f, rfl, hl, ha, hc0⟩ := hv
  by_cases hn : 1 ≤ g.length ∧ g.length ≤ 16
  · have hq0 : Below w.heap.size w (w.alloc (.cells #[.slice a g.length cap] 26)) := (Below.refl _ _).alloc (Nat.le_refl _) _
    have hc := hc0.below hq0 (Nat.le_refl _)
    go_enter Tryz.func60, Tryz.ntmps60
    go_wp2
    go_loop [22] (fun i => ∃ k : Nat, k ≤ g.length ∧ i = .int .i64 k ∧ OkTo1 g k) (fun i => g.length - (intOf i).toNat)
    case atStart => exact ⟨0, Nat.zero_le _, rfl, (fun _ _ h => by omega)⟩
    case round =>
      obtain ⟨k, hk, rfl, hr⟩ := hrel
      by_cases hlt : k < g.length
      · obtain ⟨hcell, hrow⟩ := hc k hlt
        obtain ⟨rfl, hS⟩ := ha (by omega)
        by_cases h1 : Rise g[k] g.length
        · have hb1 := riseB_true h1
          by_cases h2 : (k : Int) ∈ g[k]
          · have hb2 : decide ((k : Int) ∈ g[k]) = true := by simpa using h2
            go_wp2_with (first | (go_at_call 99; refine (increasing_any _ _ _ _ hrow (by omega) (by omega)).mono ?_; rintro e w' ⟨rfl, rfl⟩) | (go_at_call 100; refine (contains_any _ _ _ _ hrow).mono ?_; rintro e w' ⟨rfl, rfl⟩))
            go_ret
            exact ⟨ret_bool (gokB_false fun h => h.irrefl k hlt h2).symm, hq0⟩
          · have hb2 : decide ((k : Int) ∈ g[k]) = false := by simpa using h2
            go_wp2_with (first | (go_at_call 99; refine (increasing_any _ _ _ _ hrow (by omega) (by omega)).mono ?_; rintro e w' ⟨rfl, rfl⟩) | (go_at_call 100; refine (contains_any _ _ _ _ hrow).mono ?_; rintro e w' ⟨rfl, rfl⟩))
            go_round
            case rel => exact ⟨k + 1, by omega, by go_num, okTo1_succ hlt hr h1 h2⟩
            case measure => simp [intOf]; omega
        · have hb1 := riseB_false h1
          go_wp2_with (first | (go_at_call 99; refine (increasing_any _ _ _ _ hrow (by omega) (by omega)).mono ?_; rintro e w' ⟨rfl, rfl⟩) | (go_at_call 100; refine (contains_any _ _ _ _ hrow).mono ?_; rintro e w' ⟨rfl, rfl⟩))
          go_ret
          exact ⟨ret_bool (gokB_false fun h => h1 (h.rise k hlt)).symm, hq0⟩
      · go_wp2
        go_loop [40] (fun i => ∃ k : Nat, k ≤ g.length ∧ i = .int .i64 k ∧ OkTo2 g k) (fun i => g.length - (intOf i).toNat)
        case atStart => exact ⟨0, Nat.zero_le _, rfl, (fun _ _ h => by omega)⟩
        case round =>
          obtain ⟨j, hj, rfl, hr2⟩ := hrel
          by_cases hlt2 : j < g.length
          · obtain ⟨hcell, hrow0⟩ := hc j hlt2
            obtain ⟨rfl, hS⟩ := ha (by omega)
            obtain ⟨ra, rb, roff, rcap, hfj, hrl, hra, hrc⟩ := hrow0
            rw [hfj] at hcell
            go_wp2
            go_loop [47] (fun i => ∃ t : Nat, t ≤ g[j].length ∧ i = .int .i64 t ∧ OkTo3 g j g[j] t) (fun i => g[j].length - (intOf i).toNat)
            case atStart => exact ⟨0, Nat.zero_le _, rfl, (fun u h => by simp at h)⟩
            case round =>
              obtain ⟨t, ht, rfl, hr3⟩ := hrel
              by_cases hlt3 : t < g[j].length
              · have hcell2 := hrc t hlt3
                obtain ⟨rfl, _⟩ := hra (by omega)
                have hrise := (hr j hlt2 (by omega)).1 t hlt3 hlt3
                obtain ⟨u, hu⟩ := Int.eq_ofNat_of_zero_le hrise.1
                have hul : u < g.length := by omega
                rw [hu] at hcell2
                obtain ⟨hcell3, hrow3⟩ := hc u hul
                have hu2 : g.getD (g[j][t]).toNat [] = g[u] := by rw [hu]; simp [hul]
                have HU := Lib.hid hu; have HU2 := Lib.hid hu2; clear hu hu2
                by_cases h2 : (j : Int) ∈ g[u]
                · have hb2 : decide ((j : Int) ∈ g[u]) = true := by simpa using h2
                  go_wp2_with (go_at_call 100; refine (contains_any _ _ _ _ hrow3).mono ?_; rintro e w' ⟨rfl, rfl⟩)
                  go_round
                  case rel => exact ⟨t + 1, by omega, by go_num, okTo3_succ hlt3 hr3 (by rw [HU2.out]; exact h2)⟩
                  case measure => simp [intOf]; omega
                · have hb2 : decide ((j : Int) ∈ g[u]) = false := by simpa using h2
                  go_wp2_with (go_at_call 100; refine (contains_any _ _ _ _ hrow3).mono ?_; rintro e w' ⟨rfl, rfl⟩)
                  go_ret
                  refine ⟨ret_bool (gokB_false fun h => h2 ?_).symm, hq0⟩
                  rw [← HU2.out]; exact h.symm j hlt2 _ (List.getElem_mem _)
              · go_wp2
                go_round
                case rel => exact ⟨j + 1, by omega, by go_num, okTo2_succ hlt2 hr2 (by rw [show g[j].length = t from by omega]; exact hr3)⟩
                case measure => simp [intOf]; omega
          · go_wp2
            go_ret
            exact ⟨ret_bool (gokB_true (gok_of hn hr (by omega) hr2 (by omega))).symm, hq0⟩
  · by_cases h1 : g.length < 1
    · go_enter Tryz.func60, Tryz.ntmps60
      go_wp2
      go_ret
      exact ⟨ret_bool (gokB_false fun h => hn ⟨h.lo, h.hi⟩).symm, (Below.refl _ _).alloc (Nat.le_refl _) _⟩
    · go_enter Tryz.func60, Tryz.ntmps60
      go_wp2
      go_ret
      exact ⟨ret_bool (gokB_false fun h => hn ⟨h.lo, h.hi⟩).symm, (Below.refl _ _).alloc (Nat.le_refl _) _⟩

noncomputable def setOkB (g : List (List Int)) (s : List Int) : Bool := gokB g && riseB s g.length
def rangeI (n : Nat) : List Int := (List.range n).map fun i : Nat => (i : Int)
theorem mem_rangeI {n : Nat} {v : Int} : v ∈ rangeI n ↔ 0 ≤ v ∧ v < n := by
  simp only [rangeI, List.mem_map, List.mem_range]
  constructor
  · rintro ⟨i, hi, rfl⟩; omega
  · rintro ⟨h0, h1⟩; exact ⟨v.toNat, by omega, by omega⟩
/-- How many of a set are in a row. -/
def cntIn (set row : List Int) : Nat := (set.filter (fun x => decide (x ∈ row))).length
def splitsB (g : List (List Int)) (set : List Int) (v : Int) : Bool := decide (0 < cntIn set (g.getD v.toNat [])) && decide (cntIn set (g.getD v.toNat []) < set.length)
def splitAtB (g : List (List Int)) (set : List Int) (v : Int) : Bool := !decide (v ∈ set) && splitsB g set v
def splitterI (g : List (List Int)) (inside set : List Int) : Int := match inside.find? (splitAtB g set) with | some v => v | none => -1
theorem take_step {α : Type} {P : α → Prop} {xs : List α} {k : Nat} (hk : k < xs.length) (h : ∀ v ∈ xs.take k, P v) (h1 : P xs[k]) : ∀ v ∈ xs.take (k + 1), P v := by
  intro v hv
  rw [List.take_succ_eq_append_getElem hk] at hv
  simp only [List.mem_append, List.mem_singleton] at hv
  rcases hv with hv | rfl
  · exact h v hv
  · exact h1


noncomputable def modB (g : List (List Int)) (set : List Int) : Bool := setOkB g set && decide (0 < set.length) && decide (splitterI g (rangeI g.length) set < 0)
noncomputable def splOf (g : List (List Int)) (set : List Int) : Int := if setOkB g set = true then splitterI g (rangeI g.length) set else -1


/-- Words as integers. -/
def natsI (l : List Nat) : List Int := l.map fun n : Nat => (n : Int)
theorem natsI_len (l : List Nat) : (natsI l).length = l.length := by simp [natsI]
theorem natsI_get {l : List Nat} {i : Nat} (h : i < (natsI l).length) : (natsI l)[i] = ((l[i]'(by simpa [natsI] using h) : Nat) : Int) := by simp [natsI]
def netsL (g : List (List Int)) : List Nat := g.map maskL
theorem netsI_snoc (l : List (List Int)) (x : List Int) : natsI (netsL (l ++ [x])) = natsI (netsL l) ++ [(maskL x : Int)] := by simp [natsI, netsL]
theorem GOk.ge {g : List (List Int)} (h : GOk g) {v : Nat} (hv : v < g.length) : ∀ x ∈ g[v], 0 ≤ x ∧ x < g.length := by
  intro x hx
  obtain ⟨i, hi, rfl⟩ := List.getElem_of_mem hx
  have := h.rise v hv i hi hi
  omega
theorem GOk.ge32 {g : List (List Int)} (h : GOk g) {v : Nat} (hv : v < g.length) : ∀ x ∈ g[v], 0 ≤ x ∧ x < 32 := by
  intro x hx
  have h1 := h.ge hv x hx
  have h2 := h.hi
  omega
/-- a &^ b. -/
def andN (a b : Nat) : Nat := a &&& (4294967295 - b)
theorem testBit_andN {a b : Nat} (ha : a < 4294967296) (hb : b < 4294967296) (i : Nat) : (andN a b).testBit i = (a.testBit i && !b.testBit i) := by
  unfold andN
  rw [Nat.testBit_and]
  have e : 4294967295 - b = 2 ^ 32 - (b + 1) := by omega
  rw [e, Nat.testBit_two_pow_sub_succ (by simpa using hb)]
  by_cases h : i < 32
  · simp [h]
  · have : a.testBit i = false := Nat.testBit_lt_two_pow (Nat.lt_of_lt_of_le ha (by
      have := Nat.pow_le_pow_right (n := 2) (by decide) (show 32 ≤ i by omega); simpa using this))
    simp [this]
theorem andN_le (a b : Nat) : andN a b ≤ a := Nat.and_le_left
theorem firstN_lt {n : Nat} (h : n ≤ 16) : firstN n < 65536 := by
  have h1 := pow_le16 h
  have h2 := Nat.two_pow_pos n
  unfold firstN; omega
/-- Which of some vertices split a set of words. -/
def splW (a : List Nat) (s : Nat) (v : Int) : Bool := decide (a.getD v.toNat 0 &&& s ≠ 0) && decide (a.getD v.toNat 0 &&& s ≠ s)
def splN (a : List Nat) (within s : Nat) : Nat := maskL ((bitsI (andN within s)).filter (splW a s))
theorem bitsI_lt {m : Nat} {n : Nat} (hm : m < 2 ^ n) (hn : n ≤ 32) : ∀ v ∈ bitsI m, 0 ≤ v ∧ v < n := by
  intro v hv
  have hm32 : m < 4294967296 := Nat.lt_of_lt_of_le hm (by have := Nat.pow_le_pow_right (n := 2) (by decide) hn; simpa using this)
  obtain ⟨h0, h1⟩ := (mem_bitsI hm32).1 hv
  refine ⟨h0, ?_⟩
  apply Int.lt_of_not_ge
  intro hge
  have : m < 2 ^ v.toNat := Nat.lt_of_lt_of_le hm (Nat.pow_le_pow_right (by decide) (by omega))
  rw [Nat.testBit_lt_two_pow this] at h1; cases h1
theorem lt_bits {m n : Nat} (h : ∀ i, m.testBit i = true → i < n) : m < 2 ^ n := Nat.lt_pow_two_of_testBit m fun i hi => by
  by_cases hb : m.testBit i = true
  · have := h i hb; omega
  · simpa using hb

theorem elNets : Elem Tryz.prog 61 65 1 4 (.int .u32 0) := ⟨Tryz.underlying61, by kernel_rfl, rfl, by omega, by omega⟩
set_option maxHeartbeats 1000000 in
theorem netsOf_any {S : Nat → Prop} (v : Value) (g : List (List Int)) (w : World) (hv : SlR S w v g) (hg : GOk g) :
    Calls Tryz.prog 33 #[.agg #[v]] w fun e w' => ∃ u, e = .returned u ∧ Own w' w.heap.size 65 1 u g.length ((natsI (netsL g)).map (.int .u32)) ∧ Below w.heap.size w w' := by
  obtain ⟨a, b, off, cap, f, rfl, hl, ha, hc0⟩ := hv
  have hhi := hg.hi
  go_enter Tryz.func33, Tryz.ntmps33
  go_wp2
  go_loopw [10, 3] (fun i o wr => ∃ k : Nat, k ≤ g.length ∧ i = .int .i64 k ∧ Own wr w.heap.size 65 1 o k ((natsI (netsL (g.take k))).map (.int .u32)) ∧ Below w.heap.size w wr) (fun i _ _ => g.length - (intOf i).toNat)
  case atStart =>
    refine ⟨0, Nat.zero_le _, rfl, ?_, ((Below.refl _ _).alloc (Nat.le_refl _) _).alloc (by simp) _⟩
    have := World.ownsRow_lit (base := w.heap.size) (e := 65) (size := 1) (w.alloc (.cells #[.slice a g.length cap] 26)) #[] 0 (by simp) (by unfold maxLen; omega) rfl
    simpa [Own, natsI, netsL] using this
  case round =>
    obtain ⟨k, hk, rfl, hown, hq⟩ := hrel
    have hc := hc0.below hq (Nat.le_refl _)
    have hB := hq.size
    by_cases hlt : k < g.length
    · obtain ⟨hcell, hrow⟩ := hc k hlt
      obtain ⟨rfl, hS⟩ := ha (by omega)
      go_wp2_with (first
        | (go_at_call 70; refine (maskOf_any _ _ _ hrow (hg.ge32 hlt)).mono ?_; rintro e w' ⟨rfl, rfl⟩)
        | (at_builtin; refine wpList_append1 elNets rfl _ _ rfl hown rfl rfl rfl (by omega) hB ?_; intro v' w1 hown1 hkept hmv))
      go_roundw
      case rel =>
        refine ⟨k + 1, by omega, by go_num, ?_, hkept.below hq hB hown.ge⟩
        rw [List.take_succ_eq_append_getElem hlt, netsI_snoc, List.map_append]; exact hown1
      case measure => simp [intOf]; omega
    · go_wp2
      go_ret
      obtain rfl : k = g.length := by omega
      rw [List.take_length] at hown
      exact ⟨_, rfl, hown, hq⟩
theorem allOf_any (a : Option Addr) (n c : Nat) (w : World) (hn : n ≤ 16) : Calls Tryz.prog 35 #[.slice a n c] w fun e w' => e = .returned (.int .u32 (firstN n : Int)) ∧ w = w' := by
  go_enter Tryz.func35, Tryz.ntmps35
  go_wp2_with (go_at_call 73; refine (firstOf_any _ _ (by omega) (by omega)).mono ?_; rintro e w' ⟨rfl, rfl⟩)
  go_ret
  exact ⟨rfl, rfl⟩
