/- The reference's cursor over a code: bytes drawn. -/
import Derived.Test.YtdbanndcdbikmaaGreatDoorLink
import Derived.Test.YtdbanndcdbikmaaGreatDoorHeld
import Derived.Test.YtdbanndcdbikmaaGreatDoorLoopL
namespace Go.Proofs.YtdbanndcdbikmaaGreatDoor
open Go.RowKit
theorem i64_and_low (x : Int) (m : Nat) (hm : m < 4294967296) : ∃ r : Nat, bits .and .i64 x (m : Int) = (r : Int) ∧ r ≤ m := by
  have h2 : (BitVec.ofInt 64 (m : Int)).toNat = m := by
    rw [BitVec.ofInt_natCast, BitVec.toNat_ofNat]; exact Nat.mod_eq_of_lt (by omega)
  have hle : (BitVec.ofInt 64 x &&& BitVec.ofInt 64 (m : Int)).toNat ≤ m := by
    rw [BitVec.toNat_and, h2]; exact Nat.and_le_right
  refine ⟨(BitVec.ofInt 64 x &&& BitVec.ofInt 64 (m : Int)).toNat, ?_, hle⟩
  show IntKind.i64.wrap ((BitVec.ofInt 64 x &&& BitVec.ofInt 64 (m : Int)).toNat : Int) = _
  rw [IntKind.wrap_i64]
  omega
theorem and_fun (m : Nat) (hm : m < 4294967296) : ∃ f : Int → Nat, (∀ x, bits .and .i64 x (m : Int) = (f x : Int)) ∧ ∀ x, f x ≤ m :=
  ⟨fun x => (i64_and_low x m hm).choose, fun x => (i64_and_low x m hm).choose_spec.1, fun x => (i64_and_low x m hm).choose_spec.2⟩
theorem Link.keepSet (w : World) (b o : Nat) (v : Value) : KeptBut w (w.setCell ⟨b, o, none⟩ v) (some b) := ⟨rfl, rfl, rfl, by simp, fun k _ hne => Below.heap_setCell _ _ _ _ (by simpa using fun e => hne (by rw [e]))⟩
/-- The cursor's box at block d; the bytes lie in older blocks. -/
structure Cur (w : World) (d : Nat) (bs : List Int) : Prop where
  lt : d < w.heap.size
  rng : ∀ x ∈ bs, 0 ≤ x ∧ x < 256
  st : ∃ a c, ∃ i : Nat, ∃ h : Int, w.cell? ⟨d, 0, none⟩ = some (.slice a bs.length c) ∧ w.cell? ⟨d, 1, none⟩ = some (.int .i64 (i : Int)) ∧ w.cell? ⟨d, 2, none⟩ = some (.int .i64 h) ∧ i ≤ bs.length ∧ SlI (fun b => b < d) w .u8 (.slice a bs.length c) bs
  f1 : w.frozen? ⟨d, 1, none⟩ = false
  f2 : w.frozen? ⟨d, 2, none⟩ = false
theorem Cur.below {w w' : World} {d B : Nat} {bs : List Int} (h : Cur w d bs) (hb : Below B w w') (hB : w.heap.size ≤ B) : Cur w' d bs := by
  obtain ⟨a, c, i, s, c0, c1, c2, hi, hsl⟩ := h.st
  have hl := h.lt
  have hz := hb.size
  exact ⟨by omega, h.rng, ⟨a, c, i, s, (hb.cell (p := ⟨d, 0, none⟩) (by simp; omega)).trans c0, (hb.cell (p := ⟨d, 1, none⟩) (by simp; omega)).trans c1, (hb.cell (p := ⟨d, 2, none⟩) (by simp; omega)).trans c2, hi, hsl.below hb hB⟩,
    (hb.frozen (p := ⟨d, 1, none⟩) (by simp; omega)).trans h.f1, (hb.frozen (p := ⟨d, 2, none⟩) (by simp; omega)).trans h.f2⟩
theorem Cur.kept {w w' : World} {d : Nat} {bs : List Int} {r : Option Nat} (h : Cur w d bs) (k : KeptBut w w' r) (hr : ∀ b, r = some b → d < b) : Cur w' d bs := by
  obtain ⟨a, c, i, s, c0, c1, c2, hi, hsl⟩ := h.st
  have hl := h.lt
  have hb : w'.heap[d]? = w.heap[d]? := k.2.2.2.2 d hl (fun e => by have := hr d e.symm; omega)
  exact ⟨by have := k.2.2.2.1; omega, h.rng, ⟨a, c, i, s, (World.cell?_of_block (a := ⟨d, 0, none⟩) hb).trans c0, (World.cell?_of_block (a := ⟨d, 1, none⟩) hb).trans c1, (World.cell?_of_block (a := ⟨d, 2, none⟩) hb).trans c2, hi,
    hsl.keep fun b hb => k.2.2.2.2 b (by omega) (fun e => by have := hr b e.symm; omega)⟩,
    (World.frozen?_of_block (a := ⟨d, 1, none⟩) hb).trans h.f1, (World.frozen?_of_block (a := ⟨d, 2, none⟩) hb).trans h.f2⟩
/-- A step of the cursor: its own box alone is written. -/
def Step (w w' : World) (d : Nat) (bs : List Int) : Prop := Cur w' d bs ∧ KeptBut w w' (some d) ∧ w'.heap.size = w.heap.size
set_option maxHeartbeats 4000000 in
theorem l1Byte_any {d : Nat} {bs : List Int} {w : World} (hd : Cur w d bs) (hl : bs.length ≤ 4096) :
    Calls Tryz.prog 96 #[.pointer (some ⟨d, 0, none⟩)] w fun e w' => ∃ r : Nat, e = .returned (.int .i64 (r : Int)) ∧ r < 256 ∧ Step w w' d bs := by
  obtain ⟨a, c, i, s, c0, c1, c2, hi, hsl⟩ := hd.st
  have f1 := hd.f1
  have f2 := hd.f2
  obtain ⟨f, hf1, hf2⟩ := and_fun 255 (by omega)
  simp only [Int.cast_ofNat_Int] at hf1
  have hf3 : ∀ x, f x < 256 := fun x => by have := hf2 x; omega
  have hlt := hd.lt
  go_enter Tryz.func96, Tryz.ntmps96
  go_wp2
  generalize wrap64 (wrap64 (s * 6364136223846793005) + 1442695040888963407) = s2
  have d0 : (w.setCell ⟨d, 2, none⟩ (.int .i64 s2)).cell? ⟨d, 0, none⟩ = some (.slice a bs.length c) := by simp [go_sem, *]
  have d1 : (w.setCell ⟨d, 2, none⟩ (.int .i64 s2)).cell? ⟨d, 1, none⟩ = some (.int .i64 (i : Int)) := by simp [go_sem, *]
  have d2 : (w.setCell ⟨d, 2, none⟩ (.int .i64 s2)).cell? ⟨d, 2, none⟩ = some (.int .i64 s2) := by simp [go_sem, *]
  have e1 : (w.setCell ⟨d, 2, none⟩ (.int .i64 s2)).frozen? ⟨d, 1, none⟩ = false := by simp [go_sem, *]
  have e2 : (w.setCell ⟨d, 2, none⟩ (.int .i64 s2)).frozen? ⟨d, 2, none⟩ = false := by simp [go_sem, *]
  have hk1 := Link.keepSet w d 2 (.int .i64 s2)
  have hz1 : (w.setCell ⟨d, 2, none⟩ (.int .i64 s2)).heap.size = w.heap.size := by simp
  have hsl1 := (hsl.keep (w' := w.setCell ⟨d, 2, none⟩ (.int .i64 s2)) (fun b hb => Below.heap_setCell _ _ _ _ (by simp; omega)))
  generalize w.setCell ⟨d, 2, none⟩ (.int .i64 s2) = w1 at *
  have hl1 : d < w1.heap.size := by omega
  go_quiet (fail)
  go_wp2
  by_cases hil : i < bs.length
  case neg =>
    have hg1 : decide ((i : Int) < (bs.length : Int)) = false := decide_eq_false (by omega)
    have hg2 : decide (i < bs.length) = false := decide_eq_false hil
    go_quiet (fail)
    go_wp2
    go_ret
    refine ⟨f _, rfl, hf3 _, ⟨by simp; omega, hd.rng, ⟨a, c, i, s2, ?_, ?_, ?_, hi, ?_⟩, ?_, ?_⟩, ⟨hk1.1, hk1.2.1, hk1.2.2.1, by simpa using hk1.2.2.2.1, fun k hk hne => by simpa using hk1.2.2.2.2 k hk hne⟩, by simpa using hz1⟩
    · simpa [go_sem] using d0
    · simpa [go_sem] using d1
    · simpa [go_sem] using d2
    · exact hsl1.keep fun _ _ => by simp
    · simpa [go_sem] using e1
    · simpa [go_sem] using e2
  have hg1 : decide ((i : Int) < (bs.length : Int)) = true := decide_eq_true (by omega)
  have hg2 : decide (i < bs.length) = true := decide_eq_true hil
  obtain ⟨ba, bb, boff, bcap, hv, hbl, hba, hbt⟩ := hsl1
  simp only [Value.slice.injEq, true_and] at hv
  obtain ⟨rfl, rfl⟩ := hv
  obtain ⟨rfl, hbw⟩ := hba (by omega)
  have hbd : bb ≠ d := by omega
  have hbx := hbt i hil
  have hi1 : i + 1 ≤ bs.length := hil
  have hsl2 : SlI (fun b => b < d) w1 .u8 (.slice (some ⟨bb, boff, none⟩) bs.length c) bs := ⟨_, bb, boff, c, rfl, hbl, fun _ => ⟨rfl, hbw⟩, hbt⟩
  generalize bs[i] = y at *
  go_quiet (fail)
  go_wp2
  go_quiet (fail)
  go_wp2
  go_ret
  refine ⟨f _, rfl, hf3 _, ⟨by simp; omega, hd.rng, ⟨some ⟨bb, boff, none⟩, c, i + 1, s2, ?_, ?_, ?_, hi1, ?_⟩, ?_, ?_⟩, ⟨hk1.1, hk1.2.1, hk1.2.2.1, by simpa using hk1.2.2.2.1, fun k hk hne => ?_⟩, by simpa using hz1⟩
  · simp [go_sem, *]
  · simp [go_sem, *]
  · simp [go_sem, *]
  · exact hsl2.keep (fun b hb => (Below.heap_setCell _ _ _ _ (by simp; omega)).trans (by simp))
  · simp [go_sem, *]
  · simp [go_sem, *]
  · exact (Below.heap_setCell _ _ _ _ (by simpa using fun e => hne (by rw [e]))).trans (hk1.2.2.2.2 k hk hne)
/-- A move of the cursor: old blocks but its own box are as they were. -/
def Mv (w w' : World) (d : Nat) (bs : List Int) : Prop := Cur w' d bs ∧ KeptBut w w' (some d)
theorem Step.mv {w w' : World} {d : Nat} {bs : List Int} (h : Step w w' d bs) : Mv w w' d bs := ⟨h.1, h.2.1⟩
theorem kept_twice {w w1 w2 : World} {r : Option Nat} (h : KeptBut w w1 r) (k : KeptBut w1 w2 r) : KeptBut w w2 r :=
  ⟨k.1.trans h.1, k.2.1.trans h.2.1, k.2.2.1.trans h.2.2.1, Nat.le_trans h.2.2.2.1 k.2.2.2.1, fun b hb hne => (k.2.2.2.2 b (Nat.lt_of_lt_of_le hb h.2.2.2.1) hne).trans (h.2.2.2.2 b hb hne)⟩
theorem kept_ofB {w w' : World} {r : Option Nat} {B : Nat} (h : Below B w w') (hB : w.heap.size ≤ B) : KeptBut w w' r := ⟨h.os, h.tape, h.output, h.size, fun k hk _ => h.block k (by omega)⟩
theorem kept_app {w0 w w' : World} {d : Nat} {r : Option Nat} (h : KeptBut w0 w (some d)) (k : KeptBut w w' r) (hr : ∀ b, r = some b → w0.heap.size ≤ b) : KeptBut w0 w' (some d) :=
  ⟨k.1.trans h.1, k.2.1.trans h.2.1, k.2.2.1.trans h.2.2.1, Nat.le_trans h.2.2.2.1 k.2.2.2.1, fun b hb hne => (k.2.2.2.2 b (Nat.lt_of_lt_of_le hb h.2.2.2.1) (fun e => by have := hr b e.symm; omega)).trans (h.2.2.2.2 b hb hne)⟩
theorem Mv.trans {w w1 w2 : World} {d : Nat} {bs : List Int} (h : Mv w w1 d bs) (k : Mv w1 w2 d bs) : Mv w w2 d bs := ⟨k.1, kept_twice h.2 k.2⟩
theorem Mv.below {w w1 w2 : World} {d B : Nat} {bs : List Int} (h : Mv w w1 d bs) (k : Below B w1 w2) (hB : w1.heap.size ≤ B) : Mv w w2 d bs := ⟨h.1.below k hB, kept_twice h.2 (kept_ofB k hB)⟩
theorem Mv.start {w w1 : World} {d B : Nat} {bs : List Int} (h : Cur w d bs) (k : Below B w w1) (hB : w.heap.size ≤ B) : Mv w w1 d bs := ⟨h.below k hB, kept_ofB k hB⟩
theorem Mv.size {w w1 : World} {d : Nat} {bs : List Int} (h : Mv w w1 d bs) : w.heap.size ≤ w1.heap.size := h.2.2.2.2.1
theorem Mv.cell {w w1 : World} {d : Nat} {bs : List Int} (h : Mv w w1 d bs) {a : Addr} (ha : a.block < w.heap.size) (hd : a.block ≠ d) : w1.cell? a = w.cell? a := World.cell?_of_block (h.2.2.2.2.2 a.block ha (fun e => hd (by simpa using e)))
set_option maxHeartbeats 2000000 in
theorem l1Below_any {d : Nat} {bs : List Int} {n : Int} {w : World} (hd : Cur w d bs) (hl : bs.length ≤ 4096) (hn : n ≤ 256) :
    Calls Tryz.prog 57 #[.pointer (some ⟨d, 0, none⟩), .int .i64 n] w fun e w' => ∃ r : Nat, e = .returned (.int .i64 (r : Int)) ∧ (0 < n → (r : Int) < n) ∧ (n ≤ 0 → r = 0) ∧ Mv w w' d bs := by
  by_cases h0 : n ≤ 0
  · have hc : decide (n ≤ 0) = true := decide_eq_true h0
    go_enter Tryz.func57, Tryz.ntmps57
    go_wp2
    go_ret
    exact ⟨0, rfl, fun h => by omega, fun _ => rfl, Mv.start hd (Below.refl w.heap.size _) (Nat.le_refl _)⟩
  obtain ⟨m, rfl⟩ := Int.eq_ofNat_of_zero_le (show 0 ≤ n by omega)
  have hm : 0 < m := by omega
  have hc : decide ((m : Int) ≤ 0) = false := decide_eq_false h0
  have hc2 : decide ((m : Int) ≤ 256) = true := decide_eq_true hn
  have hc3 : decide (m ≤ 256) = true := decide_eq_true (by omega)
  have hm0 : ¬ m = 0 := by omega
  go_enter Tryz.func57, Tryz.ntmps57
  go_wp2_with fail
  refine (l1Byte_any hd hl).mono ?_
  rintro e w1 ⟨r, rfl, hr, hs⟩
  have hrm : (r : Int) % (m : Int) = ((r % m : Nat) : Int) := rfl
  have hrl : r % m < m := Nat.mod_lt _ hm
  generalize r % m = q at *
  go_wp2
  go_ret
  exact ⟨q, ret_int hrm, fun _ => by omega, fun h => by omega, hs.mv⟩
theorem l1Once_any {d n : Nat} {bs : List Int} {w : World} (hd : Cur w d bs) (hl : bs.length ≤ 4096) (hn : n ≤ 256) :
    Calls Tryz.prog 56 #[.pointer (some ⟨d, 0, none⟩), .int .i64 (n : Int)] w fun e w' => ∃ b : Bool, e = .returned (.bool b) ∧ Mv w w' d bs := by
  go_enter Tryz.func56, Tryz.ntmps56
  go_wp2_with fail
  refine (l1Below_any hd hl (by omega)).mono ?_
  rintro e w1 ⟨r, rfl, -, -, hs⟩
  go_wp2
  go_ret
  exact ⟨_, rfl, hs⟩
theorem l1Min_any {a b : Nat} {w : World} : Calls Tryz.prog 98 #[.int .i64 (a : Int), .int .i64 (b : Int)] w fun e w' => e = .returned (.int .i64 ((min a b : Nat) : Int)) ∧ w = w' := by
  by_cases h : a < b
  · have e : min a b = a := by omega
    rw [e]
    go_enter Tryz.func98, Tryz.ntmps98
    go_wp2
    go_ret
    exact ⟨rfl, rfl⟩
  · have e : min a b = b := by omega
    rw [e]
    go_enter Tryz.func98, Tryz.ntmps98
    go_wp2
    go_ret
    exact ⟨rfl, rfl⟩
set_option maxHeartbeats 2000000 in
theorem l1Odd_any {d : Nat} {bs : List Int} {w : World} (hd : Cur w d bs) (hl : bs.length ≤ 4096) :
    Calls Tryz.prog 97 #[.pointer (some ⟨d, 0, none⟩)] w fun e w' => ∃ x : Int, e = .returned (.int .i64 x) ∧ Mv w w' d bs := by
  have hdl := hd.lt
  have hb0 : Below w.heap.size w (w.alloc (.cells #[.int .i64 (-1), .int .i64 0, .int .i64 1, .int .i64 2147483648, .int .i64 (-2147483648), .int .i64 1099511627776, .int .i64 4611686018427387904, .int .i64 (-4611686018427387904), .int .i64 9223372036854775807, .int .i64 (-9223372036854775808)] 2)) := (Below.refl _ _).alloc (Nat.le_refl _) _
  have hs0 := Mv.start hd hb0 (Nat.le_refl _)
  go_enter Tryz.func97, Tryz.ntmps97
  go_wp2_with fail
  refine (l1Below_any hs0.1 hl (by omega)).mono ?_
  rintro e w1 ⟨r, rfl, hr, -, hs⟩
  have hr10 : r < 10 := by have := hr (by omega); omega
  have hc := hs.cell (a := ⟨w.heap.size, r, none⟩) (by simp) (by simp; omega)
  have hr2 : (r : Int) < 10 := by omega
  have hx : ∃ x : Int, w1.cell? ⟨w.heap.size, r, none⟩ = some (.int .i64 x) := by
    rw [hc]
    match r, hr10 with
    | 0, _ => exact ⟨_, by simp [go_sem]; rfl⟩
    | 1, _ => exact ⟨_, by simp [go_sem]; rfl⟩
    | 2, _ => exact ⟨_, by simp [go_sem]; rfl⟩
    | 3, _ => exact ⟨_, by simp [go_sem]; rfl⟩
    | 4, _ => exact ⟨_, by simp [go_sem]; rfl⟩
    | 5, _ => exact ⟨_, by simp [go_sem]; rfl⟩
    | 6, _ => exact ⟨_, by simp [go_sem]; rfl⟩
    | 7, _ => exact ⟨_, by simp [go_sem]; rfl⟩
    | 8, _ => exact ⟨_, by simp [go_sem]; rfl⟩
    | 9, _ => exact ⟨_, by simp [go_sem]; rfl⟩
  obtain ⟨x, hx⟩ := hx
  clear hc
  go_wp2
  go_ret
  exact ⟨x, rfl, hs0.trans hs⟩
set_option maxHeartbeats 4000000 in
theorem l1Num_any {d most : Nat} {bs : List Int} {w : World} (hd : Cur w d bs) (hl : bs.length ≤ 4096) (hm : most ≤ 200) :
    Calls Tryz.prog 59 #[.pointer (some ⟨d, 0, none⟩), .int .i64 (most : Int)] w fun e w' => ∃ x : Int, e = .returned (.int .i64 x) ∧ Mv w w' d bs := by
  have hdl := hd.lt
  have hw1 : IntKind.i64.wrap ((most : Int) + 1) = (most : Int) + 1 := IntWalk.i64_in _ (by omega)
  have hw2 : IntKind.i64.wrap (((min most 4 : Nat) : Int) + 1) = ((min most 4 : Nat) : Int) + 1 := IntWalk.i64_in _ (by omega)
  have hmin : min most 4 ≤ 4 := by omega
  go_enter Tryz.func59, Tryz.ntmps59
  go_wp2_with fail
  refine (l1Once_any (n := 10) hd hl (by omega)).mono ?_
  rintro e w1 ⟨b, rfl, h1⟩
  cases b with
  | true =>
    go_wp2_with fail
    refine (l1Odd_any h1.1 hl).mono ?_
    rintro e w2 ⟨x, rfl, h2⟩
    have hb3 : Below w2.heap.size w2 (w2.alloc (.cells #[.int .i64 (-1), .int .i64 (most : Int), .int .i64 ((most : Int) + 1), .int .i64 x] 2)) := (Below.refl _ _).alloc (Nat.le_refl _) _
    have h3 := (h1.trans h2).below hb3 (Nat.le_refl _)
    have hd2 := h2.1.lt
    go_wp2_with fail
    refine (l1Below_any h3.1 hl (by omega)).mono ?_
    rintro e w4 ⟨r, rfl, hr, -, h4⟩
    have hr4 : r < 4 := by have := hr (by omega); omega
    have hc := h4.cell (a := ⟨w2.heap.size, r, none⟩) (by simp) (by simp; omega)
    have hr2 : (r : Int) < 4 := by omega
    have hx : ∃ x : Int, w4.cell? ⟨w2.heap.size, r, none⟩ = some (.int .i64 x) := by
      rw [hc]
      match r, hr4 with
      | 0, _ => exact ⟨_, by simp [go_sem]; rfl⟩
      | 1, _ => exact ⟨_, by simp [go_sem]; rfl⟩
      | 2, _ => exact ⟨_, by simp [go_sem]; rfl⟩
      | 3, _ => exact ⟨_, by simp [go_sem]; rfl⟩
    obtain ⟨y, hy⟩ := hx
    clear hc
    go_wp2
    go_ret
    exact ⟨y, rfl, h3.trans h4⟩
  | false =>
    go_wp2_with fail
    refine (l1Once_any (n := 2) h1.1 hl (by omega)).mono ?_
    rintro e w2 ⟨b, rfl, h2⟩
    cases b with
    | true =>
      go_wp2_with (go_at_call 98; refine (l1Min_any (a := most) (b := 4)).mono ?_; rintro e w' ⟨rfl, rfl⟩)
      refine (l1Below_any (n := ((min most 4 : Nat) : Int) + 1) h2.1 hl (by omega)).mono ?_
      rintro e w3 ⟨r, rfl, -, -, h3⟩
      go_wp2
      go_ret
      exact ⟨_, rfl, (h1.trans h2).trans h3⟩
    | false =>
      go_wp2_with fail
      refine (l1Below_any (n := (most : Int) + 1) h2.1 hl (by omega)).mono ?_
      rintro e w3 ⟨r, rfl, -, -, h3⟩
      go_wp2
      go_ret
      exact ⟨_, rfl, (h1.trans h2).trans h3⟩
theorem OwnR.kept {w w' : World} {B C : Nat} {EO EI : TypeId} {u : Value} {g : List (List Int)} {r : Option Nat} (h : OwnR w B C EO EI u g) (k : KeptBut w w' r) (hr : ∀ b, r = some b → b < B) : OwnR w' B C EO EI u g := by
  obtain ⟨vs, h1, h2, h3, hap, h4⟩ := h
  have hne : ∀ b, B ≤ b → some b ≠ r := fun b hb e => by have := hr b e.symm; omega
  exact ⟨vs, h1, h2.keep fun b hb => k.2.2.2.2 b (h2.lt b hb).2 (hne b (h2.lt b hb).1), h3, hap, fun i hi hi2 => ⟨(h4 i hi hi2).1.keep fun b hb => k.2.2.2.2 b ((h4 i hi hi2).1.lt b hb).2 (hne b ((h4 i hi hi2).1.lt b hb).1), (h4 i hi hi2).2⟩⟩
def pathL (k : Nat) : List NP := (List.range k).map fun i => (i, i + 1)
theorem pathL_succ (k : Nat) : pathL (k + 1) = pathL k ++ [(k, k + 1)] := by simp [pathL, List.range_succ]
theorem pathL_mem {k : Nat} {s : NP} (h : s ∈ pathL k) : s.2 = s.1 + 1 ∧ s.1 < k := by
  obtain ⟨i, hi, rfl⟩ := List.mem_map.1 h
  exact ⟨rfl, List.mem_range.1 hi⟩
theorem EdL.m16 {L : List NP} {n : Nat} {M : List Nat} (h : EdL L n M) (h16 : n ≤ 16) (hL : ∀ s ∈ L, s.1 < s.2 ∧ s.2 < n) : ∀ m ∈ M, m < 65536 := fun m hm => by
  have h1 := h.lt hL m hm
  have h2 := pow_le16 h16
  omega
/-- A graph that is just made. -/
def NewG (EO EI : TypeId) (L : List NP) (n : Nat) (w : World) (e : Ending) (w' : World) : Prop :=
  ∃ u M, e = .returned (.tuple #[.agg #[u], .bool true]) ∧ OwnR w' w.heap.size w'.heap.size EO EI u (M.map bitsI) ∧ EdL L n M ∧ Below w.heap.size w w'
set_option maxHeartbeats 2000000 in
theorem l6Of_any {n : Nat} {w : World} (h1 : 1 ≤ n) (h16 : n ≤ 16) : Calls Tryz.prog 132 #[.int .i64 (n : Int)] w (NewG 36 2 [] n w) := by
  have hb0 : Below w.heap.size w (w.alloc (.cells #[.slice none 0 0] 26)) := (Below.refl _ _).alloc (Nat.le_refl _) _
  have hr0 := own_new w w.heap.size 26 (.slice none 0 0) (Nat.le_refl _)
  have hin : inB (n : Int) 1 16 = true := inB_true (by omega)
  have hli := fun (W : World) => l1In_any (n : Int) 1 16 W
  rw [hin] at hli
  have hem := l1Empty_any (w := w.alloc (.cells #[.slice none 0 0] 26)) h16
  go_enter Tryz.func132, Tryz.ntmps132
  go_wp2_with (first | (go_at_call 83; refine (hli _).mono ?_; rintro e w' ⟨rfl, rfl⟩) | fail)
  refine hem.mono ?_
  rintro e w1 ⟨u, rfl, hu, hb1⟩
  have hr1 := hr0.below hb1 (Nat.le_refl _)
  have hq1 := hb0.trans (hb1.mono hb0.size)
  rw [repl_bits] at hu
  obtain ⟨ua, uc, hue⟩ := hu.isSlice
  rw [List.length_map, List.length_replicate] at hue
  subst hue
  obtain ⟨x1, x2, -, -⟩ := own_cell hr1
  go_wp2
  refine bodyPost_ret (v := .tuple #[.agg #[.slice ua n uc], .bool true]) (by simp [results, Tryz.results132, go_sem, x1]) rfl ⟨_, _, rfl, ((hu.weaken (B1 := w.heap.size) (by simp) (Nat.le_refl _)).setOther hr1 (by decide) (by decide) _).weaken (Nat.le_refl _) (by simp), EdL.start n, hq1.setCell (by simp) _⟩
set_option maxRecDepth 100000 in
set_option maxHeartbeats 4000000 in
theorem pathGraph_any {n : Nat} {w : World} (h1 : 1 ≤ n) (h16 : n ≤ 16) : Calls Tryz.prog 119 #[.int .i64 (n : Int)] w (NewG 36 2 (pathL (n - 1)) n w) := by
  have hb0 : Below w.heap.size w (w.alloc (.cells #[.slice none 0 0] 26)) := (Below.refl _ _).alloc (Nat.le_refl _) _
  have hr0 := own_new w w.heap.size 26 (.slice none 0 0) (Nat.le_refl _)
  have hem := l6Of_any (w := w.alloc (.cells #[.slice none 0 0] 26)) h1 h16
  go_enter Tryz.func119, Tryz.ntmps119
  go_wp2_with fail
  refine hem.mono ?_
  rintro e w1 ⟨u, M0, rfl, hu, hE0, hb1⟩
  have hq1 := hb0.trans (hb1.mono hb0.size)
  have hr1 := hr0.below hb1 (Nat.le_refl _)
  have hu := hu.weaken (B1 := w.heap.size) (C1 := w1.heap.size) (by simp) (Nat.le_refl _)
  obtain ⟨ua, uc, hue⟩ := hu.isSlice
  rw [List.length_map, hE0.1] at hue
  subst hue
  have hb2 : Below w1.heap.size w1 (w1.alloc (.cells #[.slice ua n uc] 26)) := (Below.refl _ _).alloc (Nat.le_refl _) _
  have hq2 := hq1.trans (hb2.mono hq1.size)
  have hr2 := hr1.below hb2 (Nat.le_refl _)
  have hu2 := (hu.below hb2 (Nat.le_refl _)).weaken (Nat.le_refl _) hb2.size
  have ho2 := own_new w1 w.heap.size 26 (.slice ua n uc) hq1.size
  have hE := Lib.hid hE0
  have hw1s : w.heap.size < w1.heap.size := (hr1.lt _ rfl).2
  clear hem hu hr0 hr1 hb0 hb1 hb2 hq1 hE0
  go_wp2
  go_loopw [6] (fun iv wr => ∃ (i : Nat) (u : Value) (M : List Nat), 1 ≤ i ∧ i ≤ n ∧ iv = .int .i64 i ∧ OwnR wr w.heap.size wr.heap.size 36 2 u (M.map bitsI) ∧ RowKit.Hid (EdL (pathL (i - 1)) n M) ∧ Own wr w.heap.size 26 1 (.slice (some ⟨w1.heap.size, 0, none⟩) 1 1) 1 [u] ∧ Own wr w.heap.size 26 1 (.slice (some ⟨w.heap.size, 0, none⟩) 1 1) 1 [.slice none 0 0] ∧ Below w.heap.size w wr) (fun iv _ => n - (intOf iv).toNat)
  case atStart => exact ⟨1, _, M0, by omega, by omega, by first | rfl | go_num, hu2, (show RowKit.Hid (EdL (pathL (1 - 1)) n M0) from hE), ho2, hr2, hq2⟩
  case round =>
    clear hu2 hE ho2 hr2 hq2
    obtain ⟨i, u, M, hi1, hi, rfl, hR, hE, hou, hr, hq⟩ := hrel
    obtain ⟨wi, rfl⟩ : ∃ wx : World, wx = wr := ⟨_, rfl⟩
    obtain ⟨ua, uc, hue⟩ := hR.isSlice
    rw [List.length_map, hE.out.1] at hue
    subst hue
    obtain ⟨o1, o2, -, -⟩ := own_cell hou
    by_cases hlt : i < n
    case neg =>
      have hie : i = n := by omega
      have hE2 := Lib.hid (show EdL (pathL (n - 1)) n M by have := hE.out; rw [hie] at this; exact this)
      clear hie
      obtain ⟨r1, r2, -, -⟩ := own_cell hr
      go_wp2
      refine bodyPost_ret (v := .tuple #[.agg #[.slice ua n uc], .bool true]) (by simp [results, Tryz.results119, go_sem, r1]) rfl ⟨_, M, rfl, (hR.setOther hr (by decide) (by decide) _).weaken (Nat.le_refl _) (by simp), hE2.out, hq.setCell (by simp) _⟩
    have hall : ∀ s ∈ pathL (i - 1), s.1 < s.2 ∧ s.2 < n := fun s hs => by have := pathL_mem hs; omega
    have hpre := hE.out.pre (k := i - 1) (i := i) (by omega) hlt (fun s hs => (hall s hs).1) (fun hm => by have := pathL_mem hm; simp at this)
    have hM16 := hE.out.m16 h16 hall
    have hML := hE.out.1
    have hlk := l1Link_any (k := i - 1) (i := i) hR (Nat.le_refl _) hq.size (by omega) (by omega) (by omega) hM16 (by omega) hpre.1 hpre.2
    have hEN := Lib.hid (show EdL (pathL (i + 1 - 1)) n (linkN M (i - 1) i) from by
      have := hE.out.next (k := i - 1) (i := i) (by omega) hlt
      have e : pathL (i + 1 - 1) = pathL (i - 1) ++ [(i - 1, i)] := by
        rw [show i + 1 - 1 = (i - 1) + 1 from by omega, pathL_succ, show i - 1 + 1 = i from by omega]
      rw [e]; exact this)
    have hw1 : IntKind.i64.wrap ((i : Int) - 1) = ((i - 1 : Nat) : Int) := by rw [IntWalk.i64_in _ (by omega)]; omega
    have hnob := hR.other hou (by decide)
    have hnrb := hR.other hr (by decide)
    have hlo := (hou.lt _ rfl).2
    have hlr := (hr.lt _ rfl).2
    have hqs := hq.size
    clear hall hpre hM16 hML
    go_wp2_with fail
    refine hlk.mono ?_
    rintro e wm ⟨rfl, hRm, hbm, hfr⟩
    have houm := own1_keep hou (hfr _ hlo hnob)
    have hrm := own1_keep hr (hfr _ hlr hnrb)
    have hqm := hq.trans hbm
    obtain ⟨x1, x2, -, -⟩ := own_cell houm
    clear hlk hR hou hr o1 o2
    go_wp2
    go_roundw
    case rel => exact ⟨i + 1, _, _, by omega, by omega, by go_num, (hRm.setOther houm (by decide) (by decide) _).weaken (Nat.le_refl _) (by simp), hEN, own_set houm _, own1_keep hrm (Below.heap_setCell _ _ _ _ (by (simp; omega))), hqm.setCell (by simp; omega) _⟩
    case measure => simp [intOf]; omega
set_option maxRecDepth 100000 in
set_option maxHeartbeats 4000000 in
theorem loopGraph_any {n : Nat} {w : World} (h1 : 3 ≤ n) (h16 : n ≤ 16) : Calls Tryz.prog 118 #[.int .i64 (n : Int)] w (NewG 36 2 (pathL (n - 1) ++ [(0, n - 1)]) n w) := by
  have hb0 : Below w.heap.size w (w.alloc (.cells #[.slice none 0 0] 26)) := (Below.refl _ _).alloc (Nat.le_refl _) _
  have hr0 := own_new w w.heap.size 26 (.slice none 0 0) (Nat.le_refl _)
  have hem := pathGraph_any (w := w.alloc (.cells #[.slice none 0 0] 26)) (by omega) h16
  have hc1 : decide ((n : Int) < 3) = false := decide_eq_false (by omega)
  have hc2 : decide (n < 3) = false := decide_eq_false (by omega)
  have hw1 : IntKind.i64.wrap ((n : Int) - 1) = ((n - 1 : Nat) : Int) := by rw [IntWalk.i64_in _ (by omega)]; omega
  go_enter Tryz.func118, Tryz.ntmps118
  go_wp2_with fail
  refine hem.mono ?_
  rintro e w1 ⟨u, M, rfl, hu, hE, hb1⟩
  have hq1 := hb0.trans (hb1.mono hb0.size)
  have hr1 := hr0.below hb1 (Nat.le_refl _)
  have hu := hu.weaken (B1 := w.heap.size) (C1 := w1.heap.size) (by simp) (Nat.le_refl _)
  obtain ⟨ua, uc, hue⟩ := hu.isSlice
  rw [List.length_map, hE.1] at hue
  subst hue
  have hb2 : Below w1.heap.size w1 (w1.alloc (.cells #[.slice ua n uc] 26)) := (Below.refl _ _).alloc (Nat.le_refl _) _
  have hq2 := hq1.trans (hb2.mono hq1.size)
  have hr2 := hr1.below hb2 (Nat.le_refl _)
  have hu2 := (hu.below hb2 (Nat.le_refl _)).weaken (Nat.le_refl _) hb2.size
  have hall : ∀ s ∈ pathL (n - 1), s.1 < s.2 ∧ s.2 < n := fun s hs => by have := pathL_mem hs; omega
  have hpre := hE.pre (k := 0) (i := n - 1) (by omega) (by omega) (fun s hs => (hall s hs).1) (fun hm => by have := pathL_mem hm; simp at this; omega)
  have hM16 := hE.m16 h16 hall
  have hML := hE.1
  have hlk := l1Link_any (k := 0) (i := n - 1) hu2 (Nat.le_refl _) hq2.size (by omega) (by omega) (by omega) hM16 (by omega) hpre.1 hpre.2
  have hEN := Lib.hid (hE.next (k := 0) (i := n - 1) (by omega) (by omega))
  have hnrb := hu2.other hr2 (by decide)
  have hlr := (hr2.lt _ rfl).2
  clear hall hpre hM16 hML hem hu hr0 hr1 hb0 hb1 hb2 hq1 hE
  go_wp2_with fail
  refine hlk.mono ?_
  rintro e wm ⟨rfl, hRm, hbm, hfr⟩
  have hrm := own1_keep hr2 (hfr _ hlr hnrb)
  have hqm := hq2.trans hbm
  obtain ⟨x1, x2, -, -⟩ := own_cell hrm
  go_wp2
  refine bodyPost_ret (v := .tuple #[.agg #[.slice ua n uc], .bool true]) (by simp [results, Tryz.results118, go_sem, x1]) rfl ⟨_, _, rfl, (hRm.setOther hrm (by decide) (by decide) _).weaken (Nat.le_refl _) (by simp), hEN.out, hqm.setCell (by simp) _⟩
theorem Cur.base {w w' : World} {d B : Nat} {bs : List Int} (h : Cur w d bs) (k : Below B w w') (hd : d < B) : Cur w' d bs := by
  obtain ⟨a, c, i, s, c0, c1, c2, hi, hsl⟩ := h.st
  have hl := h.lt
  have hz := k.size
  exact ⟨by omega, h.rng, ⟨a, c, i, s, (k.cell (p := ⟨d, 0, none⟩) hd).trans c0, (k.cell (p := ⟨d, 1, none⟩) hd).trans c1, (k.cell (p := ⟨d, 2, none⟩) hd).trans c2, hi, hsl.keep fun b hb => k.block b (by omega)⟩,
    (k.frozen (p := ⟨d, 1, none⟩) hd).trans h.f1, (k.frozen (p := ⟨d, 2, none⟩) hd).trans h.f2⟩
theorem Mv.base {w w1 w2 : World} {d : Nat} {bs : List Int} (h : Mv w w1 d bs) (k : Below w.heap.size w1 w2) (hd : d < w.heap.size) : Mv w w2 d bs :=
  ⟨h.1.base k hd, ⟨k.os.trans h.2.1, k.tape.trans h.2.2.1, k.output.trans h.2.2.2.1, Nat.le_trans h.2.2.2.2.1 k.size, fun b hb hne => (k.block b hb).trans (h.2.2.2.2.2 b hb hne)⟩⟩
set_option maxRecDepth 100000 in
set_option maxHeartbeats 8000000 in
theorem l1DrawOf_any {d n : Nat} {bs : List Int} {w : World} (hd : Cur w d bs) (hl : bs.length ≤ 4096) (h1 : 1 ≤ n) (h16 : n ≤ 16) :
    Calls Tryz.prog 120 #[.pointer (some ⟨d, 0, none⟩), .int .i64 (n : Int)] w fun e w' => ∃ u g, e = .returned (.agg #[u]) ∧ OwnR w' w.heap.size w'.heap.size 36 2 u g ∧ GOk g ∧ g.length = n ∧ Mv w w' d bs := by
  have hdl := hd.lt
  have hb0 : Below w.heap.size w (w.alloc (.cells #[.slice none 0 0] 26)) := (Below.refl _ _).alloc (Nat.le_refl _) _
  have hr0 := own_new w w.heap.size 26 (.slice none 0 0) (Nat.le_refl _)
  have hm0 := Mv.start hd hb0 (Nat.le_refl _)
  have hem := l1Empty_any (w := w.alloc (.cells #[.slice none 0 0] 26)) h16
  go_enter Tryz.func120, Tryz.ntmps120
  go_wp2_with fail
  refine hem.mono ?_
  rintro e w1 ⟨u, rfl, hu, hb1⟩
  have hm1 := hm0.below hb1 (Nat.le_refl _)
  have hr1 := hr0.below hb1 (Nat.le_refl _)
  rw [repl_bits] at hu
  have hu := hu.weaken (B1 := w.heap.size) (C1 := w1.heap.size) (by simp) (Nat.le_refl _)
  obtain ⟨ua, uc, hue⟩ := hu.isSlice
  rw [List.length_map, List.length_replicate] at hue
  subst hue
  have hw1s : w.heap.size < w1.heap.size := (hr1.lt _ rfl).2
  have hb2 : Below w1.heap.size w1 (w1.alloc (.cells #[.slice ua n uc] 26)) := (Below.refl _ _).alloc (Nat.le_refl _) _
  have hm2 := hm1.below hb2 (Nat.le_refl _)
  have hr2 := hr1.below hb2 (Nat.le_refl _)
  have hu2 := (hu.below hb2 (Nat.le_refl _)).weaken (Nat.le_refl _) hb2.size
  have ho2 := own_new w1 w.heap.size 26 (.slice ua n uc) (by omega)
  have hE := Lib.hid (EdL.start n)
  generalize List.replicate n 0 = M0 at *
  clear hem hu hr0 hr1 hb0 hb1 hb2 hm0 hm1
  go_wp2_with fail
  refine (l1Below_any (n := 3) hm2.1 hl (by omega)).mono ?_
  rintro e w3 ⟨r3, rfl, hr3, -, hm3⟩
  have hr33 : (r3 : Int) < 3 := hr3 (by omega)
  have hkd := hm3.2
  have hu3 := (hu2.kept hkd (by simp; omega)).weaken (Nat.le_refl _) hm3.size
  have ho3 := own1_kept ho2 hkd (by simp; omega)
  have hr3o := own1_kept hr2 hkd (by simp; omega)
  have hm3 := hm2.trans hm3
  have hwo : IntKind.i64.wrap (1 + (r3 : Int)) = 1 + (r3 : Int) := IntWalk.i64_in _ (by omega)
  clear hu2 ho2 hr2 hm2 hkd hr3
  go_wp2
  go_loopw [7] (fun vv wr => ∃ (x : Nat) (u : Value) (M : List Nat) (L : List NP), 1 ≤ x ∧ x ≤ n ∧ vv = .int .i64 x ∧ OwnR wr w.heap.size wr.heap.size 36 2 u (M.map bitsI) ∧ RowKit.Hid (EdL L n M) ∧ RowKit.Hid (PL n L x 0) ∧ Own wr w.heap.size 26 1 (.slice (some ⟨w1.heap.size, 0, none⟩) 1 1) 1 [u] ∧ Own wr w.heap.size 26 1 (.slice (some ⟨w.heap.size, 0, none⟩) 1 1) 1 [.slice none 0 0] ∧ Mv w wr d bs) (fun vv _ => n - (intOf vv).toNat)
  case atStart => exact ⟨1, _, M0, [], by omega, h1, rfl, hu3, hE, Lib.hid (PL.start n), ho3, hr3o, hm3⟩
  case round =>
    clear hu3 hE ho3 hr3o hm3
    obtain ⟨x, u, M, L, hx1, hxn, rfl, hR, hE, HP, hou, hr, hm⟩ := hrel
    obtain ⟨wi, rfl⟩ : ∃ wx : World, wx = wr := ⟨_, rfl⟩
    by_cases hlt : x < n
    case neg =>
      have HGK := Lib.hid (hE.out.gok h1 h16 (fun s hs => by have := HP.out.all s hs; omega))
      have HML := Lib.hid hE.out.1
      obtain ⟨ua, uc, hue⟩ := hR.isSlice
      rw [List.length_map, hE.out.1] at hue
      subst hue
      obtain ⟨o1, o2, -, -⟩ := own_cell hou
      obtain ⟨r1, r2, -, -⟩ := own_cell hr
      have hms := hm.size
      go_wp2
      refine bodyPost_ret (v := .agg #[.slice ua n uc]) (by simp [results, Tryz.results120, go_sem, r1]) rfl ⟨_, M.map bitsI, rfl, (hR.setOther hr (by decide) (by decide) _).weaken (Nat.le_refl _) (by simp), HGK.out, by rw [List.length_map, HML.out], hm.base ((Below.refl _ _).setCell (by simp) _) hdl⟩
    go_wp2
    go_loopw [8] (fun uv wr => ∃ (y : Nat) (u : Value) (M : List Nat) (L : List NP), y ≤ x ∧ uv = .int .i64 y ∧ OwnR wr w.heap.size wr.heap.size 36 2 u (M.map bitsI) ∧ RowKit.Hid (EdL L n M) ∧ RowKit.Hid (PL n L x y) ∧ Own wr w.heap.size 26 1 (.slice (some ⟨w1.heap.size, 0, none⟩) 1 1) 1 [u] ∧ Own wr w.heap.size 26 1 (.slice (some ⟨w.heap.size, 0, none⟩) 1 1) 1 [.slice none 0 0] ∧ Mv w wr d bs) (fun uv _ => x - (intOf uv).toNat)
    case atStart => exact ⟨0, u, M, L, Nat.zero_le _, rfl, hR, hE, HP, hou, hr, hm⟩
    case round =>
      clear hR hE HP hou hr hm
      obtain ⟨y, u, M, L, hy, rfl, hR, hE, HP, hou, hr, hm⟩ := hrel
      obtain ⟨wj, rfl⟩ : ∃ wx : World, wx = wr := ⟨_, rfl⟩
      by_cases hyx : y < x
      case neg =>
        have hye : y = x := by omega
        have HP2 := Lib.hid (show PL n L (x + 1) 0 from (by rw [hye] at HP; exact HP.out.row))
        clear hye
        go_wp2
        go_roundw
        case rel => exact ⟨x + 1, u, M, L, by omega, by omega, by go_num, hR, hE, HP2, hou, hr, hm⟩
        case measure => simp [intOf]; omega
      have hms := hm.size
      go_wp2_with fail
      refine (l1Below_any (n := 4) hm.1 hl (by omega)).mono ?_
      rintro e w5 ⟨r, rfl, hr4, -, hm5⟩
      have hkd := hm5.2
      have hR5 := (hR.kept hkd (by simp; omega)).weaken (Nat.le_refl _) hm5.size
      have hou5 := own1_kept hou hkd (by simp; omega)
      have hr5 := own1_kept hr hkd (by simp; omega)
      have hmm := hm.trans hm5
      have hms5 := hmm.size
      clear hR hou hr hm hm5 hkd hr4 hms
      by_cases hc : (r : Int) < 1 + (r3 : Int)
      case neg =>
        have hcd : decide ((r : Int) < 1 + (r3 : Int)) = false := decide_eq_false hc
        have HP2 := Lib.hid HP.out.skip
        go_wp2
        go_roundw
        case rel => exact ⟨y + 1, u, M, L, by omega, by go_num, hR5, hE, HP2, hou5, hr5, hmm⟩
        case measure => simp [intOf]; omega
      have hcd : decide ((r : Int) < 1 + (r3 : Int)) = true := decide_eq_true hc
      have HP2 := Lib.hid (HP.out.add hyx hlt)
      have hall : ∀ s ∈ L, s.1 < s.2 ∧ s.2 < n := fun s hs => by have := HP.out.all s hs; omega
      have hpre := hE.out.pre hyx hlt (fun s hs => (hall s hs).1) (fun hm => by have := HP.out.all _ hm; simp at this)
      have hM16 := hE.out.m16 h16 hall
      have hML := hE.out.1
      have hlk := l1Link_any (k := y) (i := x) hR5 (Nat.le_refl _) hms5 (by omega) (by omega) (by omega) hM16 (by omega) hpre.1 hpre.2
      have hEN := Lib.hid (hE.out.next hyx hlt)
      have hnob := hR5.other hou5 (by decide)
      have hnrb := hR5.other hr5 (by decide)
      have hlo := (hou5.lt _ rfl).2
      have hlr := (hr5.lt _ rfl).2
      obtain ⟨ua, uc, hue⟩ := hR5.isSlice
      rw [List.length_map, hML] at hue
      subst hue
      obtain ⟨o1, o2, -, -⟩ := own_cell hou5
      clear hall hpre hM16 hML hE
      go_wp2_with fail
      refine hlk.mono ?_
      rintro e wm ⟨rfl, hRm, hbm, hfr⟩
      have houm := own1_keep hou5 (hfr _ hlo hnob)
      have hrm := own1_keep hr5 (hfr _ hlr hnrb)
      have hmk := hmm.base hbm hdl
      have hmsk := hmk.size
      obtain ⟨x1, x2, -, -⟩ := own_cell houm
      clear hlk hR5 hou5 hr5 o1 o2
      go_wp2
      go_roundw
      case rel => exact ⟨y + 1, _, _, _, by omega, by go_num, (hRm.setOther houm (by decide) (by decide) _).weaken (Nat.le_refl _) (by simp), hEN, HP2, own_set houm _, own1_keep hrm (Below.heap_setCell _ _ _ _ (by (simp; omega))), hmk.base ((Below.refl _ _).setCell (by simp; omega) _) hdl⟩
      case measure => simp [intOf]; omega
theorem loop_all {n : Nat} (h : 3 ≤ n) : ∀ s ∈ pathL (n - 1) ++ [(0, n - 1)], s.1 < s.2 ∧ s.2 < n := fun s hs => by
  rcases List.mem_append.1 hs with a | a
  · have := pathL_mem a; omega
  · simp at a; subst a; exact ⟨by show 0 < n - 1; omega, by show n - 1 < n; omega⟩
theorem path_all {n : Nat} (h : 1 ≤ n) : ∀ s ∈ pathL (n - 1), s.1 < s.2 ∧ s.2 < n := fun s hs => by have := pathL_mem hs; omega
/-- A right graph, drawn. -/
def DrawnG (EO EI : TypeId) (m : Nat) (d : Nat) (bs : List Int) (w : World) (e : Ending) (w' : World) : Prop :=
  ∃ u g, e = .returned (.agg #[u]) ∧ OwnR w' w.heap.size w'.heap.size EO EI u g ∧ GOk g ∧ g.length ≤ m ∧ Mv w w' d bs
set_option maxRecDepth 100000 in
set_option maxHeartbeats 8000000 in
theorem l1Draw_any {d : Nat} {bs : List Int} {w : World} (hd : Cur w d bs) (hl : bs.length ≤ 4096) :
    Calls Tryz.prog 94 #[.pointer (some ⟨d, 0, none⟩)] w (DrawnG 36 2 7 d bs w) := by
  have hdl := hd.lt
  have hb0 : Below w.heap.size w (w.alloc (.cells #[.slice none 0 0] 26)) := (Below.refl _ _).alloc (Nat.le_refl _) _
  have hr0 := own_new w w.heap.size 26 (.slice none 0 0) (Nat.le_refl _)
  have hm0 := Mv.start hd hb0 (Nat.le_refl _)
  go_enter Tryz.func94, Tryz.ntmps94
  go_wp2_with fail
  refine (l1Below_any (n := 6) hm0.1 hl (by omega)).mono ?_
  rintro e w1 ⟨r, rfl, hr6, -, hm1⟩
  have hr1 := own1_kept hr0 hm1.2 (by simp; omega)
  have hm1 := hm0.trans hm1
  have hms1 := hm1.size
  clear hr0 hm0 hb0
  by_cases e0 : r = 0
  · subst e0
    go_wp2_with fail
    refine (l1Below_any (n := 4) hm1.1 hl (by omega)).mono ?_
    rintro e w2 ⟨q, rfl, hq4, -, hm2⟩
    have hq := hq4 (by omega)
    have hr2 := own1_kept hr1 hm2.2 (by simp; omega)
    have hm2 := hm1.trans hm2
    have hms2 := hm2.size
    obtain ⟨n, hn⟩ : ∃ n : Nat, (3 + (q : Int)) = (n : Int) := ⟨3 + q, by omega⟩
    have hn3 : 3 ≤ n := by omega
    have hn7 : n ≤ 7 := by omega
    have hwo : IntKind.i64.wrap (3 + (q : Int)) = 3 + (q : Int) := IntWalk.i64_in _ (by omega)
    have hem := loopGraph_any (w := w2) hn3 (by omega)
    clear hm1 hr1 hq4 hq hr6
    go_wp2_with fail
    refine hem.mono ?_
    rintro e w3 ⟨u, M, rfl, hu, hE, hb3⟩
    have HG := Lib.hid (hE.gok (by omega) (by omega) (loop_all hn3))
    have HML := Lib.hid hE.1
    have hm3 := hm2.below hb3 (Nat.le_refl _)
    have hr3 := hr2.below hb3 (Nat.le_refl _)
    obtain ⟨ua, uc, hue⟩ := hu.isSlice
    rw [List.length_map, hE.1] at hue
    subst hue
    have hu3 := hu.weaken (B1 := w.heap.size) (C1 := w3.heap.size) hms2 (Nat.le_refl _)
    have hb4 : Below w3.heap.size w3 (w3.alloc (.cells #[.slice ua n uc] 26)) := (Below.refl _ _).alloc (Nat.le_refl _) _
    have hm4 := hm3.below hb4 (Nat.le_refl _)
    have hr4 := hr3.below hb4 (Nat.le_refl _)
    have hu4 := (hu3.below hb4 (Nat.le_refl _)).weaken (Nat.le_refl _) hb4.size
    obtain ⟨x1, x2, -, -⟩ := own_cell hr4
    clear hem hm2 hm3 hr2 hr3 hu hu3 hE hn
    go_wp2
    refine bodyPost_ret (v := .agg #[.slice ua n uc]) (by simp [results, Tryz.results94, go_sem, x1]) rfl ⟨_, M.map bitsI, rfl, (hu4.setOther hr4 (by decide) (by decide) _).weaken (Nat.le_refl _) (by simp), HG.out, by rw [List.length_map, HML.out]; exact hn7, hm4.base ((Below.refl _ _).setCell (by simp) _) hdl⟩
  have c0 : ((r : Int) == 0) = false := by rw [beq_eq_false_iff_ne]; omega
  have c0' : (r == 0) = false := by rw [beq_eq_false_iff_ne]; exact e0
  by_cases e1 : r = 1
  · subst e1
    clear e0 c0 c0'
    go_wp2_with fail
    refine (l1Below_any (n := 6) hm1.1 hl (by omega)).mono ?_
    rintro e w2 ⟨q, rfl, hq4, -, hm2⟩
    have hq := hq4 (by omega)
    have hr2 := own1_kept hr1 hm2.2 (by simp; omega)
    have hm2 := hm1.trans hm2
    have hms2 := hm2.size
    obtain ⟨n, hn⟩ : ∃ n : Nat, (1 + (q : Int)) = (n : Int) := ⟨1 + q, by omega⟩
    have hn3 : 1 ≤ n := by omega
    have hn7 : n ≤ 7 := by omega
    have hwo : IntKind.i64.wrap (1 + (q : Int)) = 1 + (q : Int) := IntWalk.i64_in _ (by omega)
    have hem := pathGraph_any (w := w2) hn3 (by omega)
    clear hm1 hr1 hq4 hq hr6
    go_wp2_with fail
    refine hem.mono ?_
    rintro e w3 ⟨u, M, rfl, hu, hE, hb3⟩
    have HG := Lib.hid (hE.gok (by omega) (by omega) (path_all hn3))
    have HML := Lib.hid hE.1
    have hm3 := hm2.below hb3 (Nat.le_refl _)
    have hr3 := hr2.below hb3 (Nat.le_refl _)
    obtain ⟨ua, uc, hue⟩ := hu.isSlice
    rw [List.length_map, hE.1] at hue
    subst hue
    have hu3 := hu.weaken (B1 := w.heap.size) (C1 := w3.heap.size) hms2 (Nat.le_refl _)
    have hb4 : Below w3.heap.size w3 (w3.alloc (.cells #[.slice ua n uc] 26)) := (Below.refl _ _).alloc (Nat.le_refl _) _
    have hm4 := hm3.below hb4 (Nat.le_refl _)
    have hr4 := hr3.below hb4 (Nat.le_refl _)
    have hu4 := (hu3.below hb4 (Nat.le_refl _)).weaken (Nat.le_refl _) hb4.size
    obtain ⟨x1, x2, -, -⟩ := own_cell hr4
    clear hem hm2 hm3 hr2 hr3 hu hu3 hE hn
    go_wp2
    refine bodyPost_ret (v := .agg #[.slice ua n uc]) (by simp [results, Tryz.results94, go_sem, x1]) rfl ⟨_, M.map bitsI, rfl, (hu4.setOther hr4 (by decide) (by decide) _).weaken (Nat.le_refl _) (by simp), HG.out, by rw [List.length_map, HML.out]; exact hn7, hm4.base ((Below.refl _ _).setCell (by simp) _) hdl⟩
  have c1 : ((r : Int) == 1) = false := by rw [beq_eq_false_iff_ne]; omega
  have c1' : (r == 1) = false := by rw [beq_eq_false_iff_ne]; exact e1
  clear e0 e1
  go_wp2_with fail
  refine (l1Below_any (n := 7) hm1.1 hl (by omega)).mono ?_
  rintro e w2 ⟨q, rfl, hq4, -, hm2⟩
  have hq := hq4 (by omega)
  have hr2 := own1_kept hr1 hm2.2 (by simp; omega)
  have hm2 := hm1.trans hm2
  have hms2 := hm2.size
  obtain ⟨n, hn⟩ : ∃ n : Nat, (1 + (q : Int)) = (n : Int) := ⟨1 + q, by omega⟩
  have hn3 : 1 ≤ n := by omega
  have hn7 : n ≤ 7 := by omega
  have hwo : IntKind.i64.wrap (1 + (q : Int)) = 1 + (q : Int) := IntWalk.i64_in _ (by omega)
  have hem := l1DrawOf_any (n := n) hm2.1 hl hn3 (by omega)
  clear hm1 hr1 hq4 hq hr6
  go_wp2_with fail
  refine hem.mono ?_
  rintro e w3 ⟨u, g, rfl, hu, hg, hgn, hm3⟩
  have hr3 := own1_kept hr2 hm3.2 (by simp; omega)
  have hm3 := hm2.trans hm3
  obtain ⟨ua, uc, rfl⟩ := hu.isSlice
  have hu3 := hu.weaken (B1 := w.heap.size) (C1 := w3.heap.size) hms2 (Nat.le_refl _)
  obtain ⟨x1, x2, -, -⟩ := own_cell hr3
  have HN := Lib.hid hgn
  clear hem hm2 hr2 hu hn hgn
  go_wp2
  refine bodyPost_ret (v := .agg #[.slice ua g.length uc]) (by simp [results, Tryz.results94, go_sem, x1]) rfl ⟨_, g, rfl, (hu3.setOther hr3 (by decide) (by decide) _).weaken (Nat.le_refl _) (by simp), hg, by rw [HN.out]; exact hn7, hm3.base ((Below.refl _ _).setCell (by simp) _) hdl⟩
/-- A row set to any own slice that lies apart from the array. -/
theorem setRow_any {w1 : World} {B ab n c k : Nat} {EO EI : TypeId} {vs : List Value} {g : List (List Int)} {rv : Value} {r : List Int} (hk : k < g.length) (hl : vs.length = g.length) (hn : g.length = n) (hn2 : n ≤ 1000000)
    (ho : Own w1 B EO 1 (.slice (some ⟨ab, 0, none⟩) n c) n vs) (hrows : ∀ i (h : i < g.length) (h2 : i < vs.length), i ≠ k → Own w1 B EI 1 vs[i] g[i].length (g[i].map (.int .i64)) ∧ vs[i].ownBlock ≠ some ab ∧ g[i].length ≤ 1000000)
    (hv : Own w1 B EI 1 rv r.length (r.map (.int .i64))) (hva : rv.ownBlock ≠ some ab) (hr : r.length ≤ 1000000) : SlR (fun b => B ≤ b ∧ b < w1.heap.size) (w1.setCell ⟨ab, k, none⟩ rv) (.slice (some ⟨ab, 0, none⟩) n c) (g.set k r) := by
  have hset : ∀ b, b ≠ ab → (w1.setCell ⟨ab, k, none⟩ rv).heap[b]? = w1.heap[b]? := fun b hb => Below.heap_setCell _ _ _ _ (by simpa using hb)
  have hab := ho.lt ab rfl
  refine RowsTo.rows (vs := vs.set k rv) ⟨by simp [hl], fun i hi hi2 => ?_⟩ (by simp [hl]) (fun b hb => ?_) (ho.stored k rv) (by omega)
  · rw [List.length_set] at hi hi2
    by_cases e : k = i
    · subst e
      rw [List.getElem_set_self, List.getElem_set_self]
      have h1 := hv.keep (w' := w1.setCell ⟨ab, k, none⟩ rv) fun b hb => hset b (fun e => hva (by rw [← e]; exact hb))
      exact (h1.ints (by omega)).weak fun b hb => hv.lt b hb
    · rw [List.getElem_set_ne e, List.getElem_set_ne e]
      obtain ⟨h2, h3, h4⟩ := hrows i hi2 hi (fun h => e h.symm)
      have h1 := h2.keep (w' := w1.setCell ⟨ab, k, none⟩ rv) fun b hb => hset b (fun e => h3 (by rw [← e]; exact hb))
      exact (h1.ints (by omega)).weak fun b hb => h2.lt b hb
  · have : ab = b := by simpa [Value.ownBlock] using hb
    subst this; exact hab
/-- An own graph's row, with what becomes of the graph when the row is set to a new slice or to its own growth. -/
theorem OwnR.rowAny {w : World} {B C ab n c k : Nat} {EO EI : TypeId} {g : List (List Int)} (h : OwnR w B C EO EI (.slice (some ⟨ab, 0, none⟩) n c) g) (hk : k < g.length) (hs : ∀ r ∈ g, r.length ≤ 1000) (hn2 : g.length ≤ 1000) :
    ∃ ra rc, w.cell? ⟨ab, k, none⟩ = some (.slice ra g[k].length rc) ∧ w.frozen? ⟨ab, k, none⟩ = false ∧ Own w B EI 1 (.slice ra g[k].length rc) g[k].length (g[k].map (.int .i64)) ∧ ab < w.heap.size ∧ B ≤ ab ∧
      (∀ {w1 : World} {rv : Value} {r : List Int}, Below w.heap.size w w1 → Own w1 w.heap.size EI 1 rv r.length (r.map (.int .i64)) → r.length ≤ 1000000 → SlR (fun b => B ≤ b ∧ b < w1.heap.size) (w1.setCell ⟨ab, k, none⟩ rv) (.slice (some ⟨ab, 0, none⟩) n c) (g.set k r)) ∧
      (∀ {w1 M : World} {rv : Value} {r : List Int}, KeptBut w w1 (Value.slice ra g[k].length rc).ownBlock → Moved M (.slice ra g[k].length rc) rv → w.heap.size ≤ M.heap.size → Own w1 B EI 1 rv r.length (r.map (.int .i64)) → r.length ≤ 1000000 → SlR (fun b => B ≤ b ∧ b < w1.heap.size) (w1.setCell ⟨ab, k, none⟩ rv) (.slice (some ⟨ab, 0, none⟩) n c) (g.set k r)) := by
  obtain ⟨ra, rc, hc, hf, ho, hab, hB⟩ := h.row hk
  obtain ⟨vs, h1, h2, h3, hap, h4⟩ := h
  have hn : g.length = n := by
    obtain ⟨a, cc, hn⟩ := h2.isSlice
    simp only [Value.slice.injEq] at hn
    exact hn.2.1.symm
  subst hn
  have hkv : k < vs.length := by omega
  have hvk : vs[k] = .slice ra g[k].length rc := by
    have := World.ownsRow.cellAt h2 k (by omega)
    rw [hc] at this
    simpa [hkv] using this.symm
  refine ⟨ra, rc, hc, hf, ho, hab, hB, fun {w1 rv r} hb hv hr => ?_, fun {w1 M rv r} hk1 hm hM hv hr => ?_⟩
  · refine setRow_any hk h1 rfl (by omega) (h2.below hb (Nat.le_refl _)) (fun i hi hi2 hne => ?_) (hv.weak (by omega)) (fun e => by have := (hv.lt _ e).1; omega) hr
    exact ⟨(h4 i hi hi2).1.below hb (Nat.le_refl _), fun e => ((h4 i hi hi2).2 _ e).2 rfl, by have := hs _ (List.getElem_mem hi); omega⟩
  · have hrow : ∀ b, (Value.slice ra g[k].length rc).ownBlock = some b → b ≠ ab := fun b hb e => by
      have := (h4 k hk hkv).2 b (by rw [hvk]; exact hb)
      exact this.2 (by rw [e]; rfl)
    refine setRow_any hk h1 rfl (by omega) (h2.keep fun b hb => ?_) (fun i hi hi2 hne => ⟨(h4 i hi hi2).1.keep fun b hb => ?_, fun e => ((h4 i hi hi2).2 _ e).2 rfl, by have := hs _ (List.getElem_mem hi); omega⟩) hv ?_ hr
    · have e : ab = b := by simpa [Value.ownBlock] using hb
      exact hk1.2.2.2.2 b (by omega) (fun h => hrow b h.symm e.symm)
    · refine hk1.2.2.2.2 b ((h4 i hi hi2).1.lt b hb).2 (fun h => hne ?_)
      exact hap i k hi2 hkv b hb (by rw [hvk]; exact h.symm)
    · intro e
      rcases hm with hm | hm
      · rw [hm] at e; exact hrow ab e rfl
      · rw [hm] at e
        have : M.heap.size = ab := by simpa using e
        omega
/-- Any graph, drawn. -/
def AnyG (d : Nat) (bs : List Int) (w : World) (e : Ending) (w' : World) : Prop :=
  ∃ u g, e = .returned (.agg #[u]) ∧ SlR (fun b => w.heap.size ≤ b ∧ b < w'.heap.size) w' u g ∧ g.length ≤ 17 ∧ (∀ r ∈ g, r.length ≤ 40) ∧ Mv w w' d bs
theorem gok_rows {g : List (List Int)} (hg : GOk g) : ∀ r ∈ g, r.length ≤ 16 := fun r hr => by
  obtain ⟨i, hi, rfl⟩ := List.getElem_of_mem hr
  have := rise_len (hg.rise i hi) (by omega)
  have := hg.hi; omega
theorem set_rows {g : List (List Int)} {k m : Nat} {r : List Int} (h : ∀ r ∈ g, r.length ≤ m) (hr : r.length ≤ m) : ∀ x ∈ g.set k r, x.length ≤ m := fun x hx => by
  rcases List.mem_or_eq_of_mem_set hx with a | a
  · exact h x a
  · rw [a]; exact hr
set_option maxRecDepth 100000 in
set_option maxHeartbeats 16000000 in
theorem l1DrawAny_any {d : Nat} {bs : List Int} {w : World} (hd : Cur w d bs) (hl : bs.length ≤ 4096) :
    Calls Tryz.prog 55 #[.pointer (some ⟨d, 0, none⟩)] w (AnyG d bs w) := by
  have hdl := hd.lt
  have hb0 : Below w.heap.size w (w.alloc (.cells #[.slice none 0 0] 26)) := (Below.refl _ _).alloc (Nat.le_refl _) _
  have hr0 := own_new w w.heap.size 26 (.slice none 0 0) (Nat.le_refl _)
  have hm0 := Mv.start hd hb0 (Nat.le_refl _)
  have hdr := l1Draw_any hm0.1 hl
  go_enter Tryz.func55, Tryz.ntmps55
  go_wp2_with fail
  refine hdr.mono ?_
  rintro e w1 ⟨u, g, rfl, hR, hg, hg7, hm1⟩
  have hr1 := own1_kept hr0 hm1.2 (by simp; omega)
  have hm1 := hm0.trans hm1
  have hms1 := hm1.size
  have hR := hR.weaken (B1 := w.heap.size + 1) (C1 := w1.heap.size) (by simp) (Nat.le_refl _)
  have hw1s : w.heap.size < w1.heap.size := (hr1.lt _ rfl).2
  obtain ⟨ab, uc, rfl⟩ : ∃ ab uc, u = .slice (some ⟨ab, 0, none⟩) g.length uc := by
    obtain ⟨vs, -, h, -⟩ := hR
    exact own_some h (by have := hg.lo; omega)
  have hb2 : Below w1.heap.size w1 (w1.alloc (.cells #[.slice (some ⟨ab, 0, none⟩) g.length uc] 26)) := (Below.refl _ _).alloc (Nat.le_refl _) _
  have hm2 := hm1.below hb2 (Nat.le_refl _)
  have hr2 := hr1.below hb2 (Nat.le_refl _)
  have hR2 := (hR.below hb2 (Nat.le_refl _)).weaken (Nat.le_refl _) hb2.size
  have ho2 := own_new w1 w.heap.size 26 (.slice (some ⟨ab, 0, none⟩) g.length uc) (by omega)
  clear hdr hm0 hm1 hr0 hr1 hb0 hb2 hR
  go_wp2_with fail
  refine (l1Once_any (n := 12) hm2.1 hl (by omega)).mono ?_
  rintro e w3 ⟨b, rfl, hm3⟩
  have hkd := hm3.2
  have hR3 := (hR2.kept hkd (by simp; omega)).weaken (Nat.le_refl _) hm3.size
  have ho3 := own1_kept ho2 hkd (by simp; omega)
  have hr3 := own1_kept hr2 hkd (by simp; omega)
  have hm3 := hm2.trans hm3
  have hms3 := hm3.size
  clear hR2 ho2 hr2 hm2 hkd
  obtain ⟨o1, o2, -, -⟩ := own_cell ho3
  obtain ⟨r1, r2, -, -⟩ := own_cell hr3
  have hgl := hg.lo
  have hgr := gok_rows hg
  cases b with
  | false =>
    go_wp2
    refine bodyPost_ret (v := .agg #[.slice (some ⟨ab, 0, none⟩) g.length uc]) (by simp [results, Tryz.results55, go_sem, r1]) rfl ⟨_, g, rfl, ?_, by omega, fun r hr => by have := hgr r hr; omega, hm3.base ((Below.refl _ _).setCell (by simp) _) hdl⟩
    exact ((hR3.rows (gok_small hg)).keep fun b hb => Below.heap_setCell _ _ _ _ (by simp; omega)).weak fun b hb => ⟨by omega, by simp; omega⟩
  | true =>
  have hbv := l1Below_any (n := (g.length : Int)) hm3.1 hl (by omega)
  go_wp2_with fail
  refine hbv.mono ?_
  rintro e w4 ⟨v, rfl, hv, -, hm4⟩
  have hvl : v < g.length := by have := hv (by omega); omega
  have hkd := hm4.2
  have hR4 := (hR3.kept hkd (by simp; omega)).weaken (Nat.le_refl _) hm4.size
  have ho4 := own1_kept ho3 hkd (by simp; omega)
  have hr4 := own1_kept hr3 hkd (by simp; omega)
  have hm4 := hm3.trans hm4
  have hms4 := hm4.size
  clear hR3 ho3 hr3 hm3 hkd hbv o1 o2 r1 r2 hv
  go_wp2_with fail
  refine (l1Below_any (n := 5) hm4.1 hl (by omega)).mono ?_
  rintro e w5 ⟨q, rfl, hq, -, hm5⟩
  have hq5 : q < 5 := by have := hq (by omega); omega
  have hkd := hm5.2
  have hR5 := (hR4.kept hkd (by simp; omega)).weaken (Nat.le_refl _) hm5.size
  have ho5 := own1_kept ho4 hkd (by simp; omega)
  have hr5 := own1_kept hr4 hkd (by simp; omega)
  have hm5 := hm4.trans hm5
  have hms5 := hm5.size
  clear hR4 ho4 hr4 hm4 hkd hq
  obtain ⟨o1, o2, -, -⟩ := own_cell ho5
  obtain ⟨r1, r2, -, -⟩ := own_cell hr5
  have hao := hR5.other ho5 (by decide)
  have har := hR5.other hr5 (by decide)
  have hao : ab ≠ w1.heap.size := fun e => hao (by rw [e]; rfl)
  have har : ab ≠ w.heap.size := fun e => har (by rw [e]; rfl)
  obtain ⟨ra, rc, hc, hf, hrow, hab, hBab, hnew, hgrow⟩ := hR5.rowAny hvl (fun r hr => by have := hgr r hr; omega) (by omega)
  have hv1 : (v : Int) < g.length := by omega
  have hgvl : g[v].length ≤ 16 := hgr _ (List.getElem_mem hvl)
  have hlo := (ho5.lt _ rfl).2
  by_cases q0 : q = 0
  · subst q0
    clear hnew hgrow
    have hlr := (hr5.lt _ rfl).2
    have hls := hgr
    go_wp2
    refine wp_region_late (S := (fun w' => World.cell? w' ⟨w1.heap.size, 0, none⟩ = some (.slice (some ⟨ab, 0, none⟩) g.length uc) ∧ World.cell? w' ⟨ab, v, none⟩ = some (.slice ra g[v].length rc))) (late := [13]) (by kernel_rfl) ?_ (fun hHeld => ?_)
    · first | exact ⟨‹_›, ‹_›⟩ | (simp [*, go_sem])
    obtain ⟨d0, d1⟩ := hHeld
    have hRd := hR5.drewR
    have hmd := hm5.below ((Below.refl w5.heap.size w5).drew) (Nat.le_refl _)
    have hod := ho5.drawn (Drawn.refl _).drew
    have hrd := hr5.drawn (Drawn.refl _).drew
    have hszd : w5.drew.heap.size = w5.heap.size := rfl
    generalize w5.drew = wd at d0 d1 hRd hmd hod hrd hszd ⊢
    have hHeld : (fun w' => World.cell? w' ⟨w1.heap.size, 0, none⟩ = some (.slice (some ⟨ab, 0, none⟩) g.length uc) ∧ World.cell? w' ⟨ab, v, none⟩ = some (.slice ra g[v].length rc)) wd := ⟨d0, d1⟩
    refine wpLate_take (i := 0) (v := ?v1) (by simp only [List.getElem?_toArray, List.getElem?_cons_zero]; exact rfl) (by kernel_rfl) (by kernel_rfl) (by kernel_rfl) (by intro _ _ _ h; exact h) (Or.inl ⟨by rfl, ?y1⟩) ?_
    case y1 => (intro w _; go_simp; try (with_reducible rfl))
    try simp only [Act.put, List.setIfInBounds_toArray, List.set_cons_zero, List.set_cons_succ]
    refine wpLate_load (i := 1) (v := ?v2) (by simp only [List.getElem?_toArray, List.getElem?_cons_succ, List.getElem?_cons_zero]; exact rfl) (by kernel_rfl) (by kernel_rfl) (by kernel_rfl) (by kernel_rfl) (by intro _ _ _ h; exact h) (Or.inl ⟨by rfl, ?y2⟩) hHeld ?_
    case y2 => (intro w hSw; (try dsimp only at hSw); go_simp; try (with_reducible rfl))
    try simp only [Act.put, List.setIfInBounds_toArray, List.set_cons_zero, List.set_cons_succ]
    refine wpLate_take (i := 2) (v := ?v3) (by simp only [List.getElem?_toArray, List.getElem?_cons_succ, List.getElem?_cons_zero]; exact rfl) (by kernel_rfl) (by kernel_rfl) (by kernel_rfl) (by intro _ _ _ h; exact h) (Or.inl ⟨by rfl, ?y3⟩) ?_
    case y3 => (intro w _; go_simp; try (with_reducible rfl))
    try simp only [Act.put, List.setIfInBounds_toArray, List.set_cons_zero, List.set_cons_succ]
    refine wpLate_take (i := 3) (v := ?v4) (by simp only [List.getElem?_toArray, List.getElem?_cons_succ, List.getElem?_cons_zero]; exact rfl) (by kernel_rfl) (by kernel_rfl) (by kernel_rfl) (by intro _ _ _ h; exact h) (Or.inl ⟨by rfl, ?y4⟩) ?_
    case y4 => (intro w _; go_simp; try (with_reducible rfl))
    try simp only [Act.put, List.setIfInBounds_toArray, List.set_cons_zero, List.set_cons_succ]
    refine wpLate_load (i := 4) (v := ?v5) (by simp only [List.getElem?_toArray, List.getElem?_cons_succ, List.getElem?_cons_zero]; exact rfl) (by kernel_rfl) (by kernel_rfl) (by kernel_rfl) (by kernel_rfl) (by intro _ _ _ h; exact h) (Or.inl ⟨by rfl, ?y5⟩) hHeld ?_
    case y5 => (intro w hSw; (try dsimp only at hSw); go_simp; try (with_reducible rfl))
    try simp only [Act.put, List.setIfInBounds_toArray, List.set_cons_zero, List.set_cons_succ]
    refine wpLate_take (i := 5) (v := ?v6) (by simp only [List.getElem?_toArray, List.getElem?_cons_succ, List.getElem?_cons_zero]; exact rfl) (by kernel_rfl) (by kernel_rfl) (by kernel_rfl) (by intro _ _ _ h; exact h) (Or.inl ⟨by rfl, ?y6⟩) ?_
    case y6 => (intro w _; go_simp; try (with_reducible rfl))
    try simp only [Act.put, List.setIfInBounds_toArray, List.set_cons_zero, List.set_cons_succ]
    refine wpLate_take (i := 6) (v := ?v7) (by simp only [List.getElem?_toArray, List.getElem?_cons_succ, List.getElem?_cons_zero]; exact rfl) (by kernel_rfl) (by kernel_rfl) (by kernel_rfl) (by intro _ _ _ h; exact h) (Or.inl ⟨by rfl, ?y7⟩) ?_
    case y7 => (intro w _; go_simp; try (with_reducible rfl))
    try simp only [Act.put, List.setIfInBounds_toArray, List.set_cons_zero, List.set_cons_succ]
    refine wpLate_load (i := 7) (v := ?v8) (by simp only [List.getElem?_toArray, List.getElem?_cons_succ, List.getElem?_cons_zero]; exact rfl) (by kernel_rfl) (by kernel_rfl) (by kernel_rfl) (by kernel_rfl) (by intro _ _ _ h; exact h) (Or.inl ⟨by rfl, ?y8⟩) hHeld ?_
    case y8 => (intro w hSw; (try dsimp only at hSw); go_simp; try (with_reducible rfl))
    try simp only [Act.put, List.setIfInBounds_toArray, List.set_cons_zero, List.set_cons_succ]
    refine wpLate_take (i := 8) (v := ?v9) (by simp only [List.getElem?_toArray, List.getElem?_cons_succ, List.getElem?_cons_zero]; exact rfl) (by kernel_rfl) (by kernel_rfl) (by kernel_rfl) (by intro _ _ _ h; exact h) (Or.inl ⟨by rfl, ?y9⟩) ?_
    case y9 => (intro w _; go_simp; try (with_reducible rfl))
    try simp only [Act.put, List.setIfInBounds_toArray, List.set_cons_zero, List.set_cons_succ]
    refine wpLate_one (i := 9) (by kernel_rfl) (by simp only [List.getElem?_toArray, List.getElem?_cons_succ, List.getElem?_cons_zero]; exact rfl) (by kernel_rfl) (fun K hK => ?_)
    go_simp
    refine (l1Num_any (most := 16) hmd.1 hl (by omega)).mono ?_
    rintro e wn ⟨y, rfl, hmn⟩
    have hRn := (hRd.kept hmn.2 (by simp; omega)).weaken (Nat.le_refl _) (show _ ≤ wn.heap.size by have := hmn.size; omega)
    have hon := own1_kept hod hmn.2 (by simp; omega)
    have hrn := own1_kept hrd hmn.2 (by simp; omega)
    have d0 := (own_cell hon).1
    have d1 := (hmn.cell (a := ⟨ab, v, none⟩) (by show ab < _; omega) (by show ab ≠ d; omega)).trans d1
    have hmn := hmd.trans hmn
    have hmns := hmn.size
    have hlon := (hon.lt _ rfl).2
    have hlrn := (hrn.lt _ rfl).2
    try dsimp only
    refine hK.out _ _ ?h11 (fun hHeld => ?_)
    case h11 => first | exact ⟨‹_›, ‹_›⟩ | (simp [*, go_sem])
    clear hK K
    try simp only [Act.put, List.setIfInBounds_toArray, List.set_cons_zero, List.set_cons_succ]
    refine wpLate_one (i := 10) (by kernel_rfl) (by simp only [List.getElem?_toArray, List.getElem?_cons_succ, List.getElem?_cons_zero]; exact rfl) (by kernel_rfl) (fun K hK => ?_)
    go_simp
    have hbb : Below wn.heap.size wn (wn.alloc (.cells #[.int .i64 y] 2)) := (Below.refl _ _).alloc (Nat.le_refl _) _
    have d0b := (hbb.cell (cell_lt d0)).trans d0
    have d1b := (hbb.cell (cell_lt d1)).trans d1
    try dsimp only
    refine hK.out _ _ ?h13 (fun hHeld => ?_)
    case h13 => first | exact ⟨‹_›, ‹_›⟩ | (simp [*, go_sem])
    clear hK K
    try simp only [Act.put, List.setIfInBounds_toArray, List.set_cons_zero, List.set_cons_succ]
    refine wpLate_one (i := 11) (by kernel_rfl) (by simp only [List.getElem?_toArray, List.getElem?_cons_succ, List.getElem?_cons_zero]; exact rfl) (by kernel_rfl) (fun K hK => ?_)
    rw [if_pos (by rfl)]
    obtain ⟨ra', rc', hc', hf', hown', hab', -, -, hgrow'⟩ := hRn.rowAny hvl (fun r hr => by have := hls r hr; omega) (by omega)
    have hre := hc'.symm.trans d1
    simp only [Option.some.injEq, Value.slice.injEq, true_and] at hre
    obtain ⟨rfl, rfl⟩ := hre
    refine opWp_append1S elI64 _ _ rfl hown' rfl rfl rfl rfl (by omega) (by omega) ?_
    intro rv w8 hown8 hkept hmv
    obtain ⟨rva, rvc, rfl⟩ := hown8.isSlice
    have hne1 : (Value.slice ra' g[v].length rc').ownBlock ≠ some w1.heap.size := (fun e => own_type hown' hon (by decide) _ e rfl)
    have hne2 : (Value.slice ra' g[v].length rc').ownBlock ≠ some w.heap.size := (fun e => own_type hown' hrn (by decide) _ e rfl)
    have hne3 : (Value.slice ra' g[v].length rc').ownBlock ≠ some ab := (fun e => (by obtain ⟨vs, -, hvs, -⟩ := hRn; exact own_type hown' hvs (by decide) _ e rfl))
    have ho8 := own1_kept hon hkept hne1
    have hr8 := own1_kept hrn hkept hne2
    have d0 := (own_cell ho8).1
    have hab8 := hkept.2.2.2.2 ab hab' (fun e => hne3 e.symm)
    have d1 := (World.cell?_of_block (a := ⟨ab, v, none⟩) hab8).trans d1
    have f1 := (World.frozen?_of_block (a := ⟨ab, v, none⟩) hab8).trans hf'
    try dsimp only
    refine hK.out _ _ ?h15 (fun hHeld => ?_)
    case h15 => first | exact ⟨‹_›, ‹_›⟩ | (simp [*, go_sem])
    clear hK K
    try simp only [Act.put, List.setIfInBounds_toArray, List.set_cons_zero, List.set_cons_succ]
    refine wpLate_take (i := 12) (v := ?v16) (by simp only [List.getElem?_toArray, List.getElem?_cons_succ, List.getElem?_cons_zero]; exact rfl) (by kernel_rfl) (by kernel_rfl) (by kernel_rfl) (by intro _ _ _ h; exact h) (Or.inl ⟨by rfl, ?y16⟩) ?_
    case y16 => (intro w _; go_simp; try (with_reducible rfl))
    try simp only [Act.put, List.setIfInBounds_toArray, List.set_cons_zero, List.set_cons_succ]
    refine wpLate_late (i := 13) (by kernel_rfl) (by simp only [List.getElem?_toArray, List.getElem?_cons_succ, List.getElem?_cons_zero]; exact rfl) (by kernel_rfl) (fun K hK => ?_)
    go_simp
    skip
    try dsimp only
    refine hK.out _ _ ?_
    clear hK K
    try simp only [Act.put, List.setIfInBounds_toArray, List.set_cons_zero, List.set_cons_succ]
    refine wpLate_done (by kernel_rfl) ?_ _
    have hm8 : Mv w w8 d bs := ⟨hmn.1.kept hkept (fun b hb => by have := (hown'.lt b hb).1; omega), kept_app hmn.2 hkept (fun b hb => by have := (hown'.lt b hb).1; omega)⟩
    have hS := hgrow' (r := g[v] ++ [y]) hkept hmv (by simp) (by rw [List.length_append, List.map_append]; exact hown8) (by simp; omega)
    have ho9 := own1_keep ho8 (Below.heap_setCell w8 ⟨ab, v, none⟩ (.slice rva (g[v].length + 1) rvc) _ (by simpa using hao.symm))
    have hr9 := own1_keep hr8 (Below.heap_setCell w8 ⟨ab, v, none⟩ (.slice rva (g[v].length + 1) rvc) _ (by simpa using har.symm))
    have hm9 := hm8.base ((Below.refl w.heap.size _).setCell (p := ⟨ab, v, none⟩) (by simp; omega) (.slice rva (g[v].length + 1) rvc)) hdl
    obtain ⟨x1, x2, -, -⟩ := own_cell ho9
    obtain ⟨y1, y2, -, -⟩ := own_cell hr9
    go_wp2
    refine bodyPost_ret (v := .agg #[.slice (some ⟨ab, 0, none⟩) g.length uc]) (by simp [results, Tryz.results55, go_sem, y1]) rfl ⟨_, g.set v (g[v] ++ [y]), rfl, ?_, by rw [List.length_set]; omega, set_rows (fun r hr => by have := hgr r hr; omega) (by simp; omega), hm9.base ((Below.refl _ _).setCell (by simp) _) hdl⟩
    exact (hS.keep fun b hb => Below.heap_setCell _ _ _ _ (by simp; omega)).weak fun b hb => ⟨by omega, by have := hb.2; simp at this ⊢; omega⟩
  by_cases q1 : q = 1
  · subst q1
    clear q0
    have hb6 : Below w5.heap.size w5 (w5.alloc (.cells #[.int .i64 (v : Int)] 2)) := (Below.refl _ _).alloc (Nat.le_refl _) _
    have hn6 := own_new w5 w5.heap.size 2 (.int .i64 (v : Int)) (Nat.le_refl _)
    have hS := hnew (r := [(v : Int)]) hb6 hn6 (by simp)
    have hm6 := hm5.below hb6 (Nat.le_refl _)
    have c6 := (hb6.cell (p := ⟨ab, v, none⟩) hab).trans hc
    have f6 := (hb6.frozen (p := ⟨ab, v, none⟩) hab).trans hf
    have hm7 := hm6.base ((Below.refl w.heap.size _).setCell (p := ⟨ab, v, none⟩) (by simp; omega) (.slice (some ⟨w5.heap.size, 0, none⟩) 1 1)) hdl
    have ho7 := own1_keep (ho5.below hb6 (Nat.le_refl _)) (Below.heap_setCell (w5.alloc (.cells #[.int .i64 (v : Int)] 2)) ⟨ab, v, none⟩ (.slice (some ⟨w5.heap.size, 0, none⟩) 1 1) _ (by simpa using hao.symm))
    have hr7 := own1_keep (hr5.below hb6 (Nat.le_refl _)) (Below.heap_setCell (w5.alloc (.cells #[.int .i64 (v : Int)] 2)) ⟨ab, v, none⟩ (.slice (some ⟨w5.heap.size, 0, none⟩) 1 1) _ (by simpa using har.symm))
    have E := World.setCell_alloc_past (w := w5) (.cells #[.int .i64 (v : Int)] 2) ab v (.slice (some ⟨w5.heap.size, 0, none⟩) 1 1) hab
    rw [E] at hS hm7 ho7 hr7
    obtain ⟨x1, x2, -, -⟩ := own_cell ho7
    obtain ⟨y1, y2, -, -⟩ := own_cell hr7
    clear hnew hgrow E
    go_wp2
    refine bodyPost_ret (v := .agg #[.slice (some ⟨ab, 0, none⟩) g.length uc]) (by simp [results, Tryz.results55, go_sem, y1]) rfl ⟨_, g.set v [(v : Int)], rfl, ?_, by rw [List.length_set]; omega, set_rows (fun r hr => by have := hgr r hr; omega) (by simp), hm7.base ((Below.refl _ _).setCell (by simp) _) hdl⟩
    exact (hS.keep fun b hb => Below.heap_setCell _ _ _ _ (by simp; omega)).weak fun b hb => ⟨by omega, by have := hb.2; simp at this ⊢; omega⟩
  by_cases q4 : q = 4
  · subst q4
    clear q0 q1
    have hb6 : Below w5.heap.size w5 (w5.alloc (.cells #[] 2)) := (Below.refl _ _).alloc (Nat.le_refl _) _
    have hn6 : Own (w5.alloc (.cells #[] 2)) w5.heap.size 2 1 (.slice (some ⟨w5.heap.size, 0, none⟩) 0 0) ([] : List Int).length (([] : List Int).map (.int .i64)) := World.ownsRow_lit (base := w5.heap.size) (e := 2) (size := 1) w5 #[] 0 (Nat.le_refl _) (by unfold maxLen; omega) rfl
    have hS := hnew (r := []) hb6 hn6 (by simp)
    have hm6 := hm5.below hb6 (Nat.le_refl _)
    have c6 := (hb6.cell (p := ⟨ab, v, none⟩) hab).trans hc
    have f6 := (hb6.frozen (p := ⟨ab, v, none⟩) hab).trans hf
    have hm7 := hm6.base ((Below.refl w.heap.size _).setCell (p := ⟨ab, v, none⟩) (by simp; omega) (.slice (some ⟨w5.heap.size, 0, none⟩) 0 0)) hdl
    have ho7 := own1_keep (ho5.below hb6 (Nat.le_refl _)) (Below.heap_setCell (w5.alloc (.cells #[] 2)) ⟨ab, v, none⟩ (.slice (some ⟨w5.heap.size, 0, none⟩) 0 0) _ (by simpa using hao.symm))
    have hr7 := own1_keep (hr5.below hb6 (Nat.le_refl _)) (Below.heap_setCell (w5.alloc (.cells #[] 2)) ⟨ab, v, none⟩ (.slice (some ⟨w5.heap.size, 0, none⟩) 0 0) _ (by simpa using har.symm))
    have E := World.setCell_alloc_past (w := w5) (.cells #[] 2) ab v (.slice (some ⟨w5.heap.size, 0, none⟩) 0 0) hab
    rw [E] at hS hm7 ho7 hr7
    obtain ⟨x1, x2, -, -⟩ := own_cell ho7
    obtain ⟨y1, y2, -, -⟩ := own_cell hr7
    clear hnew hgrow E
    go_wp2
    refine bodyPost_ret (v := .agg #[.slice (some ⟨ab, 0, none⟩) g.length uc]) (by simp [results, Tryz.results55, go_sem, y1]) rfl ⟨_, g.set v [], rfl, ?_, by rw [List.length_set]; omega, set_rows (fun r hr => by have := hgr r hr; omega) (by simp), hm7.base ((Below.refl _ _).setCell (by simp) _) hdl⟩
    exact (hS.keep fun b hb => Below.heap_setCell _ _ _ _ (by simp; omega)).weak fun b hb => ⟨by omega, by have := hb.2; simp at this ⊢; omega⟩
  by_cases q3 : q = 3
  · subst q3
    clear q0 q1 q4 hnew hgrow
    have ho7 := own_set ho5 (.slice none 0 0)
    have hr7 := own1_keep hr5 (Below.heap_setCell w5 ⟨w1.heap.size, 0, none⟩ (.slice none 0 0) _ (by simp; omega))
    have hm7 := hm5.base ((Below.refl w.heap.size _).setCell (p := ⟨w1.heap.size, 0, none⟩) (by simp; omega) (.slice none 0 0)) hdl
    obtain ⟨x1, x2, -, -⟩ := own_cell ho7
    obtain ⟨y1, y2, -, -⟩ := own_cell hr7
    go_wp2
    refine bodyPost_ret (v := .agg #[.slice none 0 0]) (by simp [results, Tryz.results55, go_sem, y1]) rfl ⟨_, [], rfl, ⟨none, 0, 0, 0, fun _ => undef, rfl, by simp, fun h => by simp at h, fun i hi => by simp at hi⟩, by simp, (fun r hr => (by cases hr)), hm7.base ((Below.refl _ _).setCell (by simp) _) hdl⟩
  have q2 : q = 2 := by omega
  subst q2
  clear q0 q1 q4 q3 hnew hgrow
  go_wp2_with fail
  refine (l1Below_any (n := 2) hm5.1 hl (by omega)).mono ?_
  rintro e w6 ⟨t, rfl, ht, -, hm6⟩
  have ht2 := ht (by omega)
  have ho6 := own1_kept ho5 hm6.2 (by simp; omega)
  have hr6 := own1_kept hr5 hm6.2 (by simp; omega)
  have hm6 := hm5.trans hm6
  have hms6 := hm6.size
  obtain ⟨n, hn⟩ : ∃ n : Nat, (16 + (t : Int)) = (n : Int) := ⟨16 + t, by omega⟩
  have hn17 : n ≤ 17 := by omega
  have hwo : IntKind.i64.wrap (16 + (t : Int)) = 16 + (t : Int) := IntWalk.i64_in _ (by omega)
  have hem := l1Empty_big (n := n) (w := w6) (by omega)
  have hl6 := (ho6.lt _ rfl).2
  clear ht ht2 hm5 ho5 hr5
  go_wp2_with fail
  refine hem.mono ?_
  rintro e w7 ⟨u, rfl, hu, hb7⟩
  have ho7 := ho6.below hb7 (Nat.le_refl _)
  have hr7 := hr6.below hb7 (Nat.le_refl _)
  have hm7 := hm6.below hb7 (Nat.le_refl _)
  have hS7 : SlR _ w7 u (List.replicate n []) := hu.rows ⟨by simp; omega, fun i hi _ => by simp⟩
  have hms7 := hb7.size
  have hl7 := (ho7.lt _ rfl).2
  have ho8 := own_set ho7 u
  have hr8 := own1_keep hr7 (Below.heap_setCell w7 ⟨w1.heap.size, 0, none⟩ u _ (by simp; omega))
  have hm8 := hm7.base ((Below.refl w.heap.size _).setCell (p := ⟨w1.heap.size, 0, none⟩) (by simp; omega) u) hdl
  obtain ⟨z1, z2, -, -⟩ := own_cell ho7
  obtain ⟨ua, uc', rfl⟩ := hu.isSlice
  obtain ⟨x1, x2, -, -⟩ := own_cell ho8
  obtain ⟨y1, y2, -, -⟩ := own_cell hr8
  rw [List.length_replicate] at *
  clear hem hn hu
  go_wp2
  refine bodyPost_ret (v := .agg #[.slice ua n uc']) (by simp [results, Tryz.results55, go_sem, y1]) rfl ⟨_, List.replicate n [], rfl, ?_, by rw [List.length_replicate]; exact hn17, fun r hr => by rw [List.eq_of_mem_replicate hr]; simp, hm8.base ((Below.refl _ _).setCell (by simp) _) hdl⟩
  exact (hS7.keep fun b hb => (Below.heap_setCell _ _ _ _ (by simp; omega)).trans (Below.heap_setCell _ _ _ _ (by simp; omega))).weak fun b hb => ⟨by omega, by simp; omega⟩
set_option maxHeartbeats 4000000 in
theorem l1New_any {S : Nat → Prop} {v : Value} {bs : List Int} {w : World} (hv : SlI S w .u8 v bs) (hr : ∀ x ∈ bs, 0 ≤ x ∧ x < 256) (hS : ∀ b, S b → b < w.heap.size) (hl : bs.length ≤ 4096) :
    Calls Tryz.prog 25 #[v] w fun e w' => e = .returned (.pointer (some ⟨w.heap.size, 0, none⟩)) ∧ Cur w' w.heap.size bs ∧ Below w.heap.size w w' := by
  have hv' := hv
  obtain ⟨a, b, off, cap, rfl, hl2, ha, hc0⟩ := hv
  have hw0 : IntKind.i64.wrap (580031 + (bs.length : Int)) = 580031 + (bs.length : Int) := IntWalk.i64_in _ (by omega)
  go_enter Tryz.func25, Tryz.ntmps25
  go_wp2
  go_loopw [3, 4] (fun hv iv wr => ∃ (k : Nat) (h : Int), k ≤ bs.length ∧ iv = .int .i64 k ∧ hv = .int .i64 h ∧ wr = w) (fun _ iv _ => bs.length - (intOf iv).toNat)
  case atStart => exact ⟨0, _, Nat.zero_le _, rfl, rfl, rfl⟩
  case round =>
    obtain ⟨k, h, hk, rfl, rfl, rfl⟩ := hrel
    by_cases hlt : k < bs.length
    case neg =>
      go_wp2
      go_ret
      have hb1 : Below wr.heap.size wr (wr.alloc (.cells #[.slice a bs.length cap, .int .i64 0, .int .i64 h] 84)) := (Below.refl _ _).alloc (Nat.le_refl _) _
      exact ⟨rfl, ⟨by simp, hr, ⟨a, cap, 0, h, by simp [go_sem], by simp [go_sem], by simp [go_sem], Nat.zero_le _, (hv'.below hb1 (Nat.le_refl _)).weak fun b hb => hS b hb⟩, by simp [go_sem], by simp [go_sem]⟩, hb1⟩
    have hcb := hc0 k hlt
    obtain ⟨rfl, -⟩ := ha (by omega)
    generalize bs[k] = y at *
    go_wp2
    go_roundw
    case rel => exact ⟨k + 1, _, by omega, by go_num, rfl, by trivial⟩
    case measure => simp [intOf]; omega
end Go.Proofs.YtdbanndcdbikmaaGreatDoor
