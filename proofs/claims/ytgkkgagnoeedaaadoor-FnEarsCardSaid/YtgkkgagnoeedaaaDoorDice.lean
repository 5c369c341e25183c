/- The laws' dice: a box with the bytes, a place and a state. -/
import Derived.Test.YtgkkgagnoeedaaaDoorLaws
import Derived.Test.YtgkkgagnoeedaaaDoorLink
import Derived.Test.YtgkkgagnoeedaaaDoorOwnS
import Derived.Test.YtgkkgagnoeedaaaDoorHeld
namespace Go.Proofs.YtgkkgagnoeedaaaDoor
open Go.RowKit
/-- The box of the dice at block d; the bytes lie elsewhere. -/
structure Dice (w : World) (d : Nat) (bs : List Int) : Prop where
  lt : d < w.heap.size
  rng : ∀ x ∈ bs, 0 ≤ x ∧ x < 256
  st : ∃ a c, ∃ i : Nat, ∃ h : Int, w.cell? ⟨d, 0, none⟩ = some (.slice a bs.length c) ∧ w.cell? ⟨d, 1, none⟩ = some (.int .i64 (i : Int)) ∧ w.cell? ⟨d, 2, none⟩ = some (.int .u64 h) ∧ i ≤ bs.length ∧ (0 ≤ h ∧ h < 18446744073709551616) ∧ SlI (fun b => b < d) w .u8 (.slice a bs.length c) bs
  f1 : w.frozen? ⟨d, 1, none⟩ = false
  f2 : w.frozen? ⟨d, 2, none⟩ = false
theorem Dice.below {w w' : World} {d B : Nat} {bs : List Int} (h : Dice w d bs) (hb : Below B w w') (hB : w.heap.size ≤ B) : Dice w' d bs := by
  obtain ⟨a, c, i, s, c0, c1, c2, hi, hs, hsl⟩ := h.st
  have hl := h.lt
  have hz := hb.size
  exact ⟨by omega, h.rng, ⟨a, c, i, s, (hb.cell (p := ⟨d, 0, none⟩) (by simp; omega)).trans c0, (hb.cell (p := ⟨d, 1, none⟩) (by simp; omega)).trans c1, (hb.cell (p := ⟨d, 2, none⟩) (by simp; omega)).trans c2, hi, hs, hsl.below hb hB⟩,
    (hb.frozen (p := ⟨d, 1, none⟩) (by simp; omega)).trans h.f1, (hb.frozen (p := ⟨d, 2, none⟩) (by simp; omega)).trans h.f2⟩
theorem wrap64_nat {X : Nat} (h : (X : Int) < 17000000) : wrap64 (X : Int) = (X : Int) := by unfold wrap64; omega
theorem wrap64_int {x : Int} (h0 : 0 ≤ x) (h : x < 34000000) : wrap64 x = x := by unfold wrap64; omega
set_option maxHeartbeats 4000000 in
theorem below_any {d n : Nat} {bs : List Int} {w : World} (hd : Dice w d bs) (hl : bs.length ≤ 4096) (hn : 0 < n) (hn2 : n ≤ 1000) :
    Calls Tryd.prog 77 #[.pointer (some ⟨d, 0, none⟩), .int .i64 (n : Int)] w fun e w' => ∃ r : Nat, e = .returned (.int .i64 (r : Int)) ∧ r < n ∧ Dice w' d bs ∧ KeptBut w w' (some d) ∧ w'.heap.size = w.heap.size := by
  obtain ⟨a, c, i, s, c0, c1, c2, hi, hs, hsl⟩ := hd.st
  have f1 := hd.f1
  have f2 := hd.f2
  obtain ⟨s2, hs2⟩ : ∃ s2, IntKind.u64.wrap (IntKind.u64.wrap (s * 6364136223846793005) + 1442695040888963407) = s2 := ⟨_, rfl⟩
  have hs2b : 0 ≤ s2 ∧ s2 < 18446744073709551616 := by
    rw [← hs2]; simp only [IntKind.wrap, IntKind.bits, IntKind.signed]; simp; omega
  obtain ⟨X, hX, hX2⟩ : ∃ X : Nat, bits .and .u64 (s2 / 8589934592) 16777215 = (X : Int) ∧ (X : Int) < 16777216 := by
    refine ⟨_, u64_and _ _ (by omega) (by omega) (by omega) (by omega), ?_⟩
    have : (s2 / 8589934592).toNat &&& (16777215 : Int).toNat ≤ (16777215 : Int).toNat := Nat.and_le_right
    simp at this ⊢; omega
  have hwx := wrap64_nat (X := X) (by omega)
  have HS2 := Lib.hid hs2b
  clear hs2b
  have hlt := hd.lt
  have d0 : (w.setCell ⟨d, 2, none⟩ (.int .u64 s2)).cell? ⟨d, 0, none⟩ = some (.slice a bs.length c) := by simp [go_sem, *]
  have d1 : (w.setCell ⟨d, 2, none⟩ (.int .u64 s2)).cell? ⟨d, 1, none⟩ = some (.int .i64 (i : Int)) := by simp [go_sem, *]
  have d2 : (w.setCell ⟨d, 2, none⟩ (.int .u64 s2)).cell? ⟨d, 2, none⟩ = some (.int .u64 s2) := by simp [go_sem, *]
  have e1 : (w.setCell ⟨d, 2, none⟩ (.int .u64 s2)).frozen? ⟨d, 1, none⟩ = false := by simp [go_sem, *]
  have e2 : (w.setCell ⟨d, 2, none⟩ (.int .u64 s2)).frozen? ⟨d, 2, none⟩ = false := by simp [go_sem, *]
  have hk1 : KeptBut w (w.setCell ⟨d, 2, none⟩ (.int .u64 s2)) (some d) := ⟨rfl, rfl, rfl, by simp, fun k hk hne => Below.heap_setCell _ _ _ _ (by simpa using fun e => hne (by rw [e]))⟩
  have hz1 : (w.setCell ⟨d, 2, none⟩ (.int .u64 s2)).heap.size = w.heap.size := by simp
  have hsl1 := (hsl.keep (w' := w.setCell ⟨d, 2, none⟩ (.int .u64 s2)) (fun b hb => Below.heap_setCell _ _ _ _ (by simp; omega)))
  go_enter Tryd.func77, Tryd.ntmps77
  go_wp2
  clear hwx
  generalize w.setCell ⟨d, 2, none⟩ (.int .u64 s2) = w1 at *
  have hl1 : d < w1.heap.size := by omega
  clear hs2 hs hX
  by_cases hil : i < bs.length
  case neg =>
    have hg1 : decide ((i : Int) < (bs.length : Int)) = false := decide_eq_false (by omega)
    have hg2 : decide (i < bs.length) = false := decide_eq_false hil
    have hr : (X : Int) % (n : Int) = ((X % n : Nat) : Int) := rfl
    have hrn : X % n < n := Nat.mod_lt _ hn
    generalize X % n = r at *
    go_quiet (fail)
    go_wp2
    go_ret
    refine ⟨r, ret_int hr, hrn, ⟨by simp; omega, hd.rng, ⟨a, c, i, s2, ?_, ?_, ?_, hi, HS2.out, ?_⟩, ?_, ?_⟩, ⟨hk1.1, hk1.2.1, hk1.2.2.1, by simpa using hk1.2.2.2.1, fun k hk hne => by simpa using hk1.2.2.2.2 k hk hne⟩, by simpa using hz1⟩
    · simpa [go_sem] using d0
    · simpa [go_sem] using d1
    · simpa [go_sem] using d2
    · exact hsl1.drewN _
    · simpa [go_sem] using e1
    · simpa [go_sem] using e2
  have hg1 : decide ((i : Int) < (bs.length : Int)) = true := decide_eq_true (by omega)
  have hg2 : decide (i < bs.length) = true := decide_eq_true hil
  obtain ⟨b0, bo, bc, hbv, hbc⟩ := hsl1.at_
  obtain ⟨ba, bb, boff, bcap, hv, hbl, hba, hbt⟩ := hsl1
  simp only [Value.slice.injEq, true_and] at hv
  obtain ⟨rfl, rfl⟩ := hv
  obtain ⟨rfl, hbw⟩ := hba (by omega)
  have hbd : bb ≠ d := by omega
  have hbx := hbt i hil
  have hrx := hd.rng _ (List.getElem_mem hil)
  obtain ⟨y, hy⟩ := Int.eq_ofNat_of_zero_le hrx.1
  rw [hy] at hbx
  have hy256 : y < 256 := by omega
  have hr : ((X : Int) + (y : Int)) % (n : Int) = (((X + y) % n : Nat) : Int) := rfl
  have hrn : (X + y) % n < n := Nat.mod_lt _ hn
  have hi1 : i + 1 ≤ bs.length := hil
  have hsl2 : SlI (fun b => b < d) w1 .u8 (.slice (some ⟨bb, boff, none⟩) bs.length c) bs := ⟨_, bb, boff, c, rfl, hbl, fun _ => ⟨rfl, hbw⟩, hbt⟩
  clear hy hrx hbv hbc
  have o1 : 0 ≤ (X : Int) + (y : Int) := by omega
  have o2 : (X : Int) + (y : Int) < 34000000 := by omega
  have o3 : 0 ≤ (i : Int) + 1 := by omega
  have o4 : (i : Int) + 1 < 34000000 := by omega
  have o5 : (y : Int) < 17000000 := by omega
  generalize (X + y) % n = r at *
  go_quiet (fail)
  go_wp2
  go_quiet (fail)
  go_wp2
  go_ret
  refine ⟨r, ret_int hr, hrn, ⟨by simp; omega, hd.rng, ⟨some ⟨bb, boff, none⟩, c, i + 1, s2, ?_, ?_, ?_, hi1, HS2.out, ?_⟩, ?_, ?_⟩, ⟨hk1.1, hk1.2.1, hk1.2.2.1, by simpa using hk1.2.2.2.1, fun k hk hne => ?_⟩, by simpa using hz1⟩
  · simp [go_sem, *]
  · simp [go_sem, *]
  · simp [go_sem, *]
  · exact (hsl2.drewN _).keep (fun b hb => Below.heap_setCell _ _ _ _ (by simp; omega))
  · simp [go_sem, *]
  · simp [go_sem, *]
  · exact (Below.heap_setCell _ _ _ _ (by simpa using fun e => hne (by rw [e]))).trans (hk1.2.2.2.2 k hk hne)
theorem u64_range (x : Int) : 0 ≤ IntKind.u64.wrap x ∧ IntKind.u64.wrap x < 18446744073709551616 := by
  simp only [IntKind.wrap, IntKind.bits, IntKind.signed]; simp; omega
theorem Dice.set {w : World} {d : Nat} {bs : List Int} (h : Dice w d bs) {x : Int} (hx : 0 ≤ x ∧ x < 18446744073709551616) : Dice (w.setCell ⟨d, 2, none⟩ (.int .u64 x)) d bs := by
  obtain ⟨a, c, i, s, c0, c1, c2, hi, hs, hsl⟩ := h.st
  have f1 := h.f1
  have f2 := h.f2
  have hlt := h.lt
  refine ⟨by simp; omega, h.rng, ⟨a, c, i, x, by simp [go_sem, *], by simp [go_sem, *], by simp [go_sem, *], hi, hx, ?_⟩, by simp [go_sem, *], by simp [go_sem, *]⟩
  exact hsl.keep (fun b hb => Below.heap_setCell _ _ _ _ (by simp; omega))
theorem Dice.drew {w : World} {d : Nat} {bs : List Int} (h : Dice w d bs) : Dice w.drew d bs := h.below (B := w.heap.size) ((Below.refl _ _).drew) (Nat.le_refl _)
set_option maxHeartbeats 4000000 in
theorem roll_any {S : Nat → Prop} {v : Value} {bs : List Int} {sd : Nat} {w : World} (hv : SlI S w .u8 v bs) (hr : ∀ x ∈ bs, 0 ≤ x ∧ x < 256) (hS : ∀ b, S b → b < w.heap.size) (hl : bs.length ≤ 4096) :
    Calls Tryd.prog 25 #[v, .int .u64 (sd : Int)] w fun e w' => e = .returned (.pointer (some ⟨w.heap.size, 0, none⟩)) ∧ Dice w' w.heap.size bs ∧ Below w.heap.size w w' := by
  have hv' := hv
  obtain ⟨a, b, off, cap, rfl, hl2, ha, hc0⟩ := hv
  go_enter Tryd.func25, Tryd.ntmps25
  go_wp2
  go_loopw [6] (fun iv wr => ∃ k : Nat, k ≤ bs.length ∧ iv = .int .i64 k ∧ Dice wr w.heap.size bs ∧ Below w.heap.size w wr) (fun iv _ => bs.length - (intOf iv).toNat)
  case atStart =>
    refine ⟨0, Nat.zero_le _, rfl, ⟨by simp, hr, ⟨a, cap, 0, _, by simp [go_sem], by simp [go_sem], by simp [go_sem]; exact rfl, by omega, ?_, ?_⟩, by simp [go_sem], by simp [go_sem]⟩, (Below.refl _ _).alloc (Nat.le_refl _) _⟩
    · first | exact u64_range _ | (constructor <;> omega)
    · exact (hv'.below ((Below.refl _ _).alloc (Nat.le_refl _) _) (Nat.le_refl _)).weak fun b hb => hS b hb
  case round =>
    obtain ⟨k, hk, rfl, hD, hq⟩ := hrel
    obtain ⟨wi, rfl⟩ : ∃ wx : World, wx = wr := ⟨_, rfl⟩
    by_cases hlt : k < bs.length
    case neg =>
      go_wp2
      go_ret
      exact ⟨rfl, hD, hq⟩
    have hcb0 := hc0 k hlt
    obtain ⟨rfl, -⟩ := ha (by omega)
    have hcb := (hq.cell (cell_lt hcb0)).trans hcb0
    have hDd := hD.drew
    have hqd := hq.drew
    obtain ⟨a', c', i', s, c0, c1, c2, hi, hs, hsl⟩ := hD.st
    have f2 := hD.f2
    clear c0 c1 hi hs hsl hcb0
    generalize bs[k] = y at *
    go_wp2
    refine wp_region_late (S := (fun w' => w'.cell? ⟨w.heap.size, 2, none⟩ = some (.int .u64 s) ∧ w'.cell? ⟨b, off + k, none⟩ = some (.int .u8 y))) (late := [15]) (by kernel_rfl) ?_ (fun hHeld => ?_)
    · first | exact ⟨‹_›, ‹_›⟩ | (simp [*, go_sem])
    obtain ⟨d0, d1⟩ := hHeld
    have f2d := hDd.f2
    generalize wi.drew = wd at d0 d1 hDd hqd f2d ⊢
    have hHeld : (fun w' => World.cell? w' ⟨w.heap.size, 2, none⟩ = some (.int .u64 s) ∧ World.cell? w' ⟨b, off + k, none⟩ = some (.int .u8 y)) wd := ⟨d0, d1⟩
    refine wpLate_take (i := 0) (v := ?v1) (by simp only [List.getElem?_toArray, List.getElem?_cons_zero]; exact rfl) (by kernel_rfl) (by kernel_rfl) (by kernel_rfl) (by intro _ _ _ h; exact h) (Or.inl ⟨by rfl, ?y1⟩) ?_
    case y1 => (intro w _; go_simp; try (with_reducible rfl))
    try simp only [Act.put, List.setIfInBounds_toArray, List.set_cons_zero, List.set_cons_succ]
    refine wpLate_take (i := 1) (v := ?v2) (by simp only [List.getElem?_toArray, List.getElem?_cons_succ, List.getElem?_cons_zero]; exact rfl) (by kernel_rfl) (by kernel_rfl) (by kernel_rfl) (by intro _ _ _ h; exact h) (Or.inl ⟨by rfl, ?y2⟩) ?_
    case y2 => (intro w _; go_simp; try (with_reducible rfl))
    try simp only [Act.put, List.setIfInBounds_toArray, List.set_cons_zero, List.set_cons_succ]
    refine wpLate_take (i := 2) (v := ?v3) (by simp only [List.getElem?_toArray, List.getElem?_cons_succ, List.getElem?_cons_zero]; exact rfl) (by kernel_rfl) (by kernel_rfl) (by kernel_rfl) (by intro _ _ _ h; exact h) (Or.inl ⟨by rfl, ?y3⟩) ?_
    case y3 => (intro w _; go_simp; try (with_reducible rfl))
    try simp only [Act.put, List.setIfInBounds_toArray, List.set_cons_zero, List.set_cons_succ]
    refine wpLate_take (i := 3) (v := ?v4) (by simp only [List.getElem?_toArray, List.getElem?_cons_succ, List.getElem?_cons_zero]; exact rfl) (by kernel_rfl) (by kernel_rfl) (by kernel_rfl) (by intro _ _ _ h; exact h) (Or.inl ⟨by rfl, ?y4⟩) ?_
    case y4 => (intro w _; go_simp; try (with_reducible rfl))
    try simp only [Act.put, List.setIfInBounds_toArray, List.set_cons_zero, List.set_cons_succ]
    refine wpLate_load (i := 4) (v := ?v5) (by simp only [List.getElem?_toArray, List.getElem?_cons_succ, List.getElem?_cons_zero]; exact rfl) (by kernel_rfl) (by kernel_rfl) (by kernel_rfl) (by kernel_rfl) (by intro _ _ _ h; exact h) (Or.inl ⟨by rfl, ?y5⟩) hHeld ?_
    case y5 => (intro w hSw; (try dsimp only at hSw); go_simp; try (with_reducible rfl))
    try simp only [Act.put, List.setIfInBounds_toArray, List.set_cons_zero, List.set_cons_succ]
    refine wpLate_take (i := 5) (v := ?v6) (by simp only [List.getElem?_toArray, List.getElem?_cons_succ, List.getElem?_cons_zero]; exact rfl) (by kernel_rfl) (by kernel_rfl) (by kernel_rfl) (by intro _ _ _ h; exact h) (Or.inl ⟨by rfl, ?y6⟩) ?_
    case y6 => (intro w _; go_simp; try (with_reducible rfl))
    try simp only [Act.put, List.setIfInBounds_toArray, List.set_cons_zero, List.set_cons_succ]
    refine wpLate_take (i := 6) (v := ?v7) (by simp only [List.getElem?_toArray, List.getElem?_cons_succ, List.getElem?_cons_zero]; exact rfl) (by kernel_rfl) (by kernel_rfl) (by kernel_rfl) (by intro _ _ _ h; exact h) (Or.inl ⟨by rfl, ?y7⟩) ?_
    case y7 => (intro w _; go_simp; try (with_reducible rfl))
    try simp only [Act.put, List.setIfInBounds_toArray, List.set_cons_zero, List.set_cons_succ]
    refine wpLate_take (i := 7) (v := ?v8) (by simp only [List.getElem?_toArray, List.getElem?_cons_succ, List.getElem?_cons_zero]; exact rfl) (by kernel_rfl) (by kernel_rfl) (by kernel_rfl) (by intro _ _ _ h; exact h) (Or.inl ⟨by rfl, ?y8⟩) ?_
    case y8 => (intro w _; go_simp; try (with_reducible rfl))
    try simp only [Act.put, List.setIfInBounds_toArray, List.set_cons_zero, List.set_cons_succ]
    refine wpLate_take (i := 8) (v := ?v9) (by simp only [List.getElem?_toArray, List.getElem?_cons_succ, List.getElem?_cons_zero]; exact rfl) (by kernel_rfl) (by kernel_rfl) (by kernel_rfl) (by intro _ _ _ h; exact h) (Or.inl ⟨by rfl, ?y9⟩) ?_
    case y9 => (intro w _; go_simp; try (with_reducible rfl))
    try simp only [Act.put, List.setIfInBounds_toArray, List.set_cons_zero, List.set_cons_succ]
    refine wpLate_load (i := 9) (v := ?v10) (by simp only [List.getElem?_toArray, List.getElem?_cons_succ, List.getElem?_cons_zero]; exact rfl) (by kernel_rfl) (by kernel_rfl) (by kernel_rfl) (by kernel_rfl) (by intro _ _ _ h; exact h) (Or.inl ⟨by rfl, ?y10⟩) hHeld ?_
    case y10 => (intro w hSw; (try dsimp only at hSw); go_simp; try (with_reducible rfl))
    try simp only [Act.put, List.setIfInBounds_toArray, List.set_cons_zero, List.set_cons_succ]
    refine wpLate_take (i := 10) (v := ?v11) (by simp only [List.getElem?_toArray, List.getElem?_cons_succ, List.getElem?_cons_zero]; exact rfl) (by kernel_rfl) (by kernel_rfl) (by kernel_rfl) (by intro _ _ _ h; exact h) (Or.inl ⟨by rfl, ?y11⟩) ?_
    case y11 => (intro w _; go_simp; try (with_reducible rfl))
    try simp only [Act.put, List.setIfInBounds_toArray, List.set_cons_zero, List.set_cons_succ]
    refine wpLate_take (i := 11) (v := ?v12) (by simp only [List.getElem?_toArray, List.getElem?_cons_succ, List.getElem?_cons_zero]; exact rfl) (by kernel_rfl) (by kernel_rfl) (by kernel_rfl) (by intro _ _ _ h; exact h) (Or.inl ⟨by rfl, ?y12⟩) ?_
    case y12 => (intro w _; go_simp; try (with_reducible rfl))
    try simp only [Act.put, List.setIfInBounds_toArray, List.set_cons_zero, List.set_cons_succ]
    refine wpLate_take (i := 12) (v := ?v13) (by simp only [List.getElem?_toArray, List.getElem?_cons_succ, List.getElem?_cons_zero]; exact rfl) (by kernel_rfl) (by kernel_rfl) (by kernel_rfl) (by intro _ _ _ h; exact h) (Or.inl ⟨by rfl, ?y13⟩) ?_
    case y13 => (intro w _; go_simp; try (with_reducible rfl))
    try simp only [Act.put, List.setIfInBounds_toArray, List.set_cons_zero, List.set_cons_succ]
    refine wpLate_take (i := 13) (v := ?v14) (by simp only [List.getElem?_toArray, List.getElem?_cons_succ, List.getElem?_cons_zero]; exact rfl) (by kernel_rfl) (by kernel_rfl) (by kernel_rfl) (by intro _ _ _ h; exact h) (Or.inl ⟨by rfl, ?y14⟩) ?_
    case y14 => (intro w _; go_simp; try (with_reducible rfl))
    try simp only [Act.put, List.setIfInBounds_toArray, List.set_cons_zero, List.set_cons_succ]
    refine wpLate_take (i := 14) (v := ?v15) (by simp only [List.getElem?_toArray, List.getElem?_cons_succ, List.getElem?_cons_zero]; exact rfl) (by kernel_rfl) (by kernel_rfl) (by kernel_rfl) (by intro _ _ _ h; exact h) (Or.inl ⟨by rfl, ?y15⟩) ?_
    case y15 => (intro w _; go_simp; try (with_reducible rfl))
    try simp only [Act.put, List.setIfInBounds_toArray, List.set_cons_zero, List.set_cons_succ]
    refine wpLate_late (i := 15) (by kernel_rfl) (by simp only [List.getElem?_toArray, List.getElem?_cons_succ, List.getElem?_cons_zero]; exact rfl) (by kernel_rfl) (fun K hK => ?_)
    go_simp
    skip
    try dsimp only
    refine hK.out _ _ ?_
    clear hK K
    try simp only [Act.put, List.setIfInBounds_toArray, List.set_cons_zero, List.set_cons_succ]
    refine wpLate_done (by kernel_rfl) ?_ _
    go_wp2
    go_roundw
    case rel => exact ⟨k + 1, by omega, by go_num, hDd.set (u64_range _), hqd.setCell (by simp) _⟩
    case measure => simp [intOf]; omega
set_option maxRecDepth 100000 in
set_option maxHeartbeats 8000000 in
theorem specGraphOf_any {S : Nat → Prop} {v : Value} {L : List NP} {n : Nat} {w : World} (h1 : 1 ≤ n) (h16 : n ≤ 16) (hv : SlR S w v (rowsP L)) (hL : ∀ s ∈ L, s.1 < s.2 ∧ s.2 < n) (hnd : L.Nodup) (hl : L.length ≤ 120) :
    Calls Tryd.prog 78 #[.int .i64 (n : Int), v] w fun e w' => ∃ u M, e = .returned (.tuple #[.agg #[u], .bool true]) ∧ OwnR w' w.heap.size w'.heap.size 51 2 u (M.map bitsI) ∧ EdL L n M ∧ Below w.heap.size w w' := by
  have hq0 : Below w.heap.size w (w.alloc (.cells #[.slice none 0 0] 27)) := (Below.refl _ _).alloc (Nat.le_refl _) _
  have hr0 := own_new w w.heap.size 27 (.slice none 0 0) (Nat.le_refl _)
  have hem := l1Empty_any (w := w.alloc (.cells #[.slice none 0 0] 27)) h16
  have hrl := rowsP_len L
  have hpr := fun (W : World) (hb : Below w.heap.size w W) (i : Nat) (hi : i < L.length) => (hv.below hb (Nat.le_refl _)).pairS hi
  have hin : inB (n : Int) 1 16 = true := inB_true (by omega)
  have hli := fun (W : World) => l1In_any (n : Int) 1 16 W
  rw [hin] at hli
  obtain ⟨va, vb, vo, vc, f, rfl, hvl, hva, hvr⟩ := hv
  rw [hrl] at hvl hva hpr ⊢
  have hrow := fun (W : World) (hb : Below w.heap.size w W) (i : Nat) (hi : i < L.length) => (hvr.below hb (Nat.le_refl _)) i (by rw [hrl]; exact hi)
  have hd1 : decide ((120 : Int) < (L.length : Int)) = false := decide_eq_false (by omega)
  have hd2 : decide (120 < L.length) = false := decide_eq_false (by omega)
  clear hin
  go_enter Tryd.func78, Tryd.ntmps78
  go_wp2_with (first | (go_at_call 123; refine (hli _).mono ?_; rintro e w' ⟨rfl, rfl⟩) | fail)
  refine hem.mono ?_
  rintro e w1 ⟨u1, rfl, hu1, hb1⟩
  have hq1 := hq0.trans (hb1.mono hq0.size)
  have hr1 := hr0.below hb1 (Nat.le_refl _)
  have hw1s : w.heap.size < w1.heap.size := (hr1.lt _ rfl).2
  rw [repl_bits] at hu1
  obtain ⟨ua, uc, rfl⟩ := hu1.isSlice
  rw [List.length_map, List.length_replicate] at *
  have hb2 : Below w1.heap.size w1 (w1.alloc (.cells #[.slice ua n uc] 27)) := (Below.refl _ _).alloc (Nat.le_refl _) _
  have hq2 := hq1.trans (hb2.mono hq1.size)
  have hr2 := hr1.below hb2 (Nat.le_refl _)
  have hu2 := ((hu1.below hb2 (Nat.le_refl _)).weaken (by simp <;> omega) hb2.size : OwnR (w1.alloc (.cells #[.slice ua n uc] 27)) w.heap.size _ _ _ _ _)
  have ho2 := own_new w1 w.heap.size 27 (.slice ua n uc) hq1.size
  clear hem hu1 hr0 hr1 hq0 hb1 hb2
  have hE0 := Lib.hid (EdL.start n)
  generalize List.replicate n 0 = M0 at *
  go_wp2
  go_loopw [7] (fun iv wr => ∃ (i : Nat) (u : Value) (M : List Nat), i ≤ L.length ∧ iv = .int .i64 i ∧ OwnR wr w.heap.size wr.heap.size 51 2 u (M.map bitsI) ∧ RowKit.Hid (EdL (L.take i) n M) ∧ Own wr w.heap.size 27 1 (.slice (some ⟨w1.heap.size, 0, none⟩) 1 1) 1 [u] ∧ Own wr w.heap.size 27 1 (.slice (some ⟨w.heap.size, 0, none⟩) 1 1) 1 [.slice none 0 0] ∧ Below w.heap.size w wr) (fun iv _ => L.length - (intOf iv).toNat)
  case atStart => exact ⟨0, _, _, Nat.zero_le _, rfl, hu2, by simpa using hE0, ho2, hr2, hq2⟩
  case round =>
    clear hu2 hE0 ho2 hr2 hq2
    obtain ⟨i, u, M, hi, rfl, hR, hE, hou, hr, hq⟩ := hrel
    obtain ⟨wi, rfl⟩ : ∃ wx : World, wx = wr := ⟨_, rfl⟩
    by_cases hlt : i < L.length
    case neg =>
      obtain rfl : i = L.length := by omega
      obtain ⟨ua, uc, rfl⟩ := hR.isSlice
      have hE2 := Lib.hid (show EdL L n M by have := hE.out; rwa [List.take_length] at this)
      rw [List.length_map] at *
      obtain ⟨o1, o2, -, -⟩ := own_cell hou
      obtain ⟨r1, r2, -, -⟩ := own_cell hr
      go_wp2
      refine bodyPost_ret (v := .tuple #[.agg #[.slice ua M.length uc], .bool true]) (by simp [results, Tryd.results78, go_sem, r1]) rfl ⟨_, M, rfl, ?_, hE2.out, ?_⟩
      · exact (hR.setOther hr (by decide) (by decide) _).weaken (by omega) (by simp)
      · exact hq.setCell (by simp) _
    obtain ⟨b', off', cap', rb, ro, rc, hve, hpc0, hpx0, hpy0, -, -⟩ := hpr w (Below.refl _ _) i hlt
    simp only [Value.slice.injEq, true_and] at hve
    obtain ⟨rfl, rfl⟩ := hve
    obtain ⟨hfc, hfs⟩ := hrow w (Below.refl _ _) i hlt
    obtain ⟨hva1, -⟩ := hva (by omega)
    simp only [Option.some.injEq, Addr.mk.injEq, and_true] at hva1
    obtain ⟨rfl, rfl⟩ := hva1
    have hfe : f i = .slice (some ⟨rb, ro, none⟩) 2 rc := Option.some.inj (hfc.symm.trans hpc0)
    rw [hfe] at hfs
    have hfs := hfs.below hq (Nat.le_refl _)
    have k1 := cell_lt hpc0
    have k2 := cell_lt hpx0
    have hpc := (hq.cell (cell_lt hpc0)).trans hpc0
    have hpx := (hq.cell (cell_lt hpx0)).trans hpx0
    have hpy := (hq.cell (cell_lt hpy0)).trans hpy0
    have hrp : (rowsP L)[i]'(by rw [hrl]; exact hlt) = rowP L[i] := rowsP_get _ hlt
    rw [hrp, rowP] at hfs
    have hs := hL _ (List.getElem_mem hlt)
    have hset := l1Set_any _ _ (n : Int) wi hfs (by omega) (by omega)
    rw [riseB_true (show Rise [((L[i]).1 : Int), ((L[i]).2 : Int)] n from fun j hj _ => by
      match j, hj with
      | 0, _ => exact ⟨by simp, by simp; omega, fun k hk => by omega⟩
      | 1, _ => exact ⟨by simp, by simp; omega, fun k hk => by
          obtain rfl : k = 0 := by omega
          simp; omega⟩)] at hset
    have hnw : L[i] ∉ L.take i := fun hm => by
      obtain ⟨j, hj, he⟩ := List.getElem_of_mem hm
      rw [List.length_take] at hj
      rw [List.getElem_take] at he
      exact (List.pairwise_iff_getElem.1 hnd) j i (by omega) hlt (by omega) he
    have hpre := hE.out.pre hs.1 hs.2 (fun s hs' => (hL s (List.mem_of_mem_take hs')).1) hnw
    have hM16 : ∀ m ∈ M, m < 65536 := fun m hm => by
      have h1 := hE.out.lt (fun s hs' => hL s (List.mem_of_mem_take hs')) m hm
      have h2 := pow_le16 h16
      omega
    have hML := hE.out.1
    have hlk := fun (W : World) (hRW : OwnR W w.heap.size W.heap.size 51 2 u (M.map bitsI)) (hBW : w.heap.size ≤ W.heap.size) => l1Link_any hRW (Nat.le_refl _) hBW (k := (L[i]).1) (i := (L[i]).2) (by omega) (by omega) (by omega) hM16 (by omega) hpre.1 hpre.2
    have HEN := Lib.hid (show EdL (L.take (i + 1)) n (linkN M (L[i]).1 (L[i]).2) by rw [List.take_succ_eq_append_getElem hlt]; exact hE.out.next hs.1 hs.2)
    obtain ⟨o1, o2, -, -⟩ := own_cell hou
    have hnob := hR.other hou (by decide)
    have hnrb := hR.other hr (by decide)
    have hlo := (hou.lt _ rfl).2
    have hlr := (hr.lt _ rfl).2
    obtain ⟨ua, uc, rfl⟩ := hR.isSlice
    rw [List.length_map] at *
    clear hrow hvr hpr hfc hfe hfs hpc0 hpx0 hpy0 hrp hs hnw hpre hM16 hML hE
    generalize (L[i]).1 = x at *
    generalize (L[i]).2 = y at *
    go_wp2_with (go_at_call 124; refine hset.mono ?_; rintro e w2 ⟨rfl, hdw⟩)
    have hR2 := hR.below (hdw.below wi.heap.size) (Nat.le_refl _)
    have hou2 := hou.drawn hdw
    have hr2 := hr.drawn hdw
    have hq2 := hq.trans (hdw.below _)
    have hsz2 : w2.heap.size = wi.heap.size := by rw [hdw.heap]
    have hpc := (hdw.cell _).trans hpc
    have hpx := (hdw.cell _).trans hpx
    have hpy := (hdw.cell _).trans hpy
    have o1 := (hdw.cell _).trans o1
    clear hR hou hr o2 hset
    refine wp_region_late (S := (fun w' => World.cell? w' ⟨w1.heap.size, 0, none⟩ = some (.slice ua M.length uc) ∧ World.cell? w' ⟨b', off' + i, none⟩ = some (.slice (some ⟨rb, ro, none⟩) 2 rc) ∧ World.cell? w' ⟨rb, ro, none⟩ = some (.int .i64 (x : Int)) ∧ World.cell? w' ⟨rb, ro + 1, none⟩ = some (.int .i64 (y : Int)))) (late := [14]) (by kernel_rfl) ?_ (fun hHeld => ?_)
    · first | exact ⟨‹_›, ‹_›, ‹_›, ‹_›⟩ | (simp [*, go_sem])
    obtain ⟨d0, d1, d2, d3⟩ := hHeld
    have hRd := hR2.drewR
    have houd := hou2.drawn (Drawn.refl _).drew
    have hrd := hr2.drawn (Drawn.refl _).drew
    have hqd := hq2.drew
    have hszd : w2.drew.heap.size = wi.heap.size := hsz2
    generalize w2.drew = wd at d0 d1 d2 d3 hRd houd hrd hqd hszd ⊢
    have hHeld : (fun w' => World.cell? w' ⟨w1.heap.size, 0, none⟩ = some (.slice ua M.length uc) ∧ World.cell? w' ⟨b', off' + i, none⟩ = some (.slice (some ⟨rb, ro, none⟩) 2 rc) ∧ World.cell? w' ⟨rb, ro, none⟩ = some (.int .i64 (x : Int)) ∧ World.cell? w' ⟨rb, ro + 1, none⟩ = some (.int .i64 (y : Int))) wd := ⟨d0, d1, d2, d3⟩
    refine wpLate_load (i := 0) (v := ?v17) (by simp only [List.getElem?_toArray, List.getElem?_cons_zero]; exact rfl) (by kernel_rfl) (by kernel_rfl) (by kernel_rfl) (by kernel_rfl) (by intro _ _ _ h; exact h) (Or.inl ⟨by rfl, ?y17⟩) hHeld ?_
    case y17 => (intro w hSw; (try dsimp only at hSw); go_simp; try (with_reducible rfl))
    try simp only [Act.put, List.setIfInBounds_toArray, List.set_cons_zero, List.set_cons_succ]
    refine wpLate_take (i := 1) (v := ?v18) (by simp only [List.getElem?_toArray, List.getElem?_cons_succ, List.getElem?_cons_zero]; exact rfl) (by kernel_rfl) (by kernel_rfl) (by kernel_rfl) (by intro _ _ _ h; exact h) (Or.inl ⟨by rfl, ?y18⟩) ?_
    case y18 => (intro w _; go_simp; try (with_reducible rfl))
    try simp only [Act.put, List.setIfInBounds_toArray, List.set_cons_zero, List.set_cons_succ]
    refine wpLate_take (i := 2) (v := ?v19) (by simp only [List.getElem?_toArray, List.getElem?_cons_succ, List.getElem?_cons_zero]; exact rfl) (by kernel_rfl) (by kernel_rfl) (by kernel_rfl) (by intro _ _ _ h; exact h) (Or.inl ⟨by rfl, ?y19⟩) ?_
    case y19 => (intro w _; go_simp; try (with_reducible rfl))
    try simp only [Act.put, List.setIfInBounds_toArray, List.set_cons_zero, List.set_cons_succ]
    refine wpLate_take (i := 3) (v := ?v20) (by simp only [List.getElem?_toArray, List.getElem?_cons_succ, List.getElem?_cons_zero]; exact rfl) (by kernel_rfl) (by kernel_rfl) (by kernel_rfl) (by intro _ _ _ h; exact h) (Or.inl ⟨by rfl, ?y20⟩) ?_
    case y20 => (intro w _; go_simp; try (with_reducible rfl))
    try simp only [Act.put, List.setIfInBounds_toArray, List.set_cons_zero, List.set_cons_succ]
    refine wpLate_load (i := 4) (v := ?v21) (by simp only [List.getElem?_toArray, List.getElem?_cons_succ, List.getElem?_cons_zero]; exact rfl) (by kernel_rfl) (by kernel_rfl) (by kernel_rfl) (by kernel_rfl) (by intro _ _ _ h; exact h) (Or.inl ⟨by rfl, ?y21⟩) hHeld ?_
    case y21 => (intro w hSw; (try dsimp only at hSw); go_simp; try (with_reducible rfl))
    try simp only [Act.put, List.setIfInBounds_toArray, List.set_cons_zero, List.set_cons_succ]
    refine wpLate_take (i := 5) (v := ?v22) (by simp only [List.getElem?_toArray, List.getElem?_cons_succ, List.getElem?_cons_zero]; exact rfl) (by kernel_rfl) (by kernel_rfl) (by kernel_rfl) (by intro _ _ _ h; exact h) (Or.inl ⟨by rfl, ?y22⟩) ?_
    case y22 => (intro w _; go_simp; try (with_reducible rfl))
    try simp only [Act.put, List.setIfInBounds_toArray, List.set_cons_zero, List.set_cons_succ]
    refine wpLate_load (i := 6) (v := ?v23) (by simp only [List.getElem?_toArray, List.getElem?_cons_succ, List.getElem?_cons_zero]; exact rfl) (by kernel_rfl) (by kernel_rfl) (by kernel_rfl) (by kernel_rfl) (by intro _ _ _ h; exact h) (Or.inl ⟨by rfl, ?y23⟩) hHeld ?_
    case y23 => (intro w hSw; (try dsimp only at hSw); go_simp; try (with_reducible rfl))
    try simp only [Act.put, List.setIfInBounds_toArray, List.set_cons_zero, List.set_cons_succ]
    refine wpLate_take (i := 7) (v := ?v24) (by simp only [List.getElem?_toArray, List.getElem?_cons_succ, List.getElem?_cons_zero]; exact rfl) (by kernel_rfl) (by kernel_rfl) (by kernel_rfl) (by intro _ _ _ h; exact h) (Or.inl ⟨by rfl, ?y24⟩) ?_
    case y24 => (intro w _; go_simp; try (with_reducible rfl))
    try simp only [Act.put, List.setIfInBounds_toArray, List.set_cons_zero, List.set_cons_succ]
    refine wpLate_take (i := 8) (v := ?v25) (by simp only [List.getElem?_toArray, List.getElem?_cons_succ, List.getElem?_cons_zero]; exact rfl) (by kernel_rfl) (by kernel_rfl) (by kernel_rfl) (by intro _ _ _ h; exact h) (Or.inl ⟨by rfl, ?y25⟩) ?_
    case y25 => (intro w _; go_simp; try (with_reducible rfl))
    try simp only [Act.put, List.setIfInBounds_toArray, List.set_cons_zero, List.set_cons_succ]
    refine wpLate_take (i := 9) (v := ?v26) (by simp only [List.getElem?_toArray, List.getElem?_cons_succ, List.getElem?_cons_zero]; exact rfl) (by kernel_rfl) (by kernel_rfl) (by kernel_rfl) (by intro _ _ _ h; exact h) (Or.inl ⟨by rfl, ?y26⟩) ?_
    case y26 => (intro w _; go_simp; try (with_reducible rfl))
    try simp only [Act.put, List.setIfInBounds_toArray, List.set_cons_zero, List.set_cons_succ]
    refine wpLate_load (i := 10) (v := ?v27) (by simp only [List.getElem?_toArray, List.getElem?_cons_succ, List.getElem?_cons_zero]; exact rfl) (by kernel_rfl) (by kernel_rfl) (by kernel_rfl) (by kernel_rfl) (by intro _ _ _ h; exact h) (Or.inl ⟨by rfl, ?y27⟩) hHeld ?_
    case y27 => (intro w hSw; (try dsimp only at hSw); go_simp; try (with_reducible rfl))
    try simp only [Act.put, List.setIfInBounds_toArray, List.set_cons_zero, List.set_cons_succ]
    refine wpLate_take (i := 11) (v := ?v28) (by simp only [List.getElem?_toArray, List.getElem?_cons_succ, List.getElem?_cons_zero]; exact rfl) (by kernel_rfl) (by kernel_rfl) (by kernel_rfl) (by intro _ _ _ h; exact h) (Or.inl ⟨by rfl, ?y28⟩) ?_
    case y28 => (intro w _; go_simp; try (with_reducible rfl))
    try simp only [Act.put, List.setIfInBounds_toArray, List.set_cons_zero, List.set_cons_succ]
    refine wpLate_load (i := 12) (v := ?v29) (by simp only [List.getElem?_toArray, List.getElem?_cons_succ, List.getElem?_cons_zero]; exact rfl) (by kernel_rfl) (by kernel_rfl) (by kernel_rfl) (by kernel_rfl) (by intro _ _ _ h; exact h) (Or.inl ⟨by rfl, ?y29⟩) hHeld ?_
    case y29 => (intro w hSw; (try dsimp only at hSw); go_simp; try (with_reducible rfl))
    try simp only [Act.put, List.setIfInBounds_toArray, List.set_cons_zero, List.set_cons_succ]
    refine wpLate_one (i := 13) (by kernel_rfl) (by simp only [List.getElem?_toArray, List.getElem?_cons_succ, List.getElem?_cons_zero]; exact rfl) (by kernel_rfl) (fun K hK => ?_)
    go_simp
    refine (hlk _ (hRd.weaken (Nat.le_refl _) (by omega)) (by omega)).mono ?_
    rintro e wm ⟨rfl, hRm, hbm, hfr⟩
    have houm := own1_keep houd (hfr _ (by omega) hnob)
    have hrm := own1_keep hrd (hfr _ (by omega) hnrb)
    have hqm := hqd.trans hbm
    obtain ⟨x1, x2, -, -⟩ := own_cell houm
    have d1 := (hbm.cell (p := ⟨b', off' + i, none⟩) k1).trans d1
    have d2 := (hbm.cell (p := ⟨rb, ro, none⟩) k2).trans d2
    have d3 := (hbm.cell (p := ⟨rb, ro + 1, none⟩) k2).trans d3
    try dsimp only
    refine hK.out _ _ ?h30 (fun hHeld => ?_)
    case h30 => first | exact ⟨‹_›, ‹_›, ‹_›, ‹_›⟩ | (simp [*, go_sem])
    clear hK K
    try simp only [Act.put, List.setIfInBounds_toArray, List.set_cons_zero, List.set_cons_succ]
    refine wpLate_late (i := 14) (by kernel_rfl) (by simp only [List.getElem?_toArray, List.getElem?_cons_succ, List.getElem?_cons_zero]; exact rfl) (by kernel_rfl) (fun K hK => ?_)
    go_simp
    skip
    try dsimp only
    refine hK.out _ _ ?_
    clear hK K
    try simp only [Act.put, List.setIfInBounds_toArray, List.set_cons_zero, List.set_cons_succ]
    refine wpLate_done (by kernel_rfl) ?_ _
    go_wp2
    go_roundw
    case rel => exact ⟨i + 1, _, _, by omega, by go_num, (hRm.setOther houm (by decide) (by decide) _).weaken (Nat.le_refl _) (by simp), HEN, own_set houm _, own1_keep hrm (Below.heap_setCell _ _ _ _ (by (simp; omega))), hqm.setCell (by simp; omega) _⟩
    case measure => simp [intOf]; omega
theorem KeptBut.twice {w w1 w2 : World} {r : Option Nat} (h : KeptBut w w1 r) (k : KeptBut w1 w2 r) : KeptBut w w2 r :=
  ⟨k.1.trans h.1, k.2.1.trans h.2.1, k.2.2.1.trans h.2.2.1, Nat.le_trans h.2.2.2.1 k.2.2.2.1, fun b hb hne => (k.2.2.2.2 b (Nat.lt_of_lt_of_le hb h.2.2.2.1) hne).trans (h.2.2.2.2 b hb hne)⟩
theorem KeptBut.ofB {w w' : World} {r : Option Nat} {B : Nat} (h : Below B w w') (hB : w.heap.size ≤ B) : KeptBut w w' r := ⟨h.os, h.tape, h.output, h.size, fun k hk _ => h.block k (by omega)⟩
theorem KeptBut.setC (w : World) (b o : Nat) (v : Value) : KeptBut w (w.setCell ⟨b, o, none⟩ v) (some b) := ⟨rfl, rfl, rfl, by simp, fun k _ hne => Below.heap_setCell _ _ _ _ (by simpa using fun e => hne (by rw [e]))⟩
/-- An append to a list that lies behind the dice. -/
theorem KeptBut.app {w0 w w' : World} {d : Nat} {r : Option Nat} (h : KeptBut w0 w (some d)) (k : KeptBut w w' r) (hr : ∀ b, r = some b → w0.heap.size ≤ b) : KeptBut w0 w' (some d) :=
  ⟨k.1.trans h.1, k.2.1.trans h.2.1, k.2.2.1.trans h.2.2.1, Nat.le_trans h.2.2.2.1 k.2.2.2.1, fun b hb hne => (k.2.2.2.2 b (Nat.lt_of_lt_of_le hb h.2.2.2.1) (fun e => by have := hr b e.symm; omega)).trans (h.2.2.2.2 b hb hne)⟩
theorem Dice.kept {w w' : World} {d : Nat} {bs : List Int} {r : Option Nat} (h : Dice w d bs) (k : KeptBut w w' r) (hr : ∀ b, r = some b → d < b) : Dice w' d bs := by
  obtain ⟨a, c, i, s, c0, c1, c2, hi, hs, hsl⟩ := h.st
  have hl := h.lt
  have hb : w'.heap[d]? = w.heap[d]? := k.2.2.2.2 d hl (fun e => by have := hr d e.symm; omega)
  exact ⟨by have := k.2.2.2.1; omega, h.rng, ⟨a, c, i, s, (World.cell?_of_block (a := ⟨d, 0, none⟩) hb).trans c0, (World.cell?_of_block (a := ⟨d, 1, none⟩) hb).trans c1, (World.cell?_of_block (a := ⟨d, 2, none⟩) hb).trans c2, hi, hs,
    hsl.keep fun b hb => k.2.2.2.2 b (by omega) (fun e => by have := hr b e.symm; omega)⟩,
    (World.frozen?_of_block (a := ⟨d, 1, none⟩) hb).trans h.f1, (World.frozen?_of_block (a := ⟨d, 2, none⟩) hb).trans h.f2⟩
set_option maxRecDepth 100000 in
set_option maxHeartbeats 8000000 in
theorem w9Graph_any {d most : Nat} {bs : List Int} {w : World} (hD : Dice w d bs) (hl : bs.length ≤ 4096) (hm : 1 ≤ most) (hm6 : most ≤ 6) :
    Calls Tryd.prog 26 #[.pointer (some ⟨d, 0, none⟩), .int .i64 (most : Int)] w fun e w' => ∃ u g, e = .returned (.agg #[u]) ∧ OwnR w' w.heap.size w'.heap.size 51 2 u g ∧ GOk g ∧ g.length ≤ 6 ∧ Dice w' d bs ∧ KeptBut w w' (some d) := by
  have hdl := hD.lt
  have hb0 : Below w.heap.size w (w.alloc (.cells #[.slice none 0 0] 27)) := (Below.refl _ _).alloc (Nat.le_refl _) _
  have hr0 := own_new w w.heap.size 27 (.slice none 0 0) (Nat.le_refl _)
  have hD0 := hD.below hb0 (Nat.le_refl _)
  have hk0 : KeptBut w (w.alloc (.cells #[.slice none 0 0] 27)) (some d) := KeptBut.ofB hb0 (Nat.le_refl _)
  have hbl := below_any (n := most) hD0 hl (by omega) (by omega)
  go_enter Tryd.func26, Tryd.ntmps26
  go_wp2_with fail
  refine hbl.mono ?_
  rintro e w1 ⟨r1, rfl, hr1, hD1, hk1, hz1⟩
  have hr1o := own1_kept hr0 hk1 (by simp; omega)
  have hk1 := hk0.twice hk1
  have hbl := below_any (n := 3) hD1 hl (by omega) (by omega)
  have hwn : IntKind.i64.wrap (1 + (r1 : Int)) = 1 + (r1 : Int) := IntWalk.i64_in _ (by omega)
  clear hr0 hD0 hk0 hb0
  go_wp2_with fail
  refine hbl.mono ?_
  rintro e w2 ⟨r2, rfl, hr2, hD2, hk2, hz2⟩
  have hr2o := own1_kept hr1o hk2 (by simp; omega)
  have hk2 := hk1.twice hk2
  have hwo : IntKind.i64.wrap (1 + (r2 : Int)) = 1 + (r2 : Int) := IntWalk.i64_in _ (by omega)
  obtain ⟨n, hn⟩ : ∃ n : Nat, (1 + (r1 : Int)) = (n : Int) := ⟨1 + r1, by omega⟩
  have hn1 : 1 ≤ n := by omega
  have hn6 : n ≤ 6 := by omega
  have hb2 : Below w2.heap.size w2 (w2.alloc (.cells #[] 51)) := (Below.refl _ _).alloc (Nat.le_refl _) _
  have hS0 := OwnS.empty w2 w.heap.size 51 hk2.2.2.2.1
  have hD3 := hD2.below hb2 (Nat.le_refl _)
  have hr3 := hr2o.below hb2 (Nat.le_refl _)
  have hk3 := hk2.twice (KeptBut.ofB (r := some d) hb2 (Nat.le_refl _))
  clear hbl hD1 hk1 hr1o hD2 hk2 hr2o hb2 hr1 hz1 hz2
  go_wp2
  go_loopw [7, 8] (fun ev vv wr => ∃ (x : Nat) (L : List NP), 1 ≤ x ∧ x ≤ n ∧ vv = .int .i64 x ∧ OwnS wr w.heap.size 51 ev (rowsP L) ∧ RowKit.Hid (PL n L x 0) ∧ L.length ≤ 16 * x ∧ Dice wr d bs ∧ KeptBut w wr (some d) ∧ Own wr w.heap.size 27 1 (.slice (some ⟨w.heap.size, 0, none⟩) 1 1) 1 [.slice none 0 0]) (fun _ vv _ => n - (intOf vv).toNat)
  case atStart => exact ⟨1, [], by omega, hn1, rfl, by simpa [rowsP] using hS0, Lib.hid (PL.start n), by simp, hD3, hk3, hr3⟩
  case round =>
    clear hS0 hD3 hk3 hr3
    obtain ⟨x, L, hx1, hxn, rfl, hS, HP, hL, hD, hk, hr⟩ := hrel
    obtain ⟨wi, rfl⟩ : ∃ wx : World, wx = wr := ⟨_, rfl⟩
    by_cases hlt : x < n
    case neg =>
      have hxe : x = n := by omega
      obtain ⟨ea, ec, rfl⟩ := hS.isSlice
      have hall : ∀ s ∈ L, s.1 < s.2 ∧ s.2 < n := fun s hs => by have := HP.out.all s hs; omega
      have hrl := rowsP_len L
      have hg := specGraphOf_any (w := wi) (L := L) hn1 (by omega) (hS.rows (by omega)) hall HP.out.nd (by omega)
      have hwk := hk.2.2.2.1
      rw [hrl] at hg ⊢
      clear hxe
      go_wp2_with fail
      refine hg.mono ?_
      rintro e wg ⟨u, M, rfl, hR, hE, hbg⟩
      have HGK := Lib.hid (hE.gok hn1 (by omega) hall)
      have HML := Lib.hid hE.1
      obtain ⟨ua, uc, hue⟩ := hR.isSlice
      rw [List.length_map, hE.1] at hue
      subst hue
      have hrg := hr.below hbg (Nat.le_refl _)
      have hDg := hD.below hbg (Nat.le_refl _)
      have hb3 : Below wg.heap.size wg (wg.alloc (.cells #[.slice ua n uc] 27)) := (Below.refl _ _).alloc (Nat.le_refl _) _
      have hrg3 := hrg.below hb3 (Nat.le_refl _)
      have hDg3 := hDg.below hb3 (Nat.le_refl _)
      have hk3 := (hk.twice (KeptBut.ofB (r := some d) hbg (Nat.le_refl _))).twice (KeptBut.ofB (r := some d) hb3 (Nat.le_refl _))
      have hR3 := (hR.below hb3 (Nat.le_refl _)).weaken hwk hb3.size
      obtain ⟨x1, x2, -, -⟩ := own_cell hrg3
      clear hg hr hD hk hE hall hS
      go_wp2
      refine bodyPost_ret (v := .agg #[.slice ua n uc]) (by simp [results, Tryd.results26, go_sem, x1]) rfl ⟨_, M.map bitsI, rfl, (hR3.setOther hrg3 (by decide) (by decide) _).weaken (Nat.le_refl _) (by simp), HGK.out, by rw [List.length_map, HML.out]; omega, hDg3.kept (KeptBut.setC _ _ _ _) (fun b hb => by simp at hb; omega), hk3.app (KeptBut.setC _ _ _ _) (fun b hb => by simp at hb; omega)⟩
    go_wp2
    go_loopw [7, 9] (fun ev uv wr => ∃ (y : Nat) (L : List NP), y ≤ x ∧ uv = .int .i64 y ∧ OwnS wr w.heap.size 51 ev (rowsP L) ∧ RowKit.Hid (PL n L x y) ∧ L.length ≤ 16 * x + y ∧ Dice wr d bs ∧ KeptBut w wr (some d) ∧ Own wr w.heap.size 27 1 (.slice (some ⟨w.heap.size, 0, none⟩) 1 1) 1 [.slice none 0 0]) (fun _ uv _ => x - (intOf uv).toNat)
    case atStart => exact ⟨0, L, Nat.zero_le _, rfl, hS, HP, by omega, hD, hk, hr⟩
    case round =>
      clear hS HP hL hD hk hr
      obtain ⟨y, L, hy, rfl, hS, HP, hL, hD, hk, hr⟩ := hrel
      obtain ⟨wj, rfl⟩ : ∃ wx : World, wx = wr := ⟨_, rfl⟩
      by_cases hyx : y < x
      case neg =>
        have hye : y = x := by omega
        have HP2 := Lib.hid (show PL n L (x + 1) 0 from (by rw [hye] at HP; exact HP.out.row))
        clear hye
        go_wp2
        go_roundw
        case rel => exact ⟨x + 1, L, by omega, by omega, by go_num, hS, HP2, by omega, hD, hk, hr⟩
        case measure => simp [intOf]; omega
      have hbl := below_any (n := 4) hD hl (by omega) (by omega)
      go_wp2_with fail
      refine hbl.mono ?_
      rintro e w5 ⟨r, rfl, hr4, hD5, hk5, hz5⟩
      have hS5 := hS.keepB (w' := w5) (fun b hb hb2 => hk5.2.2.2.2 b hb2 (by simp; omega)) (by omega)
      have hr5 := own1_kept hr hk5 (by simp; omega)
      have hkk := hk.twice hk5
      have hwk := hkk.2.2.2.1
      clear hbl hS hD hk hr hk5 hz5
      by_cases hc : (r : Int) < 1 + (r2 : Int)
      case neg =>
        have hcd : decide ((r : Int) < 1 + (r2 : Int)) = false := decide_eq_false hc
        have HP2 := Lib.hid HP.out.skip
        go_wp2
        go_roundw
        case rel => exact ⟨y + 1, L, by omega, by go_num, hS5, HP2, by omega, hD5, hkk, hr5⟩
        case measure => simp [intOf]; omega
      have hcd : decide ((r : Int) < 1 + (r2 : Int)) = true := decide_eq_true hc
      have HP2 := Lib.hid (HP.out.add hyx hlt)
      obtain ⟨oa, oc, rfl⟩ := hS5.isSlice
      have hba : Below w5.heap.size w5 (w5.alloc (.cells #[.int .i64 (y : Int), .int .i64 (x : Int)] 2)) := (Below.refl _ _).alloc (Nat.le_refl _) _
      have hob : ∀ q, (Value.slice oa (rowsP L).length oc).ownBlock = some q → q < w5.heap.size := by obtain ⟨_, _, ho, _⟩ := hS5; intro q hq; exact (ho.lt q hq).2
      have hnew2 := (lit2 w5 2 (y : Int) (x : Int) (Nat.le_refl w5.heap.size)).2
      have HLT := Lib.hid (show rowsP (L ++ [(y, x)]) = rowsP L ++ [[(y : Int), (x : Int)]] by rw [rowsP_app]; rfl)
      obtain ⟨vs, hvl, hown, hrows⟩ := hS5.below hba (Nat.le_refl _)
      have hr6 := hr5.below hba (Nat.le_refl _)
      have hD6 := hD5.below hba (Nat.le_refl _)
      have hk6 := hkk.twice (KeptBut.ofB (r := some d) hba (Nat.le_refl _))
      have hFl : (rowsP L).length ≤ 150 := by rw [rowsP_len]; omega
      have HLL := Lib.hid (show (L ++ [(y, x)]).length ≤ 16 * x + (y + 1) by simp; omega)
      clear hS5 hr5 hD5 hkk hL
      generalize rowsP L = FF at *
      go_wp2_with (at_builtin; refine wpList_append1b elRows rfl _ _ rfl hown rfl (by first | rfl | simp) rfl rfl (by omega) (by simp; omega) ?_; intro o5 w6 hown5 hkept hmv; obtain ⟨oa5, oc5, rfl⟩ := hown5.isSlice)
      have hS6 : OwnS w6 w.heap.size 51 (.slice oa5 (FF.length + 1) oc5) (FF ++ [[(y : Int), (x : Int)]]) := OwnS.app (news := [.slice (some ⟨w5.heap.size, 0, none⟩) 2 2]) hvl rfl hrows (fun i hi hi2 => by
        obtain rfl : i = 0 := by simp at hi; omega
        exact hnew2.low3S.weak (fun q hq => ⟨by have := hq.1; omega, hq.2, fun e => by have := hob q e; have := hq.1; omega⟩)) hown5 hkept hmv (by simp)
      have hr7 := own1_kept hr6 hkept (fun e => own_type hown hr6 (by decide) w.heap.size e rfl)
      have hD7 := hD6.kept hkept (fun b hb => by have := (hown.lt b hb).1; omega)
      have hk7 := hk6.app hkept (fun b hb => (hown.lt b hb).1)
      go_roundw
      case rel => exact ⟨y + 1, L ++ [(y, x)], by omega, by go_num, by rw [HLT.out]; exact hS6, HP2, HLL.out, hD7, hk7, hr7⟩
      case measure => simp [intOf]; omega
end Go.Proofs.YtgkkgagnoeedaaaDoor
