/- A number put into a rising list that may hold it: sets as words. -/
import Derived.Test.YtbpjbjeglcphcaaGreatDoorInto
namespace Go.Proofs.YtbpjbjeglcphcaaGreatDoor
open Go.RowKit
/-- An own rising list of a set. -/
def OwnB (w : World) (B : Nat) (E : TypeId) (v : Value) (m : Nat) : Prop := Own w B E 1 v (bitsI m).length ((bitsI m).map (.int .i64))
theorem OwnB.below {w w' : World} {B B1 : Nat} {E : TypeId} {v : Value} {m : Nat} (h : OwnB w B E v m) (hb : Below B1 w w') (hB : w.heap.size ≤ B1) : OwnB w' B E v m := Own.below h hb hB
theorem OwnB.weak {w : World} {B B' : Nat} {E : TypeId} {v : Value} {m : Nat} (h : OwnB w B E v m) (hB : B' ≤ B) : OwnB w B' E v m := Own.weak h hB
theorem OwnB.ints {w : World} {B : Nat} {E : TypeId} {v : Value} {m : Nat} (h : OwnB w B E v m) : SlI (fun b => v.ownBlock = some b) w .i64 v (bitsI m) := Own.ints h (by have := bitsI_len m; omega)
theorem OwnB.drawn {w w' : World} {B : Nat} {E : TypeId} {v : Value} {m : Nat} (h : OwnB w B E v m) (hb : Drawn w w') : OwnB w' B E v m := Own.drawn h hb
theorem bitsI_or {m x : Nat} (hm : m < 4294967296) (hx : x < 32) {k : Nat} (hk1 : ∀ y ∈ (bitsI m).take k, y < (x : Int)) (hk2 : ∀ y ∈ (bitsI m).drop k, (x : Int) < y) : intoL (bitsI m) k x = bitsI (m ||| bit x) := by
  have hb := bit_lt hx
  have hor : m ||| bit x < 4294967296 := Nat.or_lt_two_pow (n := 32) hm hb
  refine sorted_ext (intoL_sorted (bitsI_sorted m) hk1 hk2) (bitsI_sorted _) fun y => ?_
  rw [mem_intoL, mem_bitsI hm, mem_bitsI hor, Nat.testBit_or, testBit_bit]
  simp only [Bool.or_eq_true, decide_eq_true_eq]
  constructor
  · rintro (rfl | ⟨h1, h2⟩)
    · exact ⟨by omega, .inr (by omega)⟩
    · exact ⟨h1, .inl h2⟩
  · rintro ⟨h1, h2 | h2⟩
    · exact .inr ⟨h1, h2⟩
    · exact .inl (by omega)
theorem or_bit_same {m x : Nat} (h : m.testBit x = true) : m ||| bit x = m := by
  apply nat_ext
  intro i
  rw [Nat.testBit_or, testBit_bit]
  by_cases e : x = i
  · subst e; simp [h]
  · simp [e]
set_option maxHeartbeats 2000000 in
theorem l1Into_in {S : Nat → Prop} {v : Value} {xs : List Int} {x : Int} {w : World} (hv : SlI S w .i64 v xs) (hs : xs.Pairwise (· < ·)) (hx : x ∈ xs) :
    Calls Tryz.prog 145 #[v, .int .i64 x] w fun e w' => e = .returned v ∧ w = w' := by
  obtain ⟨a, b, off, cap, rfl, hl, ha, hc⟩ := hv
  go_enter Tryz.func145, Tryz.ntmps145
  go_wp2
  go_loopw [5] (fun i wr => ∃ k : Nat, k ≤ xs.length ∧ i = .int .i64 k ∧ (∀ y ∈ xs.take k, y < x) ∧ w = wr) (fun i _ => xs.length - (intOf i).toNat)
  case atStart => exact ⟨0, Nat.zero_le _, rfl, by simp, rfl⟩
  case round =>
    obtain ⟨k, hk, rfl, hsm, rfl⟩ := hrel
    have hlt : k < xs.length := by
      apply Nat.lt_of_not_le
      intro h
      rw [List.take_of_length_le h] at hsm
      have := hsm x hx; omega
    have hcell := hc k hlt
    obtain ⟨rfl, _⟩ := ha (by omega)
    by_cases hb : xs[k] < x
    · have hbb : decide (xs[k] < x) = true := by simpa using hb
      have hst := Lib.hid (take_step (P := fun y => y < x) hlt hsm hb)
      clear hsm
      go_wp2
      go_roundw
      case rel => exact ⟨k + 1, by omega, by go_num, hst.out, trivial⟩
      case measure => simp [intOf]; omega
    · have hbb : decide (xs[k] < x) = false := by simpa using hb
      have he : xs[k] = x := by
        obtain ⟨j, hj, rfl⟩ := List.getElem_of_mem hx
        by_cases e : j = k
        · subst e; rfl
        · by_cases h2 : j < k
          · have := hsm xs[j] (by
              have : xs[j] = (xs.take k)[j]'(by simp; omega) := by simp
              rw [this]; exact List.getElem_mem _)
            omega
          · have := List.pairwise_iff_getElem.1 hs k j hlt hj (by omega)
            omega
      have heb : (xs[k] == x) = true := by simpa using he
      clear he hsm
      go_wp2
      go_ret
      exact ⟨rfl, rfl⟩
theorem intoB_any {B : Nat} {v : Value} {m x : Nat} {w : World} (hv : OwnB w B 2 v m) (hB : B ≤ w.heap.size) (hm : m < 4294967296) (hx : x < 32) :
    Calls Tryz.prog 145 #[v, .int .i64 (x : Int)] w fun e w' => ∃ u, e = .returned u ∧ OwnB w' B 2 u (m ||| bit x) ∧ Below w.heap.size w w' := by
  by_cases h : m.testBit x = true
  · refine (l1Into_in hv.ints (bitsI_sorted m) ((mem_bitsI hm).2 ⟨by omega, by simpa using h⟩)).mono ?_
    rintro e w' ⟨rfl, rfl⟩
    exact ⟨v, rfl, by rw [or_bit_same h]; exact hv, Below.refl _ _⟩
  · have hl := bitsI_len m
    refine (l1Into_any _ _ _ _ hv.ints (by omega) (bitsI_sorted m) (fun hn => h (by simpa using ((mem_bitsI hm).1 hn).2))).mono ?_
    rintro e w' ⟨u, k, rfl, hk, h1, h2, hown, hb⟩
    refine ⟨u, rfl, ?_, hb⟩
    rw [bitsI_or hm hx h1 h2] at hown
    have e : (bitsI m).length + 1 = (bitsI (m ||| bit x)).length := by rw [← bitsI_or hm hx h1 h2, intoL_len]
    rw [e] at hown
    exact Own.weak hown hB
end Go.Proofs.YtbpjbjeglcphcaaGreatDoor
