/- PrimeIn of the program and of the reference. -/
import Derived.Test.YtakcoihndobmpaaDoorPrime
namespace Go.Proofs.YtakcoihndobmpaaDoor
open Go.RowKit
/-- Is there a pair in a module that is not all? -/
noncomputable def anyB (g : List (List Int)) : Bool := (List.range g.length).any (pairB g)
noncomputable def primeG (g : List (List Int)) : Bool := gokB g && decide (4 ≤ g.length) && !anyB g
theorem anyB_false {g : List (List Int)} (h : ∀ i j, i < j → j < g.length → badB g i j = false) : anyB g = false := by
  unfold anyB
  rw [List.any_eq_false]
  intro i _
  rw [pairB_false (Nat.le_refl _) (fun j h1 h2 => h i j h1 h2)]
  simp
theorem anyB_pairs {g : List (List Int)} {k : Nat} (hk : g.length < k + 2) (h : ∀ i, i < k → pairB g i = false) : anyB g = false := by
  unfold anyB
  rw [List.any_eq_false]
  intro i hi
  have hi := List.mem_range.1 hi
  by_cases hik : i < k
  · rw [h i hik]; simp
  · rw [pairB_false (k := g.length) (Nat.le_refl _) (fun j h1 h2 => by omega)]; simp
theorem anyB_true {g : List (List Int)} {i : Nat} (hi : i < g.length) (h : pairB g i = true) : anyB g = true := by
  unfold anyB
  rw [List.any_eq_true]
  exact ⟨i, List.mem_range.2 hi, h⟩
set_option maxHeartbeats 2000000 in
theorem choose2_any {S : Nat → Prop} (b : Nat) (va : Option Addr) (vc : Nat) (g : List (List Int)) (w : World) (ht : Tab w) (hg : GOk g) (hv : SlI S w .u32 (.slice va g.length vc) (natsI (netsL g)))
    (hbx : w.cell? ⟨b, 0, none⟩ = some (.slice va g.length vc)) :
    Calls Tryd.prog 76 #[.int .i64 g.length, .int .i64 0, .int .i64 2, .int .u32 0, .func (Fn.func 77) #[] #[.pointer (some ⟨b, 0, none⟩)]] w fun e w' => e = .returned (.bool (anyB g)) ∧ Below w.heap.size w w' := by
  have hhi := hg.hi
  go_enter Tryd.func76, Tryd.ntmps76
  go_wp2
  go_loopw [11] (fun j wr => ∃ k : Nat, k ≤ g.length ∧ j = .int .i64 k ∧ (∀ i, i < k → pairB g i = false) ∧ Below w.heap.size w wr) (fun j _ => g.length - (intOf j).toNat)
  case atStart => exact ⟨0, Nat.zero_le _, rfl, fun i h1 => by omega, Below.refl _ _⟩
  case round =>
    obtain ⟨k, hk2, rfl, hno, hq⟩ := hrel
    have hB := hq.size
    by_cases hlt : k + 2 ≤ g.length
    · have hleb : decide ((k : Int) + 2 ≤ (g.length : Int)) = true := by simp; omega
      have hor := u32_or_nat 0 (bit k) (by omega) (bit_lt (by omega))
      have e1 : 0 ||| bit k = maskL [(k : Int)] := by simp [maskL]
      rw [e1] at hor
      have hor : bits BinOp.or IntKind.u32 0 (bit k : Int) = (maskL [(k : Int)] : Int) := by simpa using hor
      clear e1
      have hc0 := choose1_any b va vc g k wr (ht.below hq (Nat.le_refl _)) hg (by omega) (hv.below hq (Nat.le_refl _)) ((hq.cell (cell_lt hbx)).trans hbx)
      by_cases hb : pairB g k = true
      · have hpt := Lib.hid (anyB_true (by omega) hb)
        rw [hb] at hc0
        go_wp2_with (first
          | (go_at_call 62; refine (one_any _ _ (by omega) (by omega)).mono ?_; rintro e w' ⟨rfl, rfl⟩)
          | (go_at_call 76; refine hc0.mono ?_; rintro e w2 ⟨rfl, hb2⟩))
        go_ret
        exact ⟨ret_bool hpt.out.symm, hq.trans (hb2.mono hB)⟩
      · have hb' : pairB g k = false := by simpa using hb
        rw [hb'] at hc0
        go_wp2_with (first
          | (go_at_call 62; refine (one_any _ _ (by omega) (by omega)).mono ?_; rintro e w' ⟨rfl, rfl⟩)
          | (go_at_call 76; refine hc0.mono ?_; rintro e w2 ⟨rfl, hb2⟩))
        go_roundw
        case rel =>
          refine ⟨k + 1, by omega, by go_num, fun i h1 => ?_, hq.trans (hb2.mono hB)⟩
          by_cases hik : i = k
          · subst hik; exact hb'
          · exact hno i (by omega)
        case measure => simp [intOf]; omega
    · have hleb : decide ((k : Int) + 2 ≤ (g.length : Int)) = false := by simp; omega
      have hpf := Lib.hid (anyB_pairs (by omega) hno)
      clear hno
      go_wp2
      go_ret
      exact ⟨ret_bool hpf.out.symm, hq⟩
end Go.Proofs.YtakcoihndobmpaaDoor
