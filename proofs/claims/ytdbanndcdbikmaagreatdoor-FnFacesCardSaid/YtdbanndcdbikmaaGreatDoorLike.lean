/- Are two lists alike? By the laws. -/
import Derived.Test.YtdbanndcdbikmaaGreatDoorBase
namespace Go.Proofs.YtdbanndcdbikmaaGreatDoor
open Go.RowKit
set_option maxHeartbeats 2000000 in
theorem likeInts_any {S S' : Nat → Prop} {v u : Value} {xs ys : List Int} {w : World} (hv : SlI S w .i64 v xs) (hu : SlI S' w .i64 u ys) :
    Calls Tryz.prog 13 #[v, u] w fun e w' => e = .returned (.bool (decide (xs = ys))) ∧ Drawn w w' := by
  obtain ⟨a, b, off, cap, rfl, hl, ha, hc0⟩ := hv
  obtain ⟨a', b', off', cap', rfl, hl', ha', hc0'⟩ := hu
  by_cases hne : xs.length = ys.length
  case neg =>
    have hn0 : ((xs.length : Int) != (ys.length : Int)) = true := by rw [bne_iff_ne]; omega
    have HE := Lib.hid (show decide (xs = ys) = false from decide_eq_false fun e => hne (by rw [e]))
    go_enter Tryz.func13, Tryz.ntmps13
    go_wp2
    go_ret
    exact ⟨ret_bool HE.out.symm, Drawn.refl _⟩
  have hn0 : ((xs.length : Int) != (ys.length : Int)) = false := by rw [bne_eq_false_iff_eq]; omega
  have HN := Lib.hid hne
  clear hne
  go_enter Tryz.func13, Tryz.ntmps13
  go_wp2
  go_loopw [5] (fun iv wr => ∃ k : Nat, k ≤ xs.length ∧ iv = .int .i64 k ∧ RowKit.Hid (xs.take k = ys.take k) ∧ Drawn w wr) (fun iv _ => xs.length - (intOf iv).toNat)
  case atStart => exact ⟨0, Nat.zero_le _, rfl, Lib.hid rfl, Drawn.refl _⟩
  case round =>
    obtain ⟨k, hk, rfl, HT, hq⟩ := hrel
    by_cases hlt : k < xs.length
    case neg =>
      have HE := Lib.hid (show decide (xs = ys) = true from decide_eq_true (by
        have h := HT.out
        rw [List.take_of_length_le (by omega), List.take_of_length_le (by have := HN.out; omega)] at h
        exact h))
      go_wp2
      go_ret
      exact ⟨ret_bool HE.out.symm, hq⟩
    have hlt2 : k < ys.length := by rw [← HN.out]; exact hlt
    have hlt3 : (k : Int) < ys.length := by omega
    have c1 := hc0.drawn hq k hlt
    have c2 := hc0'.drawn hq k hlt2
    obtain ⟨rfl, -⟩ := ha (by omega)
    obtain ⟨rfl, -⟩ := ha' (by omega)
    by_cases he : xs[k] = ys[k]
    · have hb : (xs[k] != ys[k]) = false := by rw [bne_eq_false_iff_eq]; exact he
      have HT2 := Lib.hid (show xs.take (k + 1) = ys.take (k + 1) by rw [List.take_succ_eq_append_getElem hlt, List.take_succ_eq_append_getElem hlt2, HT.out, he])
      clear he
      go_wp2
      go_quiet (fail)
      go_wp2
      go_roundw
      case rel => exact ⟨k + 1, by omega, by go_num, HT2, hq.drewN _⟩
      case measure => simp [intOf]; omega
    · have hb : (xs[k] != ys[k]) = true := by rw [bne_iff_ne]; exact he
      have HE := Lib.hid (show decide (xs = ys) = false from decide_eq_false fun e => he (by subst e; rfl))
      clear he
      go_wp2
      go_quiet (fail)
      go_wp2
      go_ret
      exact ⟨ret_bool HE.out.symm, hq.drewN _⟩
end Go.Proofs.YtdbanndcdbikmaaGreatDoor
