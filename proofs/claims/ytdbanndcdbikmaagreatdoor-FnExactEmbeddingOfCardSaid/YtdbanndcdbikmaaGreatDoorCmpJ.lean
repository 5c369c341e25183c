/- Lists of numbers, and lists of lists, compared: slices.Compare and slices.CompareFunc. -/
import Derived.Test.YtdbanndcdbikmaaGreatDoorLoopL
import Derived.Test.YtdbanndcdbikmaaGreatDoorFacM
namespace Go.Proofs.YtdbanndcdbikmaaGreatDoor
open Go.RowKit
theorem cmpJ_step {xs ys : List Int} {k : Nat} (hx : k < xs.length) (hy : k < ys.length) : cmpL (xs.drop k) (ys.drop k) = if cmp1 xs[k] ys[k] = 0 then cmpL (xs.drop (k + 1)) (ys.drop (k + 1)) else cmp1 xs[k] ys[k] := by
  rw [List.drop_eq_getElem_cons hx, List.drop_eq_getElem_cons hy, cmpL]
  unfold cmp1
  by_cases h1 : xs[k] < ys[k]
  · rw [if_pos h1, if_pos h1]; rfl
  · rw [if_neg h1, if_neg h1]
    by_cases h2 : ys[k] < xs[k]
    · rw [if_pos h2, if_pos h2]; rfl
    · rw [if_neg h2, if_neg h2, if_pos rfl]
theorem cmpJ_range (x y : Int) : -1 ≤ cmp1 x y ∧ cmp1 x y ≤ 1 := by unfold cmp1; split <;> (try split) <;> omega
theorem nanJ_any (x : Int) (w : World) : Calls Tryz.prog 117 #[.int .i64 x] w fun e w' => e = .returned (.bool false) ∧ w = w' := by
  have h : ((x : Int) != x) = false := by simp
  go_enter Tryz.func117, Tryz.ntmps117
  go_wp2
  go_ret
  first | exact ⟨rfl, rfl⟩ | exact ⟨ret_bool (by simp), rfl⟩
theorem cmpJ_any (x y : Int) (w : World) : Calls Tryz.prog 90 #[.int .i64 x, .int .i64 y] w fun e w' => e = .returned (.int .i64 (cmp1 x y)) ∧ w = w' := by
  have h1 := nanJ_any x w
  have h2 := nanJ_any y w
  by_cases hlt : x < y
  · have hc : cmp1 x y = -1 := by unfold cmp1; rw [if_pos hlt]
    rw [hc]
    have hd : decide (x < y) = true := decide_eq_true hlt
    clear hlt
    go_enter Tryz.func90, Tryz.ntmps90
    go_wp2_with (go_at_call 117; first | (with_reducible refine h1.mono ?_; rintro e w' ⟨rfl, rfl⟩) | (with_reducible refine h2.mono ?_; rintro e w' ⟨rfl, rfl⟩))
    go_ret
    exact ⟨rfl, rfl⟩
  · by_cases hgt : y < x
    · have hc : cmp1 x y = 1 := by unfold cmp1; rw [if_neg hlt, if_pos hgt]
      rw [hc]
      have hd : decide (x < y) = false := decide_eq_false hlt
      have hd2 : decide (y < x) = true := decide_eq_true hgt
      clear hlt hgt
      go_enter Tryz.func90, Tryz.ntmps90
      go_wp2_with (go_at_call 117; first | (with_reducible refine h1.mono ?_; rintro e w' ⟨rfl, rfl⟩) | (with_reducible refine h2.mono ?_; rintro e w' ⟨rfl, rfl⟩))
      go_ret
      exact ⟨rfl, rfl⟩
    · have hc : cmp1 x y = 0 := by unfold cmp1; rw [if_neg hlt, if_neg hgt]
      rw [hc]
      have hd : decide (x < y) = false := decide_eq_false hlt
      have hd2 : decide (y < x) = false := decide_eq_false hgt
      clear hlt hgt
      go_enter Tryz.func90, Tryz.ntmps90
      go_wp2_with (go_at_call 117; first | (with_reducible refine h1.mono ?_; rintro e w' ⟨rfl, rfl⟩) | (with_reducible refine h2.mono ?_; rintro e w' ⟨rfl, rfl⟩))
      go_ret
      exact ⟨rfl, rfl⟩
set_option maxHeartbeats 2000000 in
theorem compareJ_any {S S' : Nat → Prop} {v u : Value} {xs ys : List Int} {w : World} (hv : SlI S w .i64 v xs) (hu : SlI S' w .i64 u ys) :
    Calls Tryz.prog 51 #[v, u] w fun e w' => e = .returned (.int .i64 (cmpL xs ys)) ∧ w = w' := by
  obtain ⟨a, b, off, cap, rfl, hl, ha, hc⟩ := hv
  obtain ⟨a2, b2, off2, cap2, rfl, hl2, ha2, hc2⟩ := hu
  have HC := Lib.hid hc
  have HC2 := Lib.hid hc2
  have HA := Lib.hid ha
  have HA2 := Lib.hid ha2
  have HST := Lib.hid (fun k (h1 : k < xs.length) (h2 : k < ys.length) => cmpJ_step h1 h2)
  have HE0 := Lib.hid (show cmpL xs ys = cmpL (xs.drop 0) (ys.drop 0) by rw [List.drop_zero, List.drop_zero])
  have HEX : RowKit.Hid (∀ k, k < xs.length → ys.length ≤ k → cmpL (xs.drop k) (ys.drop k) = 1) := Lib.hid (fun k h1 h2 => by rw [List.drop_eq_getElem_cons h1, List.drop_eq_nil_of_le h2]; rfl)
  have HEN : RowKit.Hid (cmpL (xs.drop xs.length) (ys.drop xs.length) = if xs.length < ys.length then -1 else 0) := Lib.hid (by
    rw [List.drop_length]
    by_cases h : xs.length < ys.length
    · rw [if_pos h, List.drop_eq_getElem_cons h]; rfl
    · rw [if_neg h, List.drop_eq_nil_of_le (by omega)]; rfl)
  clear hc hc2 ha ha2
  go_enter Tryz.func51, Tryz.ntmps51
  go_wp2
  go_loop [11] (fun iv => ∃ k : Nat, k ≤ xs.length ∧ iv = .int .i64 k ∧ RowKit.Hid (cmpL xs ys = cmpL (xs.drop k) (ys.drop k))) (fun iv => xs.length - (intOf iv).toNat)
  case atStart => exact ⟨0, Nat.zero_le _, rfl, HE0⟩
  case round =>
    clear HE0
    obtain ⟨k, hk, rfl, HK⟩ := hrel
    by_cases hlt : k < xs.length
    case neg =>
      obtain rfl : k = xs.length := by omega
      have HR := Lib.hid (HK.out.trans HEN.out)
      by_cases h : xs.length < ys.length
      · have hd1 : decide ((xs.length : Int) < (ys.length : Int)) = true := decide_eq_true (by omega)
        have HR2 := Lib.hid (HR.out.trans (if_pos h))
        clear HR
        go_wp2
        go_ret
        exact ⟨ret_int HR2.out.symm, rfl⟩
      · have hd1 : decide ((xs.length : Int) < (ys.length : Int)) = false := decide_eq_false (by omega)
        have hd2 : decide (xs.length < ys.length) = false := decide_eq_false h
        have HR2 := Lib.hid (HR.out.trans (if_neg h))
        clear HR h
        go_wp2
        go_ret
        exact ⟨ret_int HR2.out.symm, rfl⟩
    have e1 := HC.out k hlt
    obtain ⟨rfl, -⟩ := HA.out (by omega)
    by_cases hly : k < ys.length
    case neg =>
      have hd1 : decide ((ys.length : Int) ≤ (k : Int)) = true := decide_eq_true (by omega)
      have HR := Lib.hid (HK.out.trans (HEX.out k hlt (by omega)))
      clear HK
      go_wp2
      go_ret
      exact ⟨ret_int HR.out.symm, rfl⟩
    have hd1 : decide ((ys.length : Int) ≤ (k : Int)) = false := decide_eq_false (by omega)
    have e2 := HC2.out k hly
    obtain ⟨rfl, -⟩ := HA2.out (by omega)
    have HS := Lib.hid (HST.out k hlt hly)
    have hcm := cmpJ_any xs[k] ys[k] w
    clear HC HC2
    generalize xs[k] = x at *
    generalize ys[k] = y at *
    have hrg := cmpJ_range x y
    generalize cmp1 x y = c at *
    by_cases h0 : c = 0
    · have hn : (c != 0) = false := by simp [h0]
      have HR := Lib.hid (HK.out.trans (HS.out.trans (if_pos h0)))
      clear HS HK h0
      go_wp2_with (go_at_call 90; with_reducible refine hcm.mono ?_; rintro e w' ⟨rfl, rfl⟩)
      go_round
      case rel => exact ⟨k + 1, by omega, by go_num, HR⟩
      case measure => simp [intOf]; omega
    · have hn : (c != 0) = true := by simp [h0]
      have HR := Lib.hid (HK.out.trans (HS.out.trans (if_neg h0)))
      clear HS HK h0
      go_wp2_with (go_at_call 90; with_reducible refine hcm.mono ?_; rintro e w' ⟨rfl, rfl⟩)
      go_ret
      exact ⟨ret_int HR.out.symm, rfl⟩
theorem cmpR_step {a b : List (List Nat)} {k : Nat} (hx : k < a.length) (hy : k < b.length) : cmpR (a.drop k) (b.drop k) = if cmpL (natsI a[k]) (natsI b[k]) = 0 then cmpR (a.drop (k + 1)) (b.drop (k + 1)) else cmpL (natsI a[k]) (natsI b[k]) := by
  rw [List.drop_eq_getElem_cons hx, List.drop_eq_getElem_cons hy, cmpR]
theorem cmpL_range : ∀ xs ys : List Int, -1 ≤ cmpL xs ys ∧ cmpL xs ys ≤ 1
  | [], [] => by simp [cmpL]
  | [], _ :: _ => by simp [cmpL]
  | _ :: _, [] => by simp [cmpL]
  | x :: xs, y :: ys => by
    have := cmpL_range xs ys
    rw [cmpL]
    split
    · omega
    · split
      · omega
      · exact this
set_option maxHeartbeats 2000000 in
theorem compareR_any {S S' : Nat → Prop} {v u : Value} {a b : List (List Nat)} {w : World} (hv : SlR S w v (a.map natsI)) (hu : SlR S' w u (b.map natsI)) :
    Calls Tryz.prog 50 #[v, u, .func (Fn.func 51) #[] #[]] w fun e w' => e = .returned (.int .i64 (cmpR a b)) ∧ w = w' := by
  obtain ⟨aa, ab, ao, ac, af, rfl, hl, ha, hc⟩ := hv
  obtain ⟨ba, bb, bo, bc, bf, rfl, hl2, ha2, hc2⟩ := hu
  rw [List.length_map] at hl ha hl2 ha2 ⊢
  rw [List.length_map]
  have HC := Lib.hid hc
  have HC2 := Lib.hid hc2
  have HA := Lib.hid ha
  have HA2 := Lib.hid ha2
  have HST := Lib.hid (fun k (h1 : k < a.length) (h2 : k < b.length) => cmpR_step h1 h2)
  have HE0 := Lib.hid (show cmpR a b = cmpR (a.drop 0) (b.drop 0) by rw [List.drop_zero, List.drop_zero])
  have HEX : RowKit.Hid (∀ k, k < a.length → b.length ≤ k → cmpR (a.drop k) (b.drop k) = 1) := Lib.hid (fun k h1 h2 => by rw [List.drop_eq_getElem_cons h1, List.drop_eq_nil_of_le h2]; rfl)
  have HEN : RowKit.Hid (cmpR (a.drop a.length) (b.drop a.length) = if a.length < b.length then -1 else 0) := Lib.hid (by
    rw [List.drop_length]
    by_cases h : a.length < b.length
    · rw [if_pos h, List.drop_eq_getElem_cons h]; rfl
    · rw [if_neg h, List.drop_eq_nil_of_le (by omega)]; rfl)
  clear hc hc2 ha ha2
  go_enter Tryz.func50, Tryz.ntmps50
  go_wp2
  go_loop [13] (fun iv => ∃ k : Nat, k ≤ a.length ∧ iv = .int .i64 k ∧ RowKit.Hid (cmpR a b = cmpR (a.drop k) (b.drop k))) (fun iv => a.length - (intOf iv).toNat)
  case atStart => exact ⟨0, Nat.zero_le _, rfl, HE0⟩
  case round =>
    clear HE0
    obtain ⟨k, hk, rfl, HK⟩ := hrel
    by_cases hlt : k < a.length
    case neg =>
      obtain rfl : k = a.length := by omega
      have HR := Lib.hid (HK.out.trans HEN.out)
      by_cases h : a.length < b.length
      · have hd1 : decide ((a.length : Int) < (b.length : Int)) = true := decide_eq_true (by omega)
        have HR2 := Lib.hid (HR.out.trans (if_pos h))
        clear HR
        go_wp2
        go_ret
        exact ⟨ret_int HR2.out.symm, rfl⟩
      · have hd1 : decide ((a.length : Int) < (b.length : Int)) = false := decide_eq_false (by omega)
        have hd2 : decide (a.length < b.length) = false := decide_eq_false h
        have HR2 := Lib.hid (HR.out.trans (if_neg h))
        clear HR h
        go_wp2
        go_ret
        exact ⟨ret_int HR2.out.symm, rfl⟩
    obtain ⟨e1, r1⟩ := HC.out k (by simpa using hlt)
    obtain ⟨rfl, -⟩ := HA.out (by omega)
    by_cases hly : k < b.length
    case neg =>
      have hd1 : decide ((b.length : Int) ≤ (k : Int)) = true := decide_eq_true (by omega)
      have HR := Lib.hid (HK.out.trans (HEX.out k hlt (by omega)))
      obtain ⟨ra, rc, hre⟩ := r1.slice
      rw [hre] at e1
      clear HK hre r1
      go_wp2
      go_ret
      exact ⟨ret_int HR.out.symm, rfl⟩
    have hd1 : decide ((b.length : Int) ≤ (k : Int)) = false := decide_eq_false (by omega)
    obtain ⟨e2, r2⟩ := HC2.out k (by simpa using hly)
    obtain ⟨rfl, -⟩ := HA2.out (by omega)
    rw [List.getElem_map] at r1 r2
    have HS := Lib.hid (HST.out k hlt hly)
    have hcm := compareJ_any r1 r2
    obtain ⟨ra, rc, hre⟩ := r1.slice
    obtain ⟨rb, rd, hrf⟩ := r2.slice
    rw [hre] at e1 hcm
    rw [hrf] at e2 hcm
    clear HC HC2 r1 r2 hre hrf
    have hrg := cmpL_range (natsI a[k]) (natsI b[k])
    generalize cmpL (natsI a[k]) (natsI b[k]) = c at *
    generalize (natsI a[k]).length = la at *
    generalize (natsI b[k]).length = lb at *
    by_cases h0 : c = 0
    · have hn : (c != 0) = false := by simp [h0]
      have HR := Lib.hid (HK.out.trans (HS.out.trans (if_pos h0)))
      clear HS HK h0
      go_wp2_with (go_at_call 51; with_reducible refine hcm.mono ?_; rintro e w' ⟨rfl, rfl⟩)
      go_round
      case rel => exact ⟨k + 1, by omega, by go_num, HR⟩
      case measure => simp [intOf]; omega
    · have hn : (c != 0) = true := by simp [h0]
      have HR := Lib.hid (HK.out.trans (HS.out.trans (if_neg h0)))
      clear HS HK h0
      go_wp2_with (go_at_call 51; with_reducible refine hcm.mono ?_; rintro e w' ⟨rfl, rfl⟩)
      go_ret
      exact ⟨ret_int HR.out.symm, rfl⟩
end Go.Proofs.YtdbanndcdbikmaaGreatDoor
