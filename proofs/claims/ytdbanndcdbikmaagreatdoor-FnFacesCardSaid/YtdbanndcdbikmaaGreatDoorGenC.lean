/- Twice the genus of turns, by the reference. -/
import Derived.Test.YtdbanndcdbikmaaGreatDoorMod3
import Derived.Test.YtdbanndcdbikmaaGreatDoorReach2
import Derived.Test.YtdbanndcdbikmaaGreatDoorFacM
import Derived.Test.YtdbanndcdbikmaaGreatDoorGroM
import Derived.Test.YtdbanndcdbikmaaGreatDoorFac2
import Derived.Test.YtdbanndcdbikmaaGreatDoorEdge
import Derived.Test.YtdbanndcdbikmaaGreatDoorLoopL
namespace Go.Proofs.YtdbanndcdbikmaaGreatDoor
open Go.RowKit
theorem ofInt64_nat (a : Nat) (ha : a < 4294967296) : (BitVec.ofInt 64 (a : Int)).toNat = a := by
  rw [BitVec.ofInt_natCast, BitVec.toNat_ofNat]; exact Nat.mod_eq_of_lt (by omega)
theorem i64_or_nat (a b : Nat) (ha : a < 4294967296) (hb : b < 4294967296) : bits .or .i64 (a : Int) (b : Int) = ((a ||| b : Nat) : Int) := by
  have hx : a ||| b < 2 ^ 32 := Nat.or_lt_two_pow (by omega) (by omega)
  show IntKind.i64.wrap ((BitVec.ofInt 64 (a : Int) ||| BitVec.ofInt 64 (b : Int)).toNat : Int) = _
  rw [BitVec.toNat_or, ofInt64_nat a ha, ofInt64_nat b hb, IntKind.wrap_i64]
  omega
theorem i64_and2_nat (a b : Nat) (ha : a < 4294967296) (hb : b < 4294967296) : bits .and .i64 (a : Int) (b : Int) = ((a &&& b : Nat) : Int) := by
  have hx : a &&& b < 2 ^ 32 := Nat.and_lt_two_pow _ (by omega)
  show IntKind.i64.wrap ((BitVec.ofInt 64 (a : Int) &&& BitVec.ofInt 64 (b : Int)).toNat : Int) = _
  rw [BitVec.toNat_and, ofInt64_nat a ha, ofInt64_nat b hb, IntKind.wrap_i64]
  omega
theorem and_not_big (a b : Nat) (ha : a < 4294967296) (hb : b < 4294967296) : a &&& (2 ^ 64 - 1 - b) = a &&& (4294967295 - b) := by
  apply Nat.eq_of_testBit_eq
  intro i
  rw [Nat.testBit_and, Nat.testBit_and]
  by_cases hi : i < 32
  · have e1 : 2 ^ 64 - 1 - b = 2 ^ 64 - (b + 1) := by omega
    have e2 : 4294967295 - b = 2 ^ 32 - (b + 1) := by omega
    rw [e1, e2, Nat.testBit_two_pow_sub_succ (by omega), Nat.testBit_two_pow_sub_succ (by omega)]
    simp [hi, show i < 64 by omega]
  · have : a.testBit i = false := Nat.testBit_lt_two_pow (Nat.lt_of_lt_of_le ha (by
      have : (2 : Nat) ^ 32 ≤ 2 ^ i := Nat.pow_le_pow_right (by omega) (by omega)
      omega))
    rw [this]; simp
theorem i64_andNot_nat (a b : Nat) (ha : a < 4294967296) (hb : b < 4294967296) : bits .andNot .i64 (a : Int) (b : Int) = (andN a b : Int) := by
  have hx : a &&& (4294967295 - b) < 2 ^ 32 := Nat.and_lt_two_pow _ (by omega)
  show IntKind.i64.wrap ((BitVec.ofInt 64 (a : Int) &&& ~~~BitVec.ofInt 64 (b : Int)).toNat : Int) = _
  rw [BitVec.toNat_and, BitVec.toNat_not, ofInt64_nat a ha, ofInt64_nat b hb, IntKind.wrap_i64, and_not_big a b ha hb]
  unfold andN
  omega
theorem shl_one (v : Nat) (hv : v < 32) : wrap64 ((2 : Int) ^ v) = (bit v : Int) := by
  have hp := bit_lt hv
  have : ((2 : Int) ^ v) = (bit v : Int) := by unfold bit; simp
  rw [this]; unfold wrap64; omega
set_option maxHeartbeats 2000000 in
theorem l25Mask_any {S : Nat → Prop} {v : Value} {xs : List Int} {w : World} (hv : SlI S w .i64 v xs) (hx : ∀ x ∈ xs, 0 ≤ x ∧ x < 32) :
    Calls Tryz.prog 78 #[v] w fun e w' => e = .returned (.int .i64 (maskL xs : Int)) ∧ w = w' := by
  obtain ⟨a, b, off, cap, rfl, hl, ha, hc⟩ := hv
  have hlt : ∀ k, maskL (xs.take k) < 4294967296 := fun k => by
    have := maskL_lt (xs := xs.take k) (n := 32) (fun v hv => hx v (List.mem_of_mem_take hv)); simpa using this
  have HLT := Lib.hid hlt
  clear hlt
  go_enter Tryz.func78, Tryz.ntmps78
  go_wp2
  go_loop [4, 3] (fun i o => ∃ k : Nat, k ≤ xs.length ∧ i = .int .i64 k ∧ o = .int .i64 (maskL (xs.take k) : Int)) (fun i _ => xs.length - (intOf i).toNat)
  case atStart => exact ⟨0, Nat.zero_le _, rfl, by simp [maskL]⟩
  case round =>
    obtain ⟨k, hk, rfl, rfl⟩ := hrel
    by_cases hk2 : k < xs.length
    · have hcell := hc k hk2
      obtain ⟨rfl, hS⟩ := ha (by omega)
      have hxk := hx xs[k] (List.getElem_mem _)
      obtain ⟨x, hxe⟩ := Int.eq_ofNat_of_zero_le hxk.1
      have hml := Lib.hid (maskL_take hk2)
      rw [hxe] at hml hcell hxk
      rw [Int.toNat_natCast] at hml
      have hx32 : x < 32 := by omega
      have hor := i64_or_nat (maskL (xs.take k)) (bit x) (HLT.out k) (bit_lt hx32)
      have hsh := shl_one x hx32
      rw [← hml.out] at hor
      have hmb := HLT.out k
      have hmc := HLT.out (k + 1)
      generalize maskL (xs.take k) = m at *
      generalize hm2 : maskL (xs.take (k + 1)) = m2 at *
      have HM2 := Lib.hid hm2
      clear hm2
      clear hxe hml hxk
      go_wp2
      go_round
      case rel => exact ⟨k + 1, by omega, by go_num, by rw [HM2.out]⟩
      case measure => simp [intOf]; omega
    · go_wp2
      go_ret
      exact ⟨ret_int (by rw [List.take_of_length_le (by omega)]), rfl⟩
theorem low_bitG : ∀ (m : Nat), 0 < m → ∃ c, m.testBit c = true ∧ (∀ i, i < c → m.testBit i = false) ∧ ∀ i, (m &&& (m - 1)).testBit i = (m.testBit i && !decide (i = c)) := fun m => by
  induction m using Nat.strongRecOn with
  | ind m ih =>
    intro h
    by_cases hp : m % 2 = 1
    · refine ⟨0, by simp [hp], fun i hi => absurd hi (Nat.not_lt_zero _), fun i => ?_⟩
      rw [Nat.testBit_and]
      cases i with
      | zero => simp [hp]; omega
      | succ i =>
        rw [Nat.testBit_succ, Nat.testBit_succ, show (m - 1) / 2 = m / 2 by omega]
        simp
    · obtain ⟨c, h1, h2, h3⟩ := ih (m / 2) (by omega) (by omega)
      refine ⟨c + 1, by rw [Nat.testBit_succ]; exact h1, fun i hi => ?_, fun i => ?_⟩
      · cases i with
        | zero => simp; omega
        | succ i => rw [Nat.testBit_succ]; exact h2 i (by omega)
      · cases i with
        | zero => simp; omega
        | succ i =>
          rw [Nat.testBit_and, Nat.testBit_succ, Nat.testBit_succ, show (m - 1) / 2 = m / 2 - 1 by omega, ← Nat.testBit_and, h3 i]
          simp
theorem pop_low {m : Nat} (h : 0 < m) (hm : m < 4294967296) : popN (m &&& (m - 1)) + 1 = popN m := by
  obtain ⟨c, h1, h2, h3⟩ := low_bitG m h
  have hc : c < 32 := bit_lt_of (n := 32) hm h1
  have hl : m &&& (m - 1) < 4294967296 := Nat.lt_of_le_of_lt Nat.and_le_left hm
  have hb : (m &&& (m - 1)).testBit c = false := by rw [h3]; simp
  have e : (m &&& (m - 1)) ||| bit c = m := by
    apply nat_ext
    intro i
    rw [Nat.testBit_or, h3, testBit_bit]
    by_cases hi : i = c
    · subst hi; simp [h1]
    · simp [hi, show ¬ c = i from fun e => hi e.symm]
  have := popN_add hl hc hb
  rw [e] at this
  exact this.symm
theorem shr_bit (m v : Nat) : m / 2 ^ v % 2 = if m.testBit v = true then 1 else 0 := by
  have : m.testBit v = decide (m / 2 ^ v % 2 = 1) := Nat.testBit_eq_decide_div_mod_eq
  rw [this]
  by_cases h : m / 2 ^ v % 2 = 1
  · simp [h]
  · simp [h]; omega
theorem i64_bit (m v : Nat) (hm : m < 4294967296) : bits .and .i64 ((m : Int) / 2 ^ v) 1 = if m.testBit v = true then 1 else 0 := by
  have e : (m : Int) / 2 ^ v = ((m / 2 ^ v : Nat) : Int) := by simp
  have hl : m / 2 ^ v < 4294967296 := Nat.lt_of_le_of_lt (Nat.div_le_self _ _) hm
  rw [e, show (1 : Int) = ((1 : Nat) : Int) from rfl, i64_and2_nat _ _ hl (by omega), Nat.and_one_is_mod, shr_bit]
  split <;> rfl
set_option maxHeartbeats 1000000 in
theorem l25Many_any (m : Nat) (w : World) (hm : m < 4294967296) : Calls Tryz.prog 81 #[.int .i64 (m : Int)] w fun e w' => e = .returned (.int .i64 (popN m : Int)) ∧ w = w' := by
  have h32 := popN_32 m
  go_enter Tryz.func81, Tryz.ntmps81
  go_wp2
  go_loop [0, 3] (fun b n => ∃ m' k : Nat, m' < 4294967296 ∧ b = .int .i64 m' ∧ n = .int .i64 k ∧ popN m' + k = popN m) (fun b _ => (intOf b).toNat)
  case atStart => exact ⟨m, 0, hm, rfl, rfl, by omega⟩
  case round =>
    obtain ⟨m', k, hm', rfl, rfl, hk⟩ := hrel
    by_cases h0 : 0 < m'
    · have hpl := pop_low h0 hm'
      have hand := i64_and2_nat m' (m' - 1) hm' (by omega)
      have hsub : (m' : Int) - 1 = ((m' - 1 : Nat) : Int) := by omega
      rw [← hsub] at hand
      have hle : m' &&& (m' - 1) ≤ m' - 1 := Nat.and_le_right
      have HK := Lib.hid (show popN (m' &&& (m' - 1)) + (k + 1) = popN m by omega)
      generalize m' &&& (m' - 1) = m2 at *
      have hc1 : decide ((0 : Int) < (m' : Int)) = true := decide_eq_true (by omega)
      have hc2 : decide (0 < m') = true := decide_eq_true h0
      clear hpl hsub
      go_wp2
      go_round
      case rel => exact ⟨m2, k + 1, by omega, rfl, by go_num, HK.out⟩
      case measure => simp [intOf]; omega
    · have hz : m' = 0 := by omega
      subst hz
      have hp0 : popN 0 = 0 := (popN_zero (by omega)).2 rfl
      have HK := Lib.hid (show k = popN m by omega)
      clear hp0 hk h32
      go_wp2
      go_ret
      exact ⟨ret_int (by rw [HK.out]), rfl⟩
set_option maxHeartbeats 1000000 in
theorem l27Low_any (m : Nat) (w : World) (h0 : m ≠ 0) (hm : m < 4294967296) : Calls Tryz.prog 80 #[.int .i64 (m : Int)] w fun e w' => e = .returned (.int .i64 (Lib.ctz 32 m : Int)) ∧ w = w' := by
  have hcb := ctz_bit h0 hm
  have hc32 : Lib.ctz 32 m < 32 := bit_lt_of (n := 32) hm hcb
  have hcl := fun i (h : m.testBit i = true) => ctz_least (i := i) h0 hm h
  have HCL := Lib.hid hcl
  clear hcl
  generalize Lib.ctz 32 m = c at *
  go_enter Tryz.func80, Tryz.ntmps80
  go_wp2
  go_loop [3] (fun v => ∃ k : Nat, k ≤ c ∧ v = .int .i64 k) (fun v => c - (intOf v).toNat)
  case atStart => exact ⟨0, Nat.zero_le _, rfl⟩
  case round =>
    obtain ⟨k, hk, rfl⟩ := hrel
    have hb := i64_bit m k hm
    cases hbt : m.testBit k with
    | true =>
      have hck := HCL.out k hbt
      have hkc : k = c := by omega
      rw [hbt] at hb
      simp only [if_true] at hb
      subst hkc
      clear hbt hcb
      go_wp2
      go_ret
      exact ⟨rfl, rfl⟩
    | false =>
      have hkc : k + 1 ≤ c := by
        apply Nat.lt_of_le_of_ne hk
        intro e
        subst e
        rw [hcb] at hbt; cases hbt
      rw [hbt] at hb
      simp only [Bool.false_eq_true, if_false] at hb
      clear hbt
      go_wp2
      go_round
      case rel => exact ⟨k + 1, hkc, by go_num⟩
      case measure => simp [intOf]; omega
def bvN : Value → Nat
  | .bool true => 1
  | _ => 0
theorem ReachI.orN {a : List Nat} {wi v M u : Nat} (hw : wi < 4294967296) (hv : v < 32) (h : ReachI a wi v M) (hu : M.testBit u = true) : ReachI a wi v (M ||| (a.getD u 0 &&& wi)) := by
  refine ⟨by rw [Nat.testBit_or, h.1]; rfl, fun i hi => ?_⟩
  rw [Nat.testBit_or, Bool.or_eq_true] at hi
  rcases hi with hi | hi
  · exact h.2 i hi
  · rw [Nat.testBit_and, Bool.and_eq_true] at hi
    exact reach_closed hw hv u (h.2 u hu) i hi.2 hi.1
/-- In the sweep: nothing new yet and closed so far, or more has come. -/
def SweepI (a : List Nat) (wi M0 M u : Nat) (more : Bool) : Prop :=
  (more = false ∧ M = M0 ∧ ∀ x, x < u → M.testBit x = true → ∀ i, wi.testBit i = true → (a.getD x 0).testBit i = true → M.testBit i = true) ∨ (more = true ∧ popN M0 < popN M)
set_option maxRecDepth 100000 in
set_option maxHeartbeats 4000000 in
theorem l27Part_any {S : Nat → Prop} {nv : Value} {a : List Nat} {v wi : Nat} {w : World} (hn : SlI S w .i64 nv (natsI a)) (ha16 : a.length ≤ 16) (hal : ∀ m ∈ a, m < 4294967296) (hwi : wi < 4294967296) (hv : v < 32) :
    Calls Tryz.prog 79 #[nv, .int .i64 (v : Int), .int .i64 (wi : Int)] w fun e w' => e = .returned (.int .i64 (reachN a wi v : Int)) ∧ w = w' := by
  obtain ⟨na, nb, noff, ncap, rfl, hnl, hna, hnc⟩ := hn
  rw [natsI_len] at *
  have hsh := shl_one v hv
  have HNC := Lib.hid (fun k (hk : k < a.length) => show w.cell? ⟨nb, noff + k, none⟩ = some (.int .i64 ((a.getD k 0 : Nat) : Int)) by
    have := hnc k (by rw [natsI_len]; exact hk)
    rw [natsI_get] at this
    rw [this]; simp [hk])
  have HAL := Lib.hid (fun k (hk : k < a.length) => show a.getD k 0 < 4294967296 by
    have e : a.getD k 0 = a[k] := by simp [hk]
    rw [e]; exact hal _ (List.getElem_mem hk))
  have HST := Lib.hid (ReachI.start (a := a) hwi hv)
  have hb32 := bit_lt hv
  clear hnc hal
  generalize bit v = B0 at *
  go_enter Tryz.func79, Tryz.ntmps79
  go_wp2
  go_loop [7, 8] (fun pv mv => ∃ (M : Nat) (more : Bool), pv = .int .i64 M ∧ mv = .bool more ∧ M < 4294967296 ∧ RowKit.Hid (ReachI a wi v M) ∧ RowKit.Hid (more = false → ClosedN a wi M)) (fun pv mv => 2 * (33 - popN (intOf pv).toNat) + bvN mv)
  case atStart => exact ⟨B0, true, by rw [hsh], rfl, hb32, HST, Lib.hid (fun h => by cases h)⟩
  case round =>
    clear HST hb32 hsh
    obtain ⟨M0, more0, rfl, rfl, hM0, HR0, HC0⟩ := hrel
    cases more0 with
    | false =>
      have HE := Lib.hid (HR0.out.done hwi hv (HC0.out rfl))
      go_wp2
      go_ret
      exact ⟨ret_int (by rw [HE.out]), rfl⟩
    | true =>
      go_wp2
      go_loop [9, 7, 8] (fun uv pv mv => ∃ (u M : Nat) (more : Bool), u ≤ a.length ∧ uv = .int .i64 u ∧ pv = .int .i64 M ∧ mv = .bool more ∧ M < 4294967296 ∧ RowKit.Hid (ReachI a wi v M) ∧ RowKit.Hid (SweepI a wi M0 M u more)) (fun uv _ _ => a.length - (intOf uv).toNat)
      case atStart => exact ⟨0, M0, false, Nat.zero_le _, rfl, rfl, rfl, hM0, HR0, Lib.hid (.inl ⟨rfl, rfl, fun x hx => absurd hx (Nat.not_lt_zero _)⟩)⟩
      case round =>
        obtain ⟨u, M, more, hu, rfl, rfl, rfl, hM, HR, HS⟩ := hrel
        by_cases hlt : u < a.length
        case neg =>
          have HC := Lib.hid (show more = false → ClosedN a wi M from fun hm x hx i hi hb => by
            rcases HS.out with ⟨-, -, h⟩ | ⟨h, -⟩
            · by_cases hxl : x < a.length
              · exact h x (by omega) hx i hi hb
              · rw [List.getD_eq_getElem?_getD, List.getElem?_eq_none (by omega)] at hb
                simp at hb
            · rw [hm] at h; cases h)
          have HP := Lib.hid (show 2 * (33 - popN M) + bvN (.bool more) < 2 * (33 - popN M0) + 1 by
            have h32 := popN_32 M
            rcases HS.out with ⟨h, h2, -⟩ | ⟨h, h2⟩
            · rw [h, h2]; simp [bvN]
            · rw [h]; simp [bvN]; omega)
          go_wp2
          go_round
          case rel => exact ⟨M, more, rfl, rfl, hM, HR, HC⟩
          case measure => have := HP.out; simpa [intOf, bvN] using this
        have hc := HNC.out u hlt
        have hau := HAL.out u hlt
        obtain ⟨rfl, -⟩ := hna (by omega)
        have hb := i64_bit M u hM
        cases hbt : M.testBit u with
        | false =>
          rw [hbt] at hb
          simp only [Bool.false_eq_true, if_false] at hb
          have HS2 := Lib.hid (show SweepI a wi M0 M (u + 1) more by
            rcases HS.out with ⟨h1, h2, h3⟩ | h
            · refine .inl ⟨h1, h2, fun x hx hxb => ?_⟩
              by_cases e : x = u
              · rw [e, hbt] at hxb; cases hxb
              · exact h3 x (by omega) hxb
            · exact .inr h)
          clear hbt
          go_wp2
          go_round
          case rel => exact ⟨u + 1, M, more, by omega, by go_num, rfl, rfl, hM, HR, HS2⟩
          case measure => simp [intOf]; omega
        | true =>
          rw [hbt] at hb
          simp only [if_true] at hb
          have hand := i64_and2_nat (a.getD u 0) wi hau hwi
          have hxl : a.getD u 0 &&& wi < 4294967296 := Nat.lt_of_le_of_lt Nat.and_le_left hau
          have hann := i64_andNot_nat (a.getD u 0 &&& wi) M hxl hM
          have hor := i64_or_nat M (a.getD u 0 &&& wi) hM hxl
          have hzi := andN_zero_iff hxl hM
          have HRO := Lib.hid (HR.out.orN (u := u) hwi hv hbt)
          have hol : M ||| (a.getD u 0 &&& wi) < 4294967296 := Nat.or_lt_two_pow (n := 32) hM hxl
          have HAB := Lib.hid (fun i (h1 : wi.testBit i = true) (h2 : (a.getD u 0).testBit i = true) => show (a.getD u 0 &&& wi).testBit i = true by rw [Nat.testBit_and, h1, h2]; rfl)
          have HPO := Lib.hid (fun i (h1 : (a.getD u 0 &&& wi).testBit i = true) (h2 : M.testBit i = false) => show popN M < popN (M ||| (a.getD u 0 &&& wi)) from
            popN_lt hol (fun j hj => by rw [Nat.testBit_or, hj]; rfl) (show (M ||| (a.getD u 0 &&& wi)).testBit i = true by rw [Nat.testBit_or, h1]; simp) h2)
          have HEX := Lib.hid (fun h : andN (a.getD u 0 &&& wi) M ≠ 0 => show ∃ i, (a.getD u 0 &&& wi).testBit i = true ∧ M.testBit i = false by
            apply Classical.byContradiction
            intro hno
            exact h (hzi.2 fun i hi => by
              cases hb : M.testBit i with
              | true => rfl
              | false => exact absurd ⟨i, hi, hb⟩ hno))
          by_cases hz : andN (a.getD u 0 &&& wi) M = 0
          case pos =>
            have HS2 := Lib.hid (show SweepI a wi M0 M (u + 1) more by
              rcases HS.out with ⟨h1, h2, h3⟩ | h
              · refine .inl ⟨h1, h2, fun x hx hxb i hi hb => ?_⟩
                by_cases e : x = u
                · rw [e] at hb; exact hzi.1 hz i (HAB.out i hi hb)
                · exact h3 x (by omega) hxb i hi hb
              · exact .inr h)
            rw [hz] at hann
            clear hbt hzi HEX HPO HRO HAB hor hol hz
            generalize a.getD u 0 &&& wi = x at *
            generalize a.getD u 0 = y at *
            go_wp2
            go_round
            case rel => exact ⟨u + 1, M, more, by omega, by go_num, rfl, rfl, hM, HR, HS2⟩
            case measure => simp [intOf]; omega
          case neg =>
            have HS2 := Lib.hid (show SweepI a wi M0 (M ||| (a.getD u 0 &&& wi)) (u + 1) true by
              obtain ⟨i, h1, h2⟩ := HEX.out hz
              have h3 := HPO.out i h1 h2
              rcases HS.out with ⟨h4, h5, -⟩ | ⟨h4, h5⟩
              · exact .inr ⟨rfl, by rw [← h5]; exact h3⟩
              · exact .inr ⟨rfl, by omega⟩)
            have hz1 : ((andN (a.getD u 0 &&& wi) M : Int) != 0) = true := by rw [bne_iff_ne]; omega
            have hz2 : ((andN (a.getD u 0 &&& wi) M) != 0) = true := by rw [bne_iff_ne]; exact hz
            clear hbt hzi HEX HPO HAB hz
            generalize andN (a.getD u 0 &&& wi) M = zz at *
            generalize M ||| (a.getD u 0 &&& wi) = M2 at *
            generalize a.getD u 0 &&& wi = x at *
            generalize a.getD u 0 = y at *
            go_wp2
            go_round
            case rel => exact ⟨u + 1, M2, true, by omega, by go_num, rfl, rfl, hol, HRO, HS2⟩
            case measure => simp [intOf]; omega
set_option maxRecDepth 100000 in
set_option maxHeartbeats 8000000 in
theorem l22Twice_any {S : Nat → Prop} {tv : Value} {t : List (List Nat)} {w : World} (ht : RotN t) (h0 : 0 < t.length) (hv : SlR S w tv (t.map natsI)) :
    Calls Tryz.prog 39 #[tv] w fun e w' => e = .returned (.int .i64 (twiceI t)) ∧ Below w.heap.size w w' := by
  have hvS := hv
  obtain ⟨ra, rb, roff, rcap, rf, rfl, hrl, hra, hrc⟩ := hv
  rw [List.length_map] at *
  obtain ⟨rfl, -⟩ := hra h0
  have h16 := ht.le
  have hq0 : Below w.heap.size w (w.alloc (.cells #[] 2)) := (Below.refl _ _).alloc (Nat.le_refl _) _
  have ho0 : Own (w.alloc (.cells #[] 2)) w.heap.size 2 1 (.slice (some ⟨w.heap.size, 0, none⟩) 0 0) 0 [] := by
    have := World.ownsRow_lit (base := w.heap.size) (e := 2) (size := 1) w #[] 0 (Nat.le_refl _) (by unfold maxLen; omega) rfl
    simpa [Own] using this
  have HRC := Lib.hid hrc
  have HT := Lib.hid ht
  have hfaces := fun (W : World) (hb : Below w.heap.size w W) => l22Faces_any ht h0 (hvS.below hb (Nat.le_refl _))
  have HFACES := Lib.hid hfaces
  have HTW := Lib.hid (show twiceI t = 2 * (partP (nextL t) (firstN t.length) : Int) + ((sidesN t / 2 : Nat) : Int) - (partV (nextL t) (firstN t.length) : Int) - ((facesN t).length : Int) from rfl)
  have hfl := (facesN_small ht).1
  clear hrc ht hfaces hvS
  go_enter Tryz.func39, Tryz.ntmps39
  go_wp2
  go_loopw [5, 3, 4] (fun iv nv sv wr => ∃ k : Nat, k ≤ t.length ∧ iv = .int .i64 k ∧ sv = .int .i64 (sidesN (t.take k) : Int) ∧ Own wr w.heap.size 2 1 nv k ((natsI (nextL (t.take k))).map (.int .i64)) ∧ Below w.heap.size w wr) (fun iv _ _ _ => t.length - (intOf iv).toNat)
  case atStart => exact ⟨0, Nat.zero_le _, rfl, by simp [sidesN], by simpa [nextL, natsI] using ho0, hq0⟩
  case round =>
    clear ho0 hq0
    obtain ⟨k, hk, rfl, rfl, ho, hq⟩ := hrel
    obtain ⟨wi, rfl⟩ : ∃ wx : World, wx = wr := ⟨_, rfl⟩
    have hsl := sides_le HT.out k hk
    by_cases hlt : k < t.length
    case pos =>
      have hul : k < (t.map natsI).length := by rw [List.length_map]; exact hlt
      obtain ⟨k1, r1⟩ := HRC.out k hul
      have e : (t.map natsI)[k] = natsI t[k] := by simp
      rw [e] at r1
      have hrr := natsI_range HT.out k
      have e2 : t.getD k [] = t[k] := by simp [hlt]
      rw [e2] at hrr
      have hrw := rot_row HT.out k
      rw [e2] at hrw
      have k0 := k1
      have k1 := (hq.cell (cell_lt k1)).trans k1
      have r1 := r1.below hq (Nat.le_refl _)
      have hm := l25Mask_any r1 hrr
      have HM := Lib.hid (show natsI (nextL (t.take (k + 1))) = natsI (nextL (t.take k)) ++ [((maskL (natsI t[k]) : Nat) : Int)] by
        unfold nextL natsI
        rw [List.take_succ_eq_append_getElem hlt, List.map_append, List.map_append]; rfl)
      have HS := Lib.hid (sides_take hlt)
      obtain ⟨rowa, rowc, hre⟩ := r1.slice
      rw [natsI_len] at hre
      rw [hre] at k0 k1 hm
      have hlti : (k : Int) < t.length := by omega
      have hB := hq.size
      clear r1 e e2 hre hrr
      generalize maskL (natsI t[k]) = mk at *
      generalize t[k].length = rl at *
      generalize sidesN (t.take k) = sd at *
      obtain ⟨oa, oc, rfl⟩ := ho.isSlice
      go_wp2_with (first | (go_at_call 78; refine hm.mono ?_; rintro e w' ⟨rfl, rfl⟩) | (at_builtin; refine wpList_append1 elI64 rfl _ _ rfl ho rfl rfl rfl (by omega) hB ?_; intro v' w1 hown1 hkept hmv; have hq1 := hkept.below hq hB ho.ge; have k2 := (hq1.cell (cell_lt k0)).trans k0))
      go_roundw
      case rel => exact ⟨k + 1, by omega, by go_num, by rw [HS.out]; go_num, by rw [HM.out, List.map_append]; exact hown1, hq1⟩
      case measure => simp [intOf]; omega
    obtain rfl : k = t.length := by omega
    rw [List.take_length] at *
    have hoI := Own.ints (xs := natsI (nextL t)) ho (by omega)
    have hfc := HFACES.out _ hq
    have hsh := shl_one t.length (by omega)
    have hfb : (bit t.length : Int) - 1 = (firstN t.length : Int) := by
      have h1 : 1 ≤ bit t.length := Nat.one_le_two_pow
      have h2 : firstN t.length = bit t.length - 1 := rfl
      omega
    have hbl := bit_lt (n := t.length) (by omega)
    have hfl32 : firstN t.length < 4294967296 := by have := firstN_lt h16; omega
    have hpart := fun (v wi : Nat) (h1 : wi < 4294967296) (h2 : v < 32) => l27Part_any (v := v) (wi := wi) hoI (by rw [nextL_len]; exact h16) (nextL_lt HT.out) h1 h2
    have HPART := Lib.hid hpart
    have hnl := nextL_len t
    have hqs := (show Int.tdiv (sidesN t : Int) 2 = ((sidesN t / 2 : Nat) : Int) from rfl)
    have hpl := partP_le (nextL t) (firstN t.length)
    have hvl := partV_le (nextL t) (firstN t.length)
    obtain ⟨oa, oc, rfl⟩ := ho.isSlice
    have HFL := Lib.hid hfl32
    generalize firstN t.length = FN at *
    generalize bit t.length = BN at *
    clear hpart hnl ho hoI
    have hsl2 : sidesN t / 2 ≤ 128 := by omega
    generalize sidesN t / 2 = s2 at *
    generalize sidesN t = sd at *
    generalize nextL t = a at *
    go_wp2
    go_loop [8, 6, 7] (fun lv vv pv => ∃ L V P : Nat, lv = .int .i64 L ∧ vv = .int .i64 V ∧ pv = .int .i64 P ∧ L < 4294967296 ∧ RowKit.Hid (P + partP a L = partP a FN ∧ V + partV a L = partV a FN)) (fun lv _ _ => (intOf lv).toNat)
    case atStart => exact ⟨FN, 0, 0, by first | rfl | (rw [hsh, hfb]) | (simp [hsh, hfb]), rfl, rfl, hfl32, Lib.hid ⟨by omega, by omega⟩⟩
    case round =>
      clear hsh hfb hbl hfl32
      obtain ⟨L, V, P, rfl, rfl, rfl, hL, HI⟩ := hrel
      by_cases hL0 : L = 0
      case pos =>
        subst hL0
        have hz := part_zero a
        have h1 := HI.out
        rw [hz.1, hz.2] at h1
        have HP := Lib.hid (show P = partP a FN ∧ V = partV a FN by omega)
        have hP33 : P ≤ 33 := by have := HP.out.1; omega
        have hV : V ≤ 1056 := by have := HP.out.2; omega
        clear h1 hz
        go_wp2_with fail
        refine hfc.mono ?_
        rintro e w2 ⟨fu, rfl, hfu, hb2⟩
        obtain ⟨fa, fcap, rfl⟩ := hfu.isSlice
        rw [List.length_map]
        clear hfu hfc
        generalize hFe : (facesN t).length = FL at *
        have HFE := Lib.hid hFe
        clear hFe
        go_wp2
        go_ret
        refine ⟨?_, hq.trans (hb2.mono hq.size)⟩
        rw [HTW.out, ← HP.out.1, ← HP.out.2]
        rfl
      have hcb := ctz_bit hL0 hL
      have hc32 : Lib.ctz 32 L < 32 := bit_lt_of (n := 32) hL hcb
      have hlow := fun W => l27Low_any L W hL0 hL
      have hpa := HPART.out (Lib.ctz 32 L) L hL hc32
      have hrl := reachN_lt a L (Lib.ctz 32 L)
      have hmany := fun W => l25Many_any (reachN a L (Lib.ctz 32 L)) W hrl
      have han := i64_andNot_nat L (reachN a L (Lib.ctz 32 L)) hL hrl
      have hless := parts_less (a := a) hL hL0
      have hst := part_step (a := a) hL hL0
      have h32 := popN_32 (reachN a L (Lib.ctz 32 L))
      have HST := Lib.hid hst
      have hI := HI.out
      generalize Lib.ctz 32 L = c at *
      generalize reachN a L c = m at *
      generalize andN L m = L2 at *
      clear hcb hst HPART hL0
      have hPP : P ≤ 33 := by omega
      have hVV : V ≤ 1056 := by omega
      by_cases hp : 1 < popN m
      case pos =>
        have HI2 := Lib.hid (show (P + 1) + partP a L2 = partP a FN ∧ (V + popN m) + partV a L2 = partV a FN by
          have h1 := HST.out
          rw [if_pos hp, if_pos hp] at h1
          omega)
        have hd1 : decide ((1 : Int) < (popN m : Int)) = true := decide_eq_true (by omega)
        have hd2 : decide (1 < popN m) = true := decide_eq_true hp
        generalize popN m = pm at *
        clear hI
        go_wp2_with (first | (go_at_call 80; refine (hlow _).mono ?_; rintro e w' ⟨rfl, rfl⟩) | (go_at_call 79; refine hpa.mono ?_; rintro e w' ⟨rfl, rfl⟩) | (go_at_call 81; refine (hmany _).mono ?_; rintro e w' ⟨rfl, rfl⟩))
        go_round
        case rel => exact ⟨L2, V + pm, P + 1, rfl, by go_num, by go_num, by omega, HI2⟩
        case measure => simp [intOf]; omega
      case neg =>
        have HI2 := Lib.hid (show P + partP a L2 = partP a FN ∧ V + partV a L2 = partV a FN by
          have h1 := HST.out
          rw [if_neg hp, if_neg hp] at h1
          omega)
        have hd1 : decide ((1 : Int) < (popN m : Int)) = false := decide_eq_false (by omega)
        have hd2 : decide (1 < popN m) = false := decide_eq_false hp
        generalize popN m = pm at *
        clear hI
        go_wp2_with (first | (go_at_call 80; refine (hlow _).mono ?_; rintro e w' ⟨rfl, rfl⟩) | (go_at_call 79; refine hpa.mono ?_; rintro e w' ⟨rfl, rfl⟩) | (go_at_call 81; refine (hmany _).mono ?_; rintro e w' ⟨rfl, rfl⟩))
        go_round
        case rel => exact ⟨L2, V, P, rfl, rfl, rfl, by omega, HI2⟩
        case measure => simp [intOf]; omega
end Go.Proofs.YtdbanndcdbikmaaGreatDoor
