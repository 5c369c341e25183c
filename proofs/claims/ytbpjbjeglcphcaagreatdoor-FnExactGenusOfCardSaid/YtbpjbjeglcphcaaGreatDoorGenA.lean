/- Words of 64 bits as sets: the reference's counts and parts. -/
import Derived.Test.YtbpjbjeglcphcaaGreatDoorMask64
import Derived.Test.YtbpjbjeglcphcaaGreatDoorReach2
import Derived.Test.YtbpjbjeglcphcaaGreatDoorFacM
namespace Go.Proofs.YtbpjbjeglcphcaaGreatDoor
open Go.RowKit
theorem low_bitG : ∀ (m : Nat), 0 < m → ∃ c, m.testBit c = true ∧ (∀ i, i < c → m.testBit i = false) ∧ ∀ i, (m &&& (m - 1)).testBit i = (m.testBit i && !decide (i = c)) := fun m => by
  induction m using Nat.strongRecOn with
  | ind m ih =>
    intro h
    by_cases hp : m % 2 = 1
    · refine ⟨0, by simp [hp], fun i hi => absurd hi (Nat.not_lt_zero _), fun i => ?_⟩
      rw [Nat.testBit_and]
      cases i with
      | zero => simp [hp]; omega
      | succ i =>
        rw [Nat.testBit_succ, Nat.testBit_succ, show (m - 1) / 2 = m / 2 by omega]
        simp
    · obtain ⟨c, h1, h2, h3⟩ := ih (m / 2) (by omega) (by omega)
      refine ⟨c + 1, by rw [Nat.testBit_succ]; exact h1, fun i hi => ?_, fun i => ?_⟩
      · cases i with
        | zero => simp; omega
        | succ i => rw [Nat.testBit_succ]; exact h2 i (by omega)
      · cases i with
        | zero => simp; omega
        | succ i =>
          rw [Nat.testBit_and, Nat.testBit_succ, Nat.testBit_succ, show (m - 1) / 2 = m / 2 - 1 by omega, ← Nat.testBit_and, h3 i]
          simp
theorem pop_low {m : Nat} (h : 0 < m) (hm : m < 4294967296) : popN (m &&& (m - 1)) + 1 = popN m := by
  obtain ⟨c, h1, h2, h3⟩ := low_bitG m h
  have hc : c < 32 := bit_lt_of (n := 32) hm h1
  have hl : m &&& (m - 1) < 4294967296 := Nat.lt_of_le_of_lt Nat.and_le_left hm
  have hb : (m &&& (m - 1)).testBit c = false := by rw [h3]; simp
  have e : (m &&& (m - 1)) ||| bit c = m := by
    apply nat_ext
    intro i
    rw [Nat.testBit_or, h3, testBit_bit]
    by_cases hi : i = c
    · subst hi; simp [h1]
    · simp [hi, show ¬ c = i from fun e => hi e.symm]
  have := popN_add hl hc hb
  rw [e] at this
  exact this.symm
theorem shr_bit (m v : Nat) : m / 2 ^ v % 2 = if m.testBit v = true then 1 else 0 := by
  have : m.testBit v = decide (m / 2 ^ v % 2 = 1) := Nat.testBit_eq_decide_div_mod_eq
  rw [this]
  by_cases h : m / 2 ^ v % 2 = 1
  · simp [h]
  · simp [h]; omega
theorem i64_bit (m v : Nat) (hm : m < 4294967296) : bits .and .i64 ((m : Int) / 2 ^ v) 1 = if m.testBit v = true then 1 else 0 := by
  have e : (m : Int) / 2 ^ v = ((m / 2 ^ v : Nat) : Int) := by simp
  have hl : m / 2 ^ v < 4294967296 := Nat.lt_of_le_of_lt (Nat.div_le_self _ _) hm
  rw [e, show (1 : Int) = ((1 : Nat) : Int) from rfl, i64_and2_nat _ _ hl (by omega), Nat.and_one_is_mod, shr_bit]
  split <;> rfl
set_option maxHeartbeats 1000000 in
theorem l25Many_any (m : Nat) (w : World) (hm : m < 4294967296) : Calls Tryz.prog 49 #[.int .i64 (m : Int)] w fun e w' => e = .returned (.int .i64 (popN m : Int)) ∧ w = w' := by
  have h32 := popN_32 m
  go_enter Tryz.func49, Tryz.ntmps49
  go_wp2
  go_loop [0, 3] (fun b n => ∃ m' k : Nat, m' < 4294967296 ∧ b = .int .i64 m' ∧ n = .int .i64 k ∧ popN m' + k = popN m) (fun b _ => (intOf b).toNat)
  case atStart => exact ⟨m, 0, hm, rfl, rfl, by omega⟩
  case round =>
    obtain ⟨m', k, hm', rfl, rfl, hk⟩ := hrel
    by_cases h0 : 0 < m'
    · have hpl := pop_low h0 hm'
      have hand := i64_and2_nat m' (m' - 1) hm' (by omega)
      have hsub : (m' : Int) - 1 = ((m' - 1 : Nat) : Int) := by omega
      rw [← hsub] at hand
      have hle : m' &&& (m' - 1) ≤ m' - 1 := Nat.and_le_right
      have HK := Lib.hid (show popN (m' &&& (m' - 1)) + (k + 1) = popN m by omega)
      generalize m' &&& (m' - 1) = m2 at *
      have hc1 : decide ((0 : Int) < (m' : Int)) = true := decide_eq_true (by omega)
      have hc2 : decide (0 < m') = true := decide_eq_true h0
      clear hpl hsub
      go_wp2
      go_round
      case rel => exact ⟨m2, k + 1, by omega, rfl, by go_num, HK.out⟩
      case measure => simp [intOf]; omega
    · have hz : m' = 0 := by omega
      subst hz
      have hp0 : popN 0 = 0 := (popN_zero (by omega)).2 rfl
      have HK := Lib.hid (show k = popN m by omega)
      clear hp0 hk h32
      go_wp2
      go_ret
      exact ⟨ret_int (by rw [HK.out]), rfl⟩
set_option maxHeartbeats 1000000 in
theorem l27Low_any (m : Nat) (w : World) (h0 : m ≠ 0) (hm : m < 4294967296) : Calls Tryz.prog 48 #[.int .i64 (m : Int)] w fun e w' => e = .returned (.int .i64 (Lib.ctz 32 m : Int)) ∧ w = w' := by
  have hcb := ctz_bit h0 hm
  have hc32 : Lib.ctz 32 m < 32 := bit_lt_of (n := 32) hm hcb
  have hcl := fun i (h : m.testBit i = true) => ctz_least (i := i) h0 hm h
  have HCL := Lib.hid hcl
  clear hcl
  generalize Lib.ctz 32 m = c at *
  go_enter Tryz.func48, Tryz.ntmps48
  go_wp2
  go_loop [3] (fun v => ∃ k : Nat, k ≤ c ∧ v = .int .i64 k) (fun v => c - (intOf v).toNat)
  case atStart => exact ⟨0, Nat.zero_le _, rfl⟩
  case round =>
    obtain ⟨k, hk, rfl⟩ := hrel
    have hb := i64_bit m k hm
    cases hbt : m.testBit k with
    | true =>
      have hck := HCL.out k hbt
      have hkc : k = c := by omega
      rw [hbt] at hb
      simp only [if_true] at hb
      subst hkc
      clear hbt hcb
      go_wp2
      go_ret
      exact ⟨rfl, rfl⟩
    | false =>
      have hkc : k + 1 ≤ c := by
        apply Nat.lt_of_le_of_ne hk
        intro e
        subst e
        rw [hcb] at hbt; cases hbt
      rw [hbt] at hb
      simp only [Bool.false_eq_true, if_false] at hb
      clear hbt
      go_wp2
      go_round
      case rel => exact ⟨k + 1, hkc, by go_num⟩
      case measure => simp [intOf]; omega
def bvN : Value → Nat
  | .bool true => 1
  | _ => 0
theorem ReachI.orN {a : List Nat} {wi v M u : Nat} (hw : wi < 4294967296) (hv : v < 32) (h : ReachI a wi v M) (hu : M.testBit u = true) : ReachI a wi v (M ||| (a.getD u 0 &&& wi)) := by
  refine ⟨by rw [Nat.testBit_or, h.1]; rfl, fun i hi => ?_⟩
  rw [Nat.testBit_or, Bool.or_eq_true] at hi
  rcases hi with hi | hi
  · exact h.2 i hi
  · rw [Nat.testBit_and, Bool.and_eq_true] at hi
    exact reach_closed hw hv u (h.2 u hu) i hi.2 hi.1
/-- In the sweep: nothing new yet and closed so far, or more has come. -/
def SweepI (a : List Nat) (wi M0 M u : Nat) (more : Bool) : Prop :=
  (more = false ∧ M = M0 ∧ ∀ x, x < u → M.testBit x = true → ∀ i, wi.testBit i = true → (a.getD x 0).testBit i = true → M.testBit i = true) ∨ (more = true ∧ popN M0 < popN M)
set_option maxRecDepth 100000 in
set_option maxHeartbeats 4000000 in
theorem l27Part_any {S : Nat → Prop} {nv : Value} {a : List Nat} {v wi : Nat} {w : World} (hn : SlI S w .i64 nv (natsI a)) (ha16 : a.length ≤ 16) (hal : ∀ m ∈ a, m < 4294967296) (hwi : wi < 4294967296) (hv : v < 32) :
    Calls Tryz.prog 47 #[nv, .int .i64 (v : Int), .int .i64 (wi : Int)] w fun e w' => e = .returned (.int .i64 (reachN a wi v : Int)) ∧ w = w' := by
  obtain ⟨na, nb, noff, ncap, rfl, hnl, hna, hnc⟩ := hn
  rw [natsI_len] at *
  have hsh := shl_one v hv
  have HNC := Lib.hid (fun k (hk : k < a.length) => show w.cell? ⟨nb, noff + k, none⟩ = some (.int .i64 ((a.getD k 0 : Nat) : Int)) by
    have := hnc k (by rw [natsI_len]; exact hk)
    rw [natsI_get] at this
    rw [this]; simp [hk])
  have HAL := Lib.hid (fun k (hk : k < a.length) => show a.getD k 0 < 4294967296 by
    have e : a.getD k 0 = a[k] := by simp [hk]
    rw [e]; exact hal _ (List.getElem_mem hk))
  have HST := Lib.hid (ReachI.start (a := a) hwi hv)
  have hb32 := bit_lt hv
  clear hnc hal
  generalize bit v = B0 at *
  go_enter Tryz.func47, Tryz.ntmps47
  go_wp2
  go_loop [7, 8] (fun pv mv => ∃ (M : Nat) (more : Bool), pv = .int .i64 M ∧ mv = .bool more ∧ M < 4294967296 ∧ RowKit.Hid (ReachI a wi v M) ∧ RowKit.Hid (more = false → ClosedN a wi M)) (fun pv mv => 2 * (33 - popN (intOf pv).toNat) + bvN mv)
  case atStart => exact ⟨B0, true, by rw [hsh], rfl, hb32, HST, Lib.hid (fun h => by cases h)⟩
  case round =>
    clear HST hb32 hsh
    obtain ⟨M0, more0, rfl, rfl, hM0, HR0, HC0⟩ := hrel
    cases more0 with
    | false =>
      have HE := Lib.hid (HR0.out.done hwi hv (HC0.out rfl))
      go_wp2
      go_ret
      exact ⟨ret_int (by rw [HE.out]), rfl⟩
    | true =>
      go_wp2
      go_loop [9, 7, 8] (fun uv pv mv => ∃ (u M : Nat) (more : Bool), u ≤ a.length ∧ uv = .int .i64 u ∧ pv = .int .i64 M ∧ mv = .bool more ∧ M < 4294967296 ∧ RowKit.Hid (ReachI a wi v M) ∧ RowKit.Hid (SweepI a wi M0 M u more)) (fun uv _ _ => a.length - (intOf uv).toNat)
      case atStart => exact ⟨0, M0, false, Nat.zero_le _, rfl, rfl, rfl, hM0, HR0, Lib.hid (.inl ⟨rfl, rfl, fun x hx => absurd hx (Nat.not_lt_zero _)⟩)⟩
      case round =>
        obtain ⟨u, M, more, hu, rfl, rfl, rfl, hM, HR, HS⟩ := hrel
        by_cases hlt : u < a.length
        case neg =>
          have HC := Lib.hid (show more = false → ClosedN a wi M from fun hm x hx i hi hb => by
            rcases HS.out with ⟨-, -, h⟩ | ⟨h, -⟩
            · by_cases hxl : x < a.length
              · exact h x (by omega) hx i hi hb
              · rw [List.getD_eq_getElem?_getD, List.getElem?_eq_none (by omega)] at hb
                simp at hb
            · rw [hm] at h; cases h)
          have HP := Lib.hid (show 2 * (33 - popN M) + bvN (.bool more) < 2 * (33 - popN M0) + 1 by
            have h32 := popN_32 M
            rcases HS.out with ⟨h, h2, -⟩ | ⟨h, h2⟩
            · rw [h, h2]; simp [bvN]
            · rw [h]; simp [bvN]; omega)
          go_wp2
          go_round
          case rel => exact ⟨M, more, rfl, rfl, hM, HR, HC⟩
          case measure => have := HP.out; simpa [intOf, bvN] using this
        have hc := HNC.out u hlt
        have hau := HAL.out u hlt
        obtain ⟨rfl, -⟩ := hna (by omega)
        have hb := i64_bit M u hM
        cases hbt : M.testBit u with
        | false =>
          rw [hbt] at hb
          simp only [Bool.false_eq_true, if_false] at hb
          have HS2 := Lib.hid (show SweepI a wi M0 M (u + 1) more by
            rcases HS.out with ⟨h1, h2, h3⟩ | h
            · refine .inl ⟨h1, h2, fun x hx hxb => ?_⟩
              by_cases e : x = u
              · rw [e, hbt] at hxb; cases hxb
              · exact h3 x (by omega) hxb
            · exact .inr h)
          clear hbt
          go_wp2
          go_round
          case rel => exact ⟨u + 1, M, more, by omega, by go_num, rfl, rfl, hM, HR, HS2⟩
          case measure => simp [intOf]; omega
        | true =>
          rw [hbt] at hb
          simp only [if_true] at hb
          have hand := i64_and2_nat (a.getD u 0) wi hau hwi
          have hxl : a.getD u 0 &&& wi < 4294967296 := Nat.lt_of_le_of_lt Nat.and_le_left hau
          have hann := i64_andNot_nat (a.getD u 0 &&& wi) M hxl hM
          have hor := i64_or_nat M (a.getD u 0 &&& wi) hM hxl
          have hzi := andN_zero_iff hxl hM
          have HRO := Lib.hid (HR.out.orN (u := u) hwi hv hbt)
          have hol : M ||| (a.getD u 0 &&& wi) < 4294967296 := Nat.or_lt_two_pow (n := 32) hM hxl
          have HAB := Lib.hid (fun i (h1 : wi.testBit i = true) (h2 : (a.getD u 0).testBit i = true) => show (a.getD u 0 &&& wi).testBit i = true by rw [Nat.testBit_and, h1, h2]; rfl)
          have HPO := Lib.hid (fun i (h1 : (a.getD u 0 &&& wi).testBit i = true) (h2 : M.testBit i = false) => show popN M < popN (M ||| (a.getD u 0 &&& wi)) from
            popN_lt hol (fun j hj => by rw [Nat.testBit_or, hj]; rfl) (show (M ||| (a.getD u 0 &&& wi)).testBit i = true by rw [Nat.testBit_or, h1]; simp) h2)
          have HEX := Lib.hid (fun h : andN (a.getD u 0 &&& wi) M ≠ 0 => show ∃ i, (a.getD u 0 &&& wi).testBit i = true ∧ M.testBit i = false by
            apply Classical.byContradiction
            intro hno
            exact h (hzi.2 fun i hi => by
              cases hb : M.testBit i with
              | true => rfl
              | false => exact absurd ⟨i, hi, hb⟩ hno))
          by_cases hz : andN (a.getD u 0 &&& wi) M = 0
          case pos =>
            have HS2 := Lib.hid (show SweepI a wi M0 M (u + 1) more by
              rcases HS.out with ⟨h1, h2, h3⟩ | h
              · refine .inl ⟨h1, h2, fun x hx hxb i hi hb => ?_⟩
                by_cases e : x = u
                · rw [e] at hb; exact hzi.1 hz i (HAB.out i hi hb)
                · exact h3 x (by omega) hxb i hi hb
              · exact .inr h)
            rw [hz] at hann
            clear hbt hzi HEX HPO HRO HAB hor hol hz
            generalize a.getD u 0 &&& wi = x at *
            generalize a.getD u 0 = y at *
            go_wp2
            go_round
            case rel => exact ⟨u + 1, M, more, by omega, by go_num, rfl, rfl, hM, HR, HS2⟩
            case measure => simp [intOf]; omega
          case neg =>
            have HS2 := Lib.hid (show SweepI a wi M0 (M ||| (a.getD u 0 &&& wi)) (u + 1) true by
              obtain ⟨i, h1, h2⟩ := HEX.out hz
              have h3 := HPO.out i h1 h2
              rcases HS.out with ⟨h4, h5, -⟩ | ⟨h4, h5⟩
              · exact .inr ⟨rfl, by rw [← h5]; exact h3⟩
              · exact .inr ⟨rfl, by omega⟩)
            have hz1 : ((andN (a.getD u 0 &&& wi) M : Int) != 0) = true := by rw [bne_iff_ne]; omega
            have hz2 : ((andN (a.getD u 0 &&& wi) M) != 0) = true := by rw [bne_iff_ne]; exact hz
            clear hbt hzi HEX HPO HAB hz
            generalize andN (a.getD u 0 &&& wi) M = zz at *
            generalize M ||| (a.getD u 0 &&& wi) = M2 at *
            generalize a.getD u 0 &&& wi = x at *
            generalize a.getD u 0 = y at *
            go_wp2
            go_round
            case rel => exact ⟨u + 1, M2, true, by omega, by go_num, rfl, rfl, hol, HRO, HS2⟩
            case measure => simp [intOf]; omega
end Go.Proofs.YtbpjbjeglcphcaaGreatDoor
