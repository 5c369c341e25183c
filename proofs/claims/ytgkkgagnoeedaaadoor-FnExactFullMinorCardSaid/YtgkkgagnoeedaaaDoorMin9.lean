/- FullMinor of both: the reference's sets, its MinorIn and FullMinor. -/
import Derived.Test.YtgkkgagnoeedaaaDoorMinM
import Derived.Test.YtgkkgagnoeedaaaDoorDist3
import Derived.Test.YtgkkgagnoeedaaaDoorSets
import Derived.Test.YtgkkgagnoeedaaaDoorSmall
import Derived.Test.YtgkkgagnoeedaaaDoorOwn
import Derived.Test.YtgkkgagnoeedaaaDoorOwnS
import Derived.Test.YtgkkgagnoeedaaaDoorInto
import Derived.Test.YtgkkgagnoeedaaaDoorLink
import Derived.Test.YtgkkgagnoeedaaaDoorOrb3
import Derived.Test.YtgkkgagnoeedaaaDoorFold
import Derived.Test.YtgkkgagnoeedaaaDoorCutG
import Derived.Test.YtgkkgagnoeedaaaDoorEarM
namespace Go.Proofs.YtgkkgagnoeedaaaDoor
open Go.RowKit
theorem add_bit {m x : Nat} (h : m < 2 ^ x) : m + bit x = m ||| bit x := by
  have := Nat.two_pow_add_eq_or_of_lt h 1
  rw [Nat.mul_one] at this
  unfold bit
  rw [Nat.add_comm, this, Nat.or_comm]
theorem i64_or_natW (a b : Nat) (ha : a < 4294967296) (hb : b < 4294967296) : bits .or .i64 (a : Int) (b : Int) = ((a ||| b : Nat) : Int) := by
  have hx : a ||| b < 2 ^ 32 := Nat.or_lt_two_pow (by omega) (by omega)
  have h1 : (BitVec.ofInt 64 (a : Int)).toNat = a := by
    rw [BitVec.ofInt_natCast, BitVec.toNat_ofNat]; exact Nat.mod_eq_of_lt (by omega)
  have h2 : (BitVec.ofInt 64 (b : Int)).toNat = b := by
    rw [BitVec.ofInt_natCast, BitVec.toNat_ofNat]; exact Nat.mod_eq_of_lt (by omega)
  show IntKind.i64.wrap ((BitVec.ofInt 64 (a : Int) ||| BitVec.ofInt 64 (b : Int)).toNat : Int) = _
  rw [BitVec.toNat_or, h1, h2, IntKind.wrap_i64]
  omega
theorem i64_and_neg (s : Nat) (h0 : s ≠ 0) (hs : s < 4294967296) : bits .and .i64 (s : Int) (-(s : Int)) = (bit (Lib.ctz 32 s) : Int) := by
  have h1 : (BitVec.ofInt 64 (s : Int)).toNat = s := by
    rw [BitVec.ofInt_natCast, BitVec.toNat_ofNat]; exact Nat.mod_eq_of_lt (by omega)
  have h2 : (BitVec.ofInt 64 (-(s : Int))).toNat = 18446744073709551616 - s := by
    rw [BitVec.toNat_ofInt]
    omega
  have h3 : s &&& (18446744073709551616 - s) = bit (Lib.ctz 32 s) := by
    have hl := (Lib.lowest_bit 32 s h0 hs).1
    rw [show (2 : Nat) ^ 32 = 4294967296 from rfl] at hl
    show _ = 2 ^ Lib.ctz 32 s
    rw [← hl]
    apply nat_ext
    intro i
    rw [Nat.testBit_and, Nat.testBit_and]
    by_cases hi : i < 32
    · have e : (18446744073709551616 - s) % 2 ^ 32 = 4294967296 - s := by omega
      rw [← e, Nat.testBit_mod_two_pow, decide_eq_true hi, Bool.true_and]
    · have : s.testBit i = false := by
        cases hb : s.testBit i
        · rfl
        · exact absurd (bit_lt_of (n := 32) hs hb) hi
      rw [this, Bool.false_and, Bool.false_and]
  show IntKind.i64.wrap ((BitVec.ofInt 64 (s : Int) &&& BitVec.ofInt 64 (-(s : Int))).toNat : Int) = _
  rw [BitVec.toNat_and, h1, h2, h3, IntKind.wrap_i64]
  have := bit_lt (Lib.lowest_bit 32 s h0 hs).2
  omega
theorem low_bits {s n : Nat} (hs : s < 2 ^ n) (hn : n ≤ 16) : lowL s n = bitsN s := by
  have h := lowL_all (m := s) (v := n) (Nat.lt_trans hs (pow16_lt hn)) hs
  rw [bits_natsI3] at h
  unfold natsI at h
  exact (List.map_inj_right (fun a b h => by (have h : (a : Int) = (b : Int) := h); omega)).1 h
set_option maxRecDepth 100000 in
set_option maxHeartbeats 4000000 in
theorem l21Around_any {S : Nat → Prop} {v : Value} {H : List Nat} {s : Nat} {w : World} (hv : SlI S w .i64 v (natsI H)) (h16 : H.length ≤ 16) (hH : ∀ x ∈ H, x < 2 ^ H.length) (hs : s < 2 ^ H.length) :
    Calls Tryd.prog 216 #[v, .int .i64 (s : Int)] w fun e w' => e = .returned (.int .i64 (orN H (bitsN s) : Int)) ∧ Drawn w w' := by
  have hs16 := pow16_lt h16
  have hs32 := Nat.lt_trans hs hs16
  obtain ⟨b, off, cap, he, hc⟩ := hv.at_
  obtain ⟨va, vc, rfl⟩ := hv.slice
  rw [natsI_len] at he ⊢
  have HC := Lib.hid hc
  have HHL := Lib.hid (fun x => getD_ltN hH x)
  have HOL := Lib.hid (fun l => orN_lt (l := l) hH)
  have HLB := Lib.hid (low_bits hs h16)
  clear hc hv hH
  go_enter Tryd.func216, Tryd.ntmps216
  go_wp2
  go_loopw [5, 6] (fun ov iv wr => ∃ k : Nat, k ≤ H.length ∧ iv = .int .i64 k ∧ ov = .int .i64 (orN H (lowL s k) : Int) ∧ Drawn w wr) (fun _ iv _ => H.length - (intOf iv).toNat)
  case atStart => exact ⟨0, Nat.zero_le _, rfl, by simp [lowL, orN], Drawn.refl _⟩
  case round =>
    obtain ⟨k, hk, rfl, rfl, hd⟩ := hrel
    by_cases hlt : k < H.length
    case neg =>
      obtain rfl : k = H.length := by omega
      go_wp2
      go_ret
      exact ⟨ret_int (by rw [HLB.out]), hd⟩
    have hb := fun W : World => l12Bit_any k W (by omega)
    have hbl : bit k < 4294967296 := bit_lt (by omega)
    have hand := i64_and_nat s (bit k) hs32 hbl
    have hls := lowL_succ s k
    have hz := and_bit_zero (m := s) (v := k)
    have ho := HOL.out (lowL s k)
    cases ht : s.testBit k
    · rw [hz.2 ht] at hand
      rw [ht] at hls
      simp only [Bool.false_eq_true, if_false, List.append_nil] at hls
      have HLS := Lib.hid hls
      clear hls ht hz ho
      generalize bit k = x at *
      go_wp2_with (go_at_call 114; refine (hb _).mono ?_; rintro e w' ⟨rfl, rfl⟩)
      go_roundw
      case rel => exact ⟨k + 1, by omega, by go_num, by rw [HLS.out], by repeat (first | exact hd | refine Drawn.drewN ?_ _ | refine Drawn.drew ?_)⟩
      case measure => simp [intOf]; omega
    · have h0 : s &&& bit k ≠ 0 := fun h => by rw [hz.1 h] at ht; cases ht
      rw [ht] at hls
      simp only [if_true] at hls
      have hon : orN H (lowL s (k + 1)) = orN H (lowL s k) ||| H.getD k 0 := by rw [hls, orN_snoc]
      have hc1 := HC.out k (by rw [natsI_len]; exact hlt)
      rw [natsI_get] at hc1
      have e1 : wr.cell? ⟨b, off + k, none⟩ = some (.int .i64 ((H.getD k 0 : Nat) : Int)) := by
        rw [hd.cell, hc1]; simp [hlt]
      have he2 := he (by omega)
      simp only [Value.slice.injEq] at he2
      obtain ⟨rfl, -, rfl⟩ := he2
      have hg := HHL.out k
      have hor := i64_or_natW (orN H (lowL s k)) (H.getD k 0) (by omega) (by omega)
      rw [← hon] at hor
      have HOR := Lib.hid hor
      have hne : (((s &&& bit k : Nat) : Int) != 0) = true := by rw [bne_iff_ne]; omega
      have hne2 : ((s &&& bit k : Nat) != 0) = true := by rw [bne_iff_ne]; exact h0
      clear hls ht hz ho hon hc1 h0 hg
      generalize s &&& bit k = y at *
      generalize H.getD k 0 = hk0 at *
      generalize bit k = x at *
      go_wp2_with (go_at_call 114; refine (hb _).mono ?_; rintro e w' ⟨rfl, rfl⟩)
      go_roundw
      case rel => exact ⟨k + 1, by omega, by go_num, by first | rfl | exact congrArg (Value.int .i64) HOR.out, by repeat (first | exact hd | refine Drawn.drewN ?_ _ | refine Drawn.drew ?_)⟩
      case measure => simp [intOf]; omega
/-- One step more. -/
def moreN (H : List Nat) (s M : Nat) : Nat := M ||| (orN H (bitsN M) &&& s)
theorem more_lt {H : List Nat} {s M n : Nat} (hs : s < 2 ^ n) (hM : M < 2 ^ n) : moreN H s M < 2 ^ n := Nat.or_lt_two_pow hM (Nat.lt_of_le_of_lt Nat.and_le_right hs)
theorem more_reach {H : List Nat} {s M v : Nat} (hs : s < 4294967296) (hM : M < 4294967296) (hv : v < 32) (h : ReachI H s v M) : ReachI H s v (moreN H s M) := by
  refine ⟨by unfold moreN; rw [Nat.testBit_or, h.1]; rfl, fun i hi => ?_⟩
  unfold moreN at hi
  rw [Nat.testBit_or, Bool.or_eq_true, Nat.testBit_and, Bool.and_eq_true, testBit_orN] at hi
  rcases hi with hi | ⟨⟨x, hx, hb⟩, hi⟩
  · exact h.2 i hi
  · exact reach_closed hs hv x (h.2 x ((mem_bitsN hM).1 hx)) i hi hb
theorem more_end {H : List Nat} {s M v : Nat} (hs : s < 4294967296) (hM : M < 4294967296) (hv : v < 32) (h : ReachI H s v M) (he : moreN H s M = M) : M = reachN H s v := by
  apply nat_ext
  intro i
  rw [Bool.eq_iff_iff]
  refine ⟨h.2 i, fun hi => reach_least hs hv (fun x hx u hu hb => ?_) h.1 hi⟩
  rw [← he]
  unfold moreN
  rw [Nat.testBit_or, Bool.or_eq_true, Nat.testBit_and, Bool.and_eq_true, testBit_orN]
  exact .inr ⟨⟨x, (mem_bitsN hM).2 hx, hb⟩, hu⟩
theorem more_pop {H : List Nat} {s M : Nat} (hs : s < 4294967296) (hM : M < 4294967296) (hne : moreN H s M ≠ M) : popN M + 1 ≤ popN (moreN H s M) := by
  have hl : moreN H s M < 4294967296 := more_lt (n := 32) hs hM
  have hsub : ∀ i, M.testBit i = true → (moreN H s M).testBit i = true := fun i hi => by unfold moreN; rw [Nat.testBit_or, hi]; rfl
  obtain ⟨u, hu, hn⟩ : ∃ u, (moreN H s M).testBit u = true ∧ M.testBit u = false := by
    apply Classical.byContradiction
    intro hc
    refine hne (nat_ext fun i => ?_)
    rw [Bool.eq_iff_iff]
    refine ⟨fun hi => ?_, hsub i⟩
    cases hb : M.testBit i
    · exact absurd ⟨i, hi, hb⟩ hc
    · rfl
  exact pop_more hM hl hsub hu hn
noncomputable def conS (H : List Nat) (s : Nat) : Bool := decide (s ≠ 0 ∧ (partsN H s).length = 1)
set_option maxRecDepth 100000 in
set_option maxHeartbeats 4000000 in
theorem l21Whole_any {S : Nat → Prop} {v : Value} {H : List Nat} {s : Nat} {w : World} (hv : SlI S w .i64 v (natsI H)) (h16 : H.length ≤ 16) (hH : ∀ x ∈ H, x < 2 ^ H.length) (hs : s < 2 ^ H.length) :
    Calls Tryd.prog 215 #[v, .int .i64 (s : Int)] w fun e w' => e = .returned (.bool (conS H s)) ∧ Drawn w w' := by
  have hs16 := pow16_lt h16
  have hs32 := Nat.lt_trans hs hs16
  by_cases h0 : s = 0
  · subst h0
    have HC0 := Lib.hid (show conS H 0 = false by simp [conS])
    go_enter Tryd.func215, Tryd.ntmps215
    go_wp2
    go_loopw [5] (fun mv wr => mv = .int .i64 0 ∧ Drawn w wr) (fun _ _ => 0)
    case atStart => exact ⟨by first | rfl | decide, Drawn.refl _⟩
    case round =>
      obtain ⟨rfl, hd⟩ := hrel
      go_wp2
      go_ret
      exact ⟨ret_bool HC0.out.symm, hd⟩
  have hneg := i64_and_neg s h0 hs32
  have hcb := ctz_bit h0 hs32
  have hc32 := bit_lt_of (n := 32) hs32 hcb
  have hcn := bit_lt_of hs hcb
  have hone := parts_one (a := H) hs32 h0
  have har := fun (W : World) (hd : Drawn w W) (M : Nat) (hM : M < 2 ^ H.length) => l21Around_any (hv.drawn hd) h16 hH hM
  have HOL := Lib.hid (fun l => orN_lt (l := l) hH)
  have HR0 : RowKit.Hid (ReachI H s (Lib.ctz 32 s) (bit (Lib.ctz 32 s))) := Lib.hid ⟨by rw [testBit_bit]; simp, fun i hi => by
    rw [testBit_bit, decide_eq_true_eq] at hi
    subst hi
    exact reach_start hs32 hc32⟩
  have HB0 := Lib.hid (show bit (Lib.ctz 32 s) < 2 ^ H.length from Nat.pow_lt_pow_right (by omega) hcn)
  have HMR := Lib.hid (fun M (hM : M < 2 ^ H.length) h => more_reach (H := H) (s := s) (M := M) (v := Lib.ctz 32 s) hs32 (Nat.lt_trans hM hs16) hc32 h)
  have HME := Lib.hid (fun M (hM : M < 2 ^ H.length) h => more_end (H := H) (s := s) (M := M) (v := Lib.ctz 32 s) hs32 (Nat.lt_trans hM hs16) hc32 h)
  have HMP := Lib.hid (fun M (hM : M < 2 ^ H.length) => more_pop (H := H) (s := s) (M := M) hs32 (Nat.lt_trans hM hs16))
  have HML := Lib.hid (fun M (hM : M < 2 ^ H.length) => more_lt (H := H) (s := s) (M := M) hs hM)
  have HC1 : RowKit.Hid (conS H s = decide (reachN H s (Lib.ctz 32 s) = s)) := Lib.hid (by
    unfold conS
    rw [decide_eq_decide]
    exact ⟨fun h => hone.1 h.2, fun h => ⟨h0, hone.2 h⟩⟩)
  have hsb : ((s : Int) != 0) = true := by rw [bne_iff_ne]; omega
  have hsb2 : (s != 0) = true := by rw [bne_iff_ne]; exact h0
  obtain ⟨va, vc, rfl⟩ := hv.slice
  clear hone hcb hH hv
  generalize reachN H s (Lib.ctz 32 s) = rr at *
  go_enter Tryd.func215, Tryd.ntmps215
  go_wp2
  go_loopw [5] (fun mv wr => ∃ M : Nat, M < 2 ^ H.length ∧ mv = .int .i64 (M : Int) ∧ RowKit.Hid (ReachI H s (Lib.ctz 32 s) M) ∧ Drawn w wr) (fun mv _ => 64 - popN (intOf mv).toNat)
  case atStart => exact ⟨_, HB0.out, rfl, HR0, Drawn.refl _⟩
  case round =>
    clear HR0 HB0
    obtain ⟨M, hM, rfl, HRM, hd⟩ := hrel
    have hM32 := Nat.lt_trans hM hs16
    have hM0 : M ≠ 0 := fun e => by
      have := HRM.out.1
      rw [e, Nat.zero_testBit] at this; cases this
    have hmb : ((M : Int) != 0) = true := by rw [bne_iff_ne]; omega
    have hmb2 : (M != 0) = true := by rw [bne_iff_ne]; exact hM0
    have ho := HOL.out (bitsN M)
    have hand := i64_and_nat (orN H (bitsN M)) s (by omega) hs32
    have hA : orN H (bitsN M) &&& s < 4294967296 := Nat.lt_of_le_of_lt Nat.and_le_right hs32
    have hor := i64_or_natW M (orN H (bitsN M) &&& s) hM32 hA
    have hmo : (M ||| (orN H (bitsN M) &&& s)) = moreN H s M := rfl
    rw [hmo] at hor
    have harM := har wr hd M hM
    have hml := HML.out M hM
    have HM1 := Lib.hid (HMR.out M hM HRM.out)
    have HM2 := Lib.hid (HME.out M hM HRM.out)
    have HM3 := Lib.hid (HMP.out M hM)
    have hp1 := popN_32 M
    have hp2 := popN_32 (moreN H s M)
    clear hmo
    generalize moreN H s M = M2 at *
    generalize orN H (bitsN M) = o at *
    generalize o &&& s = y at *
    go_wp2_with fail
    refine harM.mono ?_
    rintro e w1 ⟨rfl, hd1⟩
    by_cases he : M2 = M
    · subst he
      have hr := HM2.out rfl
      have hbq : ((M2 : Int) == (s : Int)) = conS H s := by
        rw [HC1.out, Bool.eq_iff_iff, beq_iff_eq, decide_eq_true_eq, ← hr]; omega
      have hbq2 : (M2 == s) = conS H s := by
        rw [HC1.out, Bool.eq_iff_iff, beq_iff_eq, decide_eq_true_eq, ← hr]
      clear HM2 HM3 hr
      obtain ⟨cs, hcs⟩ : ∃ cs, cs = conS H s := ⟨_, rfl⟩
      rw [← hcs] at hbq hbq2
      have HCS := Lib.hid hcs
      clear hcs
      go_wp2
      go_ret
      exact ⟨ret_bool HCS.out, hd.trans hd1⟩
    · have hb1 : ((M2 : Int) == (M : Int)) = false := by rw [beq_eq_false_iff_ne]; omega
      have hb2 : (M2 == M) = false := by rw [beq_eq_false_iff_ne]; exact he
      have hpp := HM3.out he
      clear HM2 HM3 he
      go_wp2
      go_roundw
      case rel => exact ⟨M2, hml, rfl, HM1, hd.trans hd1⟩
      case measure => simp only [intOf, Int.toNat_natCast]; omega
theorem emptyN_succ (word : List Nat) (k : Nat) : emptyN (k + 1) word = emptyN k word + if k + 1 ∈ word then 0 else 1 := by
  unfold emptyN
  rw [List.range_succ, List.filter_append, List.length_append]
  by_cases h : k + 1 ∈ word <;> simp [h]
theorem mem_natsI {l : List Nat} {k : Nat} : (k : Int) ∈ natsI l ↔ k ∈ l := by
  unfold natsI
  simp only [List.mem_map]
  constructor
  · rintro ⟨x, hx, e⟩
    obtain rfl : x = k := by omega
    exact hx
  · intro h; exact ⟨k, h, rfl⟩
set_option maxRecDepth 100000 in
set_option maxHeartbeats 4000000 in
theorem l21Lacks_any {S : Nat → Prop} {v : Value} {word : List Nat} {m : Nat} {w : World} (hv : SlI S w .i64 v (natsI word)) (hm : m ≤ 16) :
    Calls Tryd.prog 180 #[v, .int .i64 (m : Int)] w fun e w' => e = .returned (.int .i64 (emptyN m word : Int)) ∧ Drawn w w' := by
  have hh := fun (W : World) (hd : Drawn w W) (k : Int) => l1Has_any v _ k W (hv.drawn hd)
  have HZ := Lib.hid (show emptyN 0 word = 0 from rfl)
  go_enter Tryd.func180, Tryd.ntmps180
  go_wp2
  go_loopw [5, 6] (fun nv kv wr => ∃ k : Nat, k ≤ m ∧ kv = .int .i64 ((k + 1 : Nat) : Int) ∧ nv = .int .i64 (emptyN k word : Int) ∧ Drawn w wr) (fun _ kv _ => m + 1 - (intOf kv).toNat)
  case atStart => exact ⟨0, Nat.zero_le _, rfl, by rw [HZ.out]; rfl, Drawn.refl _⟩
  case round =>
    obtain ⟨k, hk, rfl, rfl, hd⟩ := hrel
    by_cases hlt : k < m
    case neg =>
      obtain rfl : k = m := by omega
      go_wp2
      go_ret
      exact ⟨rfl, hd⟩
    have hhk := hh wr hd ((k + 1 : Nat) : Int)
    have hes := emptyN_succ word k
    have hel := emptyN_le k word
    have hme := mem_natsI (l := word) (k := k + 1)
    generalize emptyN k word = ek at *
    by_cases hin : k + 1 ∈ word
    · rw [if_pos hin, Nat.add_zero] at hes
      rw [decide_eq_true (hme.2 hin)] at hhk
      have HES := Lib.hid hes
      clear hes hme hin hh
      go_wp2_with fail
      refine hhk.mono ?_
      rintro e w1 ⟨rfl, rfl⟩
      go_wp2
      go_roundw
      case rel => exact ⟨k + 1, by omega, by go_num, by rw [HES.out, Nat.add_zero], hd⟩
      case measure => simp [intOf]; omega
    · rw [if_neg hin] at hes
      rw [decide_eq_false (fun h => hin (hme.1 h))] at hhk
      have HES := Lib.hid hes
      clear hes hme hin hh
      go_wp2_with fail
      refine hhk.mono ?_
      rintro e w1 ⟨rfl, rfl⟩
      go_wp2
      go_roundw
      case rel => exact ⟨k + 1, by omega, by go_num, by rw [HES.out]; go_num, hd⟩
      case measure => simp [intOf]; omega
theorem row_prefix {g : List (List Int)} (hg : GOk g) {i k : Nat} (hi : i < g.length) (hk : k < g[i].length) : maskL (g[i].take k) < 2 ^ (g[i][k]).toNat ∧ 0 ≤ g[i][k] ∧ g[i][k] < g.length ∧ maskL (g[i].take (k + 1)) = maskL (g[i].take k) + bit (g[i][k]).toNat := by
  have hr := rise_sorted (hg.rise i hi)
  have h32 := hg.ge32 hi
  have hin := hg.ge hi g[i][k] (List.getElem_mem hk)
  have hlt : maskL (g[i].take k) < 2 ^ (g[i][k]).toNat := by
    apply lt_bits
    intro x hx
    rw [testBit_maskL (fun y hy => (h32 y (List.mem_of_mem_take hy)).1), decide_eq_true_eq] at hx
    obtain ⟨j, hj, e⟩ := List.getElem_of_mem hx
    rw [List.length_take] at hj
    rw [List.getElem_take] at e
    have := List.pairwise_iff_getElem.1 hr j k (by omega) hk (by omega)
    omega
  exact ⟨hlt, hin.1, hin.2, by rw [maskL_take hk, add_bit hlt]⟩
set_option maxRecDepth 100000 in
set_option maxHeartbeats 4000000 in
theorem l21Near_any {S : Nat → Prop} {v : Value} {g : List (List Int)} {w : World} (hg : GOk g) (hv : SlR S w v g) :
    Calls Tryd.prog 126 #[.agg #[v]] w fun e w' => ∃ u, e = .returned u ∧ Own w' w.heap.size 2 1 u g.length ((natsI (netsL g)).map (.int .i64)) ∧ Below w.heap.size w w' := by
  have h16 := hg.hi
  have HG := Lib.hid hg
  obtain ⟨a, b, off, cap, f, rfl, hl, ha, hc0⟩ := hv
  have hq0 : Below w.heap.size w ((w.alloc (.cells #[.slice a g.length cap] 27)).alloc (.cells #[] 2)) := ((Below.refl _ _).alloc (Nat.le_refl _) _).alloc (by simp) _
  have ho0 : Own ((w.alloc (.cells #[.slice a g.length cap] 27)).alloc (.cells #[] 2)) w.heap.size 2 1 (.slice (some ⟨w.heap.size + 1, 0, none⟩) 0 0) 0 [] := by
    have := World.ownsRow_lit (base := w.heap.size) (e := 2) (size := 1) (w.alloc (.cells #[.slice a g.length cap] 27)) #[] 0 (by simp) (by unfold maxLen; omega) rfl
    simpa [Own] using this
  have cg0 : ((w.alloc (.cells #[.slice a g.length cap] 27)).alloc (.cells #[] 2)).cell? ⟨w.heap.size, 0, none⟩ = some (.slice a g.length cap) := by simp [go_sem]
  go_enter Tryd.func126, Tryd.ntmps126
  go_wp2
  go_loopw [3, 4] (fun ov iv wr => ∃ k : Nat, k ≤ g.length ∧ iv = .int .i64 k ∧ Own wr w.heap.size 2 1 ov k ((natsI (netsL (g.take k))).map (.int .i64)) ∧ Below w.heap.size w wr ∧ wr.cell? ⟨w.heap.size, 0, none⟩ = some (.slice a g.length cap) ∧ (∀ b, ov.ownBlock = some b → b ≠ w.heap.size)) (fun _ iv _ => g.length - (intOf iv).toNat)
  case atStart => exact ⟨0, Nat.zero_le _, rfl, by simpa [natsI, netsL] using ho0, hq0, cg0, fun b h => by simp [Value.ownBlock] at h; omega⟩
  case round =>
    clear hq0 ho0 cg0
    obtain ⟨k, hk, rfl, ho, hq, cg, hne⟩ := hrel
    obtain ⟨wi, rfl⟩ : ∃ wx : World, wx = wr := ⟨_, rfl⟩
    have hqs := hq.size
    by_cases hlt : k < g.length
    case neg =>
      obtain rfl : k = g.length := by omega
      rw [List.take_length] at ho
      go_wp2
      go_ret
      exact ⟨_, rfl, ho, hq⟩
    obtain ⟨hcr0, hrow⟩ := hc0 k hlt
    obtain ⟨rfl, -⟩ := ha (by omega)
    have hcr := (hq.cell (p := ⟨b, off + k, none⟩) (cell_lt hcr0)).trans hcr0
    have hrow2 := hrow.below hq (Nat.le_refl _)
    obtain ⟨rb, ro, rc, hre, hrc⟩ := hrow2.at_
    have hrl := HG.out.rowlenS hlt
    have HRP := Lib.hid (fun j (hj : j < g[k].length) => row_prefix HG.out hlt hj)
    have HTK := Lib.hid (show natsI (netsL (g.take (k + 1))) = natsI (netsL (g.take k)) ++ [((maskL (g[k].take g[k].length) : Nat) : Int)] from by rw [List.take_succ_eq_append_getElem hlt, netsI_snoc, List.take_length])
    have HML : RowKit.Hid (maskL (g[k].take 0) = 0) := Lib.hid (by simp [maskL])
    have hHC : RowKit.Hid (∀ j (h : j < g[k].length), wi.cell? ⟨rb, ro + j, none⟩ = some (.int .i64 g[k][j])) := Lib.hid hrc
    obtain ⟨ra, rcc, hrs⟩ := hrow2.slice
    rw [hrs] at hcr hre
    clear hrc hcr0 hrow hrow2 hrs
    generalize g[k] = row at *
    go_wp2
    go_loopw [5, 6] (fun mv jv wr => ∃ j : Nat, j ≤ row.length ∧ jv = .int .i64 j ∧ mv = .int .i64 (maskL (row.take j) : Int) ∧ wr = wi) (fun _ jv _ => row.length - (intOf jv).toNat)
    case atStart => exact ⟨0, Nat.zero_le _, rfl, by rw [HML.out]; rfl, rfl⟩
    case round =>
      obtain ⟨j, hj, rfl, rfl, rfl⟩ := hrel
      by_cases hjl : j < row.length
      case neg =>
        obtain rfl : j = row.length := by omega
        generalize maskL (row.take row.length) = mr at *
        go_wp2_with (at_builtin; refine wpList_append1 elI64 rfl _ _ rfl ho rfl rfl rfl (by omega) hqs ?_; intro v' w3 hown3 hkept hmv)
        go_roundw
        case rel =>
          refine ⟨k + 1, by omega, by go_num, by rw [HTK.out, List.map_append]; exact hown3, hkept.below hq hqs ho.ge, (World.cell?_of_block (a := ⟨w.heap.size, 0, none⟩) (hkept.2.2.2.2 w.heap.size (cell_lt cg) (fun e => hne _ e.symm rfl))).trans cg, fun b hb => ?_⟩
          rcases hmv with h | h
          · exact hne b (by rw [← h]; exact hb)
          · rw [hb] at h
            have := cell_lt cg
            simp at h this
            omega
        case measure => simp [intOf]; omega
      obtain ⟨h1, h2, h3, h4⟩ := HRP.out j hjl
      have hcj := hHC.out j hjl
      have hre2 := hre (by omega)
      simp only [Value.slice.injEq] at hre2
      obtain ⟨rfl, -, rfl⟩ := hre2
      obtain ⟨y, hy⟩ := Int.eq_ofNat_of_zero_le h2
      rw [hy, Int.toNat_natCast] at h1 h4
      rw [hy] at h3 hcj
      have hy16 : y < 16 := by omega
      have hb := fun W : World => l12Bit_any y W (by omega)
      have hp16 : (2 : Nat) ^ y ≤ 65536 := Nat.le_trans (Nat.pow_le_pow_right (by decide) (show y ≤ 16 by omega)) (by decide)
      have hby : bit y ≤ 65536 := hp16
      have HM4 := Lib.hid h4
      clear h4 h2 hre
      generalize maskL (row.take j) = mj at *
      generalize bit y = yb at *
      have hws : IntKind.i64.wrap ((mj : Int) + (yb : Int)) = (mj : Int) + (yb : Int) := IntWalk.i64_in _ (by omega)
      go_wp2_with (go_at_call 114; refine (hb _).mono ?_; rintro e w' ⟨rfl, rfl⟩)
      go_roundw
      case rel => exact ⟨j + 1, by omega, by go_num, by rw [HM4.out]; go_num, by trivial⟩
      case measure => simp [intOf]; omega
def setX (word : List Nat) (v x : Nat) : Nat := maskN ((List.range v).filter fun u => decide (word.getD u 0 = x))
theorem setX_all (word : List Nat) (i : Nat) : setX word word.length (i + 1) = setW word i := rfl
theorem setX_lt (word : List Nat) (v x : Nat) : setX word v x < 2 ^ v := by
  apply lt_bits
  intro i hi
  unfold setX at hi
  rw [testBit_maskN, decide_eq_true_eq, List.mem_filter, List.mem_range] at hi
  exact hi.1
theorem setX_succ (word : List Nat) (v x : Nat) : setX word (v + 1) x = if word.getD v 0 = x then setX word v x + bit v else setX word v x := by
  have h : setX word (v + 1) x = if word.getD v 0 = x then setX word v x ||| bit v else setX word v x := by
    apply nat_ext
    intro i
    rw [Bool.eq_iff_iff]
    unfold setX
    by_cases hx : word.getD v 0 = x
    · rw [if_pos hx, Nat.testBit_or, Bool.or_eq_true, testBit_maskN, testBit_maskN, testBit_bit, decide_eq_true_eq, decide_eq_true_eq, decide_eq_true_eq, List.mem_filter, List.mem_filter, List.mem_range, List.mem_range, decide_eq_true_eq]
      constructor
      · rintro ⟨h1, h2⟩
        by_cases e : i = v
        · exact .inr e.symm
        · exact .inl ⟨by omega, h2⟩
      · rintro (⟨h1, h2⟩ | rfl)
        · exact ⟨by omega, h2⟩
        · exact ⟨by omega, hx⟩
    · rw [if_neg hx, testBit_maskN, testBit_maskN, decide_eq_true_eq, decide_eq_true_eq, List.mem_filter, List.mem_filter, List.mem_range, List.mem_range, decide_eq_true_eq]
      constructor
      · rintro ⟨h1, h2⟩
        by_cases e : i = v
        · subst e; exact absurd h2 hx
        · exact ⟨by omega, h2⟩
      · rintro ⟨h1, h2⟩
        exact ⟨by omega, h2⟩
  rw [h, add_bit (setX_lt word v x)]
/-- The rows of the complete graph. -/
def othL (m i : Nat) : List Nat := (List.range m).filter fun k => decide (k ≠ i)
def fullG (m : Nat) : List (List Int) := (List.range m).map fun i => natsI (othL m i)
theorem fullG_len (m : Nat) : (fullG m).length = m := by simp [fullG]
theorem fullG_get {m i : Nat} (h : i < (fullG m).length) : (fullG m)[i] = natsI (othL m i) := by simp [fullG]
theorem mem_othL {m i k : Nat} : k ∈ othL m i ↔ k < m ∧ k ≠ i := by unfold othL; rw [List.mem_filter, List.mem_range, decide_eq_true_eq]
theorem othL_len (m i : Nat) : (othL m i).length ≤ m := by
  have := List.length_filter_le (fun k => decide (k ≠ i)) (List.range m)
  simpa [othL] using this
/-- What the reference asks of one set. -/
def setF (H word : List Nat) (m i : Nat) : Prop := (setW word i ≠ 0 ∧ (partsN H (setW word i)).length = 1) ∧ ∀ k, k < m → k ≠ i → orN H (bitsN (setW word i)) &&& setW word k ≠ 0
set_option maxRecDepth 100000 in
set_option maxHeartbeats 8000000 in
theorem l21Fits_any {S S2 S3 : Nat → Prop} {nv pv v : Value} {H word : List Nat} {m : Nat} {w : World} (hn : SlI S w .i64 nv (natsI H)) (hp : SlR S2 w pv (fullG m)) (hu : SlI S3 w .i64 v (natsI word)) (h8 : H.length ≤ 8) (hm : m ≤ 5) (hwl : word.length = H.length) (hwm : ∀ x ∈ word, x ≤ m)
    (hH : ∀ x ∈ H, x < 2 ^ H.length) (hs : ∀ x y, x < word.length → y < word.length → (H.getD x 0).testBit y = true → (H.getD y 0).testBit x = true) :
    Calls Tryd.prog 182 #[nv, .agg #[pv], v] w fun e w' => e = .returned (.bool (fitB H m word)) ∧ Below w.heap.size w w' := by
  have hp8 : (2 : Nat) ^ H.length ≤ 256 := Nat.pow_le_pow_right (n := 2) (by omega) h8
  have hfl := fullG_len m
  obtain ⟨ga, gc, rfl⟩ := hp.slice
  have hb0 : Below w.heap.size w (w.alloc (.cells #[.slice ga (fullG m).length gc] 27)) := (Below.refl _ _).alloc (Nat.le_refl _) _
  have hb1 : Below w.heap.size w ((w.alloc (.cells #[.slice ga (fullG m).length gc] 27)).alloc (.cells (madeCells #[Value.int .i64 0] (m + 1)) 2)) := hb0.alloc (by simp) _
  have cg0 : ((w.alloc (.cells #[.slice ga (fullG m).length gc] 27)).alloc (.cells (madeCells #[Value.int .i64 0] (m + 1)) 2)).cell? ⟨w.heap.size, 0, none⟩ = some (.slice ga (fullG m).length gc) := by
    have h1 : (w.alloc (.cells #[.slice ga (fullG m).length gc] 27)).cell? ⟨w.heap.size, 0, none⟩ = some (.slice ga (fullG m).length gc) := by simp [go_sem]
    exact (((Below.refl _ _).alloc (Nat.le_refl _) _).cell (cell_lt h1)).trans h1
  have hr0 := Row.ofOwn (Own.made (w.alloc (.cells #[.slice ga (fullG m).length gc] 27)) (w.heap.size + 1) 2 (.int .i64 0) (m + 1) (by simp) (by omega)) (f := fun x => .int .i64 (setX word 0 x : Int)) (fun i hi => by simp [setX, maskN])
  rw [show (w.alloc (.cells #[.slice ga (fullG m).length gc] 27)).heap.size = w.heap.size + 1 by simp] at hr0
  have hmk := run_make_row' (P := Tryd.prog) 51 2 (.int .i64 0) 8 elI64.ht elI64.hi rfl .i64 .i64 (m + 1) (by omega) (by omega)
  rw [show ((m + 1 : Nat) : Int) = (m : Int) + 1 by omega] at hmk
  have hwm1 : IntKind.i64.wrap ((m : Int) + 1) = (m : Int) + 1 := IntWalk.i64_in _ (by omega)
  have hu0 := hu
  obtain ⟨ub, uo, uc, hue, huc⟩ := hu.at_
  obtain ⟨ua, uc2, rfl⟩ := hu.slice
  rw [natsI_len] at hue ⊢
  have HUC := Lib.hid huc
  have HXS := Lib.hid (fun v x => setX_succ word v x)
  have HXL := Lib.hid (fun v x => setX_lt word v x)
  have HXA := Lib.hid (fun i => setX_all word i)
  have HWM := Lib.hid hwm
  rw [hfl] at cg0 hb0 hb1 hr0 hp ⊢
  have HFA : RowKit.Hid (FitW H m word ↔ ∀ i, i < m → setF H word m i) := Lib.hid (fit_all (by omega) hs)
  have HFY := Lib.hid (fun (h : ∀ i, i < m → setF H word m i) => fitB_yes (HFA.out.2 h))
  have HFN := Lib.hid (fun i (hi : i < m) (h : ¬ setF H word m i) => fitB_no (fun hf => h (HFA.out.1 hf i hi)))
  have HH := Lib.hid hH
  have HWL := Lib.hid (fun i => setW_lt (word := word) (i := i) (n := H.length) (by omega))
  have hbx : ∀ (v : Nat) (W : World), v ≤ 30 → _ := fun v W hv => l12Bit_any v W hv
  have HWLL := Lib.hid hwl
  have hw8 : word.length ≤ 8 := by omega
  clear huc hu hs hwm hfl HFA hH hwl
  go_enter Tryd.func182, Tryd.ntmps182
  go_wp2
  generalize (w.alloc (.cells #[.slice ga m gc] 27)).alloc (.cells (madeCells #[Value.int .i64 0] (m + 1)) 2) = w1 at *
  clear hmk
  go_loopw [8] (fun vv wr => ∃ v : Nat, v ≤ word.length ∧ vv = .int .i64 v ∧ Row wr (w.heap.size + 1) (m + 1) (fun x => .int .i64 (setX word v x : Int)) ∧ Below w.heap.size w wr ∧ wr.cell? ⟨w.heap.size, 0, none⟩ = some (.slice ga m gc)) (fun vv _ => word.length - (intOf vv).toNat)
  case atStart => exact ⟨0, Nat.zero_le _, rfl, hr0, hb1, cg0⟩
  case round =>
    clear hr0 hb1 cg0
    obtain ⟨v, hv, rfl, hr, hq, cg⟩ := hrel
    by_cases hlt : v < word.length
    case pos =>
      have hxm : word.getD v 0 ≤ m := HWM.out _ (getD_mem hlt)
      have hc1 := HUC.out v (by rw [natsI_len]; exact hlt)
      rw [natsI_get] at hc1
      have e1 : wr.cell? ⟨ub, uo + v, none⟩ = some (.int .i64 ((word.getD v 0 : Nat) : Int)) := by
        rw [hq.cell (cell_lt hc1), hc1]; simp [hlt]
      have hue2 := hue (by omega)
      simp only [Value.slice.injEq] at hue2
      obtain ⟨rfl, -, rfl⟩ := hue2
      have hset : RowKit.Hid (∀ wd : World, Row wd (w.heap.size + 1) (m + 1) (fun x => .int .i64 (setX word v x : Int)) → Row (wd.setCell ⟨w.heap.size + 1, word.getD v 0, none⟩ (.int .i64 ((setX word v (word.getD v 0) : Nat) + (bit v : Nat) : Int))) (w.heap.size + 1) (m + 1) (fun x => .int .i64 (setX word (v + 1) x : Int))) := Lib.hid (fun wd h => h.set (by omega) (fun i hi => by
        rw [HXS.out v i]
        by_cases e : word.getD v 0 = i
        · subst e
          rw [if_pos rfl, if_pos rfl]
          simp
        · rw [if_neg e, if_neg e]))
      obtain ⟨b1, b2⟩ := hr (word.getD v 0) (by omega)
      have b1 : wr.cell? ⟨w.heap.size + 1, word.getD v 0, none⟩ = some (.int .i64 (setX word v (word.getD v 0) : Int)) := b1
      have hxl := HXL.out v (word.getD v 0)
      have hp8v : (2 : Nat) ^ v ≤ 256 := Nat.le_trans (Nat.pow_le_pow_right (by decide) (show v ≤ 8 by omega)) (by decide)
      have hby : bit v ≤ 256 := hp8v
      have hb := fun W : World => hbx v W (by omega)
      have HR := Lib.hid hr
      clear hc1 hue b2
      generalize setX word v (word.getD v 0) = sx at *
      generalize word.getD v 0 = x at *
      generalize bit v = bv at *
      have hws : IntKind.i64.wrap ((sx : Int) + (bv : Int)) = (sx : Int) + (bv : Int) := IntWalk.i64_in _ (by omega)
      have hxm1 : x < m + 1 := by omega
      have hxm2 : (x : Int) < (m : Int) + 1 := by omega
      go_wp2
      refine wp_region_late (S := (fun w' => w'.cell? ⟨ub, uo + v, none⟩ = some (.int .i64 (x : Int)) ∧ w'.cell? ⟨w.heap.size + 1, x, none⟩ = some (.int .i64 (sx : Int)))) (late := [16]) (by kernel_rfl) ?_ (fun hHeld => ?_)
      · first | exact ⟨‹_›, ‹_›⟩ | (simp [*, go_sem])
      have hdw : Drawn wr wr.drew := (Drawn.refl _).drew
      generalize wr.drew = wd at hdw hHeld ⊢
      have hfz := (HR.out.keep (w' := wd) (by rw [hdw.heap]) x (by omega)).2
      refine wpLate_take (i := 0) (v := ?v1) (by simp only [List.getElem?_toArray, List.getElem?_cons_zero]; exact rfl) (by kernel_rfl) (by kernel_rfl) (by kernel_rfl) (by intro _ _ _ h; exact h) (Or.inl ⟨by rfl, ?y1⟩) ?_
      case y1 => (intro w _; go_simp; try (with_reducible rfl))
      try simp only [Act.put, List.setIfInBounds_toArray, List.set_cons_zero, List.set_cons_succ]
      refine wpLate_take (i := 1) (v := ?v2) (by simp only [List.getElem?_toArray, List.getElem?_cons_succ, List.getElem?_cons_zero]; exact rfl) (by kernel_rfl) (by kernel_rfl) (by kernel_rfl) (by intro _ _ _ h; exact h) (Or.inl ⟨by rfl, ?y2⟩) ?_
      case y2 => (intro w _; go_simp; try (with_reducible rfl))
      try simp only [Act.put, List.setIfInBounds_toArray, List.set_cons_zero, List.set_cons_succ]
      refine wpLate_take (i := 2) (v := ?v3) (by simp only [List.getElem?_toArray, List.getElem?_cons_succ, List.getElem?_cons_zero]; exact rfl) (by kernel_rfl) (by kernel_rfl) (by kernel_rfl) (by intro _ _ _ h; exact h) (Or.inl ⟨by rfl, ?y3⟩) ?_
      case y3 => (intro w _; go_simp; try (with_reducible rfl))
      try simp only [Act.put, List.setIfInBounds_toArray, List.set_cons_zero, List.set_cons_succ]
      refine wpLate_take (i := 3) (v := ?v4) (by simp only [List.getElem?_toArray, List.getElem?_cons_succ, List.getElem?_cons_zero]; exact rfl) (by kernel_rfl) (by kernel_rfl) (by kernel_rfl) (by intro _ _ _ h; exact h) (Or.inl ⟨by rfl, ?y4⟩) ?_
      case y4 => (intro w _; go_simp; try (with_reducible rfl))
      try simp only [Act.put, List.setIfInBounds_toArray, List.set_cons_zero, List.set_cons_succ]
      refine wpLate_load (i := 4) (v := ?v5) (by simp only [List.getElem?_toArray, List.getElem?_cons_succ, List.getElem?_cons_zero]; exact rfl) (by kernel_rfl) (by kernel_rfl) (by kernel_rfl) (by kernel_rfl) (by intro _ _ _ h; exact h) (Or.inl ⟨by rfl, ?y5⟩) hHeld ?_
      case y5 => (intro w hSw; (try dsimp only at hSw); go_simp; try (with_reducible rfl))
      try simp only [Act.put, List.setIfInBounds_toArray, List.set_cons_zero, List.set_cons_succ]
      refine wpLate_take (i := 5) (v := ?v6) (by simp only [List.getElem?_toArray, List.getElem?_cons_succ, List.getElem?_cons_zero]; exact rfl) (by kernel_rfl) (by kernel_rfl) (by kernel_rfl) (by intro _ _ _ h; exact h) (Or.inl ⟨by rfl, ?y6⟩) ?_
      case y6 => (intro w _; go_simp; try (with_reducible rfl))
      try simp only [Act.put, List.setIfInBounds_toArray, List.set_cons_zero, List.set_cons_succ]
      refine wpLate_take (i := 6) (v := ?v7) (by simp only [List.getElem?_toArray, List.getElem?_cons_succ, List.getElem?_cons_zero]; exact rfl) (by kernel_rfl) (by kernel_rfl) (by kernel_rfl) (by intro _ _ _ h; exact h) (Or.inl ⟨by rfl, ?y7⟩) ?_
      case y7 => (intro w _; go_simp; try (with_reducible rfl))
      try simp only [Act.put, List.setIfInBounds_toArray, List.set_cons_zero, List.set_cons_succ]
      refine wpLate_take (i := 7) (v := ?v8) (by simp only [List.getElem?_toArray, List.getElem?_cons_succ, List.getElem?_cons_zero]; exact rfl) (by kernel_rfl) (by kernel_rfl) (by kernel_rfl) (by intro _ _ _ h; exact h) (Or.inl ⟨by rfl, ?y8⟩) ?_
      case y8 => (intro w _; go_simp; try (with_reducible rfl))
      try simp only [Act.put, List.setIfInBounds_toArray, List.set_cons_zero, List.set_cons_succ]
      refine wpLate_take (i := 8) (v := ?v9) (by simp only [List.getElem?_toArray, List.getElem?_cons_succ, List.getElem?_cons_zero]; exact rfl) (by kernel_rfl) (by kernel_rfl) (by kernel_rfl) (by intro _ _ _ h; exact h) (Or.inl ⟨by rfl, ?y9⟩) ?_
      case y9 => (intro w _; go_simp; try (with_reducible rfl))
      try simp only [Act.put, List.setIfInBounds_toArray, List.set_cons_zero, List.set_cons_succ]
      refine wpLate_load (i := 9) (v := ?v10) (by simp only [List.getElem?_toArray, List.getElem?_cons_succ, List.getElem?_cons_zero]; exact rfl) (by kernel_rfl) (by kernel_rfl) (by kernel_rfl) (by kernel_rfl) (by intro _ _ _ h; exact h) (Or.inl ⟨by rfl, ?y10⟩) hHeld ?_
      case y10 => (intro w hSw; (try dsimp only at hSw); go_simp; try (with_reducible rfl))
      try simp only [Act.put, List.setIfInBounds_toArray, List.set_cons_zero, List.set_cons_succ]
      refine wpLate_take (i := 10) (v := ?v11) (by simp only [List.getElem?_toArray, List.getElem?_cons_succ, List.getElem?_cons_zero]; exact rfl) (by kernel_rfl) (by kernel_rfl) (by kernel_rfl) (by intro _ _ _ h; exact h) (Or.inl ⟨by rfl, ?y11⟩) ?_
      case y11 => (intro w _; go_simp; try (with_reducible rfl))
      try simp only [Act.put, List.setIfInBounds_toArray, List.set_cons_zero, List.set_cons_succ]
      refine wpLate_load (i := 11) (v := ?v12) (by simp only [List.getElem?_toArray, List.getElem?_cons_succ, List.getElem?_cons_zero]; exact rfl) (by kernel_rfl) (by kernel_rfl) (by kernel_rfl) (by kernel_rfl) (by intro _ _ _ h; exact h) (Or.inl ⟨by rfl, ?y12⟩) hHeld ?_
      case y12 => (intro w hSw; (try dsimp only at hSw); go_simp; try (with_reducible rfl))
      try simp only [Act.put, List.setIfInBounds_toArray, List.set_cons_zero, List.set_cons_succ]
      refine wpLate_take (i := 12) (v := ?v13) (by simp only [List.getElem?_toArray, List.getElem?_cons_succ, List.getElem?_cons_zero]; exact rfl) (by kernel_rfl) (by kernel_rfl) (by kernel_rfl) (by intro _ _ _ h; exact h) (Or.inl ⟨by rfl, ?y13⟩) ?_
      case y13 => (intro w _; go_simp; try (with_reducible rfl))
      try simp only [Act.put, List.setIfInBounds_toArray, List.set_cons_zero, List.set_cons_succ]
      refine wpLate_one (i := 13) (by kernel_rfl) (by simp only [List.getElem?_toArray, List.getElem?_cons_succ, List.getElem?_cons_zero]; exact rfl) (by kernel_rfl) (fun K hK => ?_)
      go_simp
      refine (hb _).mono ?_
      rintro e w' ⟨rfl, rfl⟩
      try dsimp only
      refine hK.out _ _ ?h14 (fun hHeld => ?_)
      case h14 => first | exact ⟨‹_›, ‹_›⟩ | (simp [*, go_sem])
      clear hK K
      try simp only [Act.put, List.setIfInBounds_toArray, List.set_cons_zero, List.set_cons_succ]
      refine wpLate_take (i := 14) (v := ?v15) (by simp only [List.getElem?_toArray, List.getElem?_cons_succ, List.getElem?_cons_zero]; exact rfl) (by kernel_rfl) (by kernel_rfl) (by kernel_rfl) (by intro _ _ _ h; exact h) (Or.inl ⟨by rfl, ?y15⟩) ?_
      case y15 => (intro w _; go_simp; try (with_reducible rfl))
      try simp only [Act.put, List.setIfInBounds_toArray, List.set_cons_zero, List.set_cons_succ]
      refine wpLate_take (i := 15) (v := ?v16) (by simp only [List.getElem?_toArray, List.getElem?_cons_succ, List.getElem?_cons_zero]; exact rfl) (by kernel_rfl) (by kernel_rfl) (by kernel_rfl) (by intro _ _ _ h; exact h) (Or.inl ⟨by rfl, ?y16⟩) ?_
      case y16 => (intro w _; go_simp; try (with_reducible rfl))
      try simp only [Act.put, List.setIfInBounds_toArray, List.set_cons_zero, List.set_cons_succ]
      refine wpLate_late (i := 16) (by kernel_rfl) (by simp only [List.getElem?_toArray, List.getElem?_cons_succ, List.getElem?_cons_zero]; exact rfl) (by kernel_rfl) (fun K hK => ?_)
      go_simp
      skip
      try dsimp only
      refine hK.out _ _ ?_
      clear hK K
      try simp only [Act.put, List.setIfInBounds_toArray, List.set_cons_zero, List.set_cons_succ]
      refine wpLate_done (by kernel_rfl) ?_ _
      have hr2 := hset.out wd (HR.out.keep (by rw [hdw.heap]))
      have hq2 := (hq.trans (hdw.below _)).setCell (p := ⟨w.heap.size + 1, x, none⟩) (by simp) (.int .i64 ((sx : Int) + (bv : Int)))
      have cg2 : (wd.setCell ⟨w.heap.size + 1, x, none⟩ (.int .i64 ((sx : Int) + (bv : Int)))).cell? ⟨w.heap.size, 0, none⟩ = some (.slice ga m gc) := by
        have := (hdw.cell _).trans cg
        simp [go_sem, this]
      clear hHeld hfz
      go_wp2
      go_roundw
      case rel => exact ⟨v + 1, by omega, by go_num, hr2, hq2, cg2⟩
      case measure => simp [intOf]; omega
    obtain rfl : v = word.length := by omega
    obtain ⟨w2, rfl⟩ : ∃ x : World, x = wr := ⟨_, rfl⟩
    have hrw : ∀ i, i < m → w2.cell? ⟨w.heap.size + 1, i + 1, none⟩ = some (.int .i64 (setW word i : Int)) := fun i hi => by
      exact (hr (i + 1) (by omega)).1.trans (congrArg (fun z : Nat => some (Value.int .i64 (z : Int))) (HXA.out i))
    have HRW := Lib.hid hrw
    have hn2 := hn.below hq (Nat.le_refl _)
    have hwh := fun (W : World) (hd : Drawn w2 W) i => l21Whole_any (hn2.drawn hd) (by omega) HH.out (HWL.out i)
    have har := fun (W : World) (hd : Drawn w2 W) i => l21Around_any (hn2.drawn hd) (by omega) HH.out (HWL.out i)
    have HOL := Lib.hid (fun l => orN_lt (l := l) HH.out)
    obtain ⟨pa, pb, poff, pcap, pf, hpe, hpl, hpa, hpc⟩ := hp
    simp only [Value.slice.injEq] at hpe
    obtain ⟨rfl, -, rfl⟩ := hpe
    have HPC : RowKit.Hid (∀ i, i < m → (∃ ra rc, pf i = .slice ra (othL m i).length rc ∧ w2.cell? ⟨pb, poff + i, none⟩ = some (.slice ra (othL m i).length rc) ∧ ∃ rb ro, (0 < (othL m i).length → ra = some ⟨rb, ro, none⟩) ∧ ∀ j (h : j < (othL m i).length), w2.cell? ⟨rb, ro + j, none⟩ = some (.int .i64 ((othL m i)[j] : Int)))) := Lib.hid (fun i hi => by
      obtain ⟨h1, h2⟩ := hpc i (by rw [fullG_len]; exact hi)
      rw [fullG_get] at h2
      obtain ⟨rb, ro, rc, hre, hrc⟩ := h2.at_
      obtain ⟨ra, rc2, he⟩ := h2.slice
      rw [natsI_len] at he hre
      rw [he] at h1 hre
      refine ⟨ra, rc2, he, (hq.cell (cell_lt h1)).trans h1, rb, ro, fun h => ?_, fun j hj => ?_⟩
      · have := hre h
        simp only [Value.slice.injEq] at this
        exact this.1
      · have h3 := hrc j (by rw [natsI_len]; exact hj)
        rw [natsI_get] at h3
        exact (hq.cell (cell_lt h3)).trans h3)
    have HOM := Lib.hid (fun i k => mem_othL (m := m) (i := i) (k := k))
    have HOL2 := Lib.hid (fun i => othL_len m i)
    have HGI : RowKit.Hid (∀ i, setF H word m i ↔ conS H (setW word i) = true ∧ ∀ k, k < m → k ≠ i → orN H (bitsN (setW word i)) &&& setW word k ≠ 0) := Lib.hid (fun i => by unfold setF conS; rw [decide_eq_true_eq])
    have HG0 : RowKit.Hid (∀ j, j < 0 → setF H word m j) := Lib.hid (fun _ h => by omega)
    clear hrw hn hn2 hr hpc HXA HXS HXL hue HUC hu0 HWM hbx hb0
    generalize setF H word m = G at *
    generalize setW word = st at *
    go_wp2
    go_loopw [9] (fun iv wr => ∃ i : Nat, i ≤ m ∧ iv = .int .i64 i ∧ RowKit.Hid (∀ j, j < i → G j) ∧ Drawn w2 wr) (fun iv _ => m - (intOf iv).toNat)
    case atStart => exact ⟨0, Nat.zero_le _, rfl, HG0, Drawn.refl _⟩
    case round =>
      clear HG0
      obtain ⟨i, hi, rfl, HGi, hd⟩ := hrel
      have cg1 := (hd.cell _).trans cg
      by_cases hlt : i < m
      case neg =>
        obtain rfl : i = m := by omega
        have HT := Lib.hid (HFY.out HGi.out)
        go_wp2
        go_ret
        exact ⟨ret_bool HT.out.symm, hq.trans (hd.below _)⟩
      have a1 := (hd.cell _).trans (HRW.out i hlt)
      have hsi := HWL.out i
      have hwi : IntKind.i64.wrap ((i : Int) + 1) = (i : Int) + 1 := IntWalk.i64_in _ (by omega)
      have hx1 : ((i : Int) + 1).toNat = i + 1 := by omega
      have hx2 : (0 : Int) ≤ (i : Int) + 1 := by omega
      have hx3 : (i : Int) + 1 < (m : Int) + 1 := by omega
      have hwhi := hwh wr hd i
      have HNO := Lib.hid (HFN.out i hlt)
      have HGI2 := Lib.hid (HGI.out i)
      have hari := fun (W : World) (hd : Drawn w2 W) => har W hd i
      have hol := HOL.out (bitsN (st i))
      generalize hcs : conS H (st i) = cs at *
      generalize orN H (bitsN (st i)) = o at *
      have a1k : w2.cell? ⟨w.heap.size + 1, i + 1, none⟩ = some (.int .i64 (st i : Int)) := HRW.out i hlt
      generalize st i = si at *
      clear hcs
      go_wp2_with fail
      refine hwhi.mono ?_
      rintro e w3 ⟨rfl, hd3⟩
      have hd4 := hd.trans hd3
      clear hwhi
      cases cs with
      | false =>
        have HT := Lib.hid (HNO.out (fun h => by have := (HGI2.out.1 h).1; cases this))
        go_wp2
        go_ret
        exact ⟨ret_bool HT.out.symm, hq.trans (hd4.below _)⟩
      | true =>
      have b1 := (hd4.cell _).trans a1k
      have hx3i := hari w3 hd4
      have HSN : RowKit.Hid (si = si) := Lib.hid rfl
      go_wp2_with fail
      refine hx3i.mono ?_
      rintro e w4 ⟨rfl, hd5⟩
      have hd6 := hd4.trans hd5
      obtain ⟨ra, rc, hpf, hrp, rb, ro, hra, hrc⟩ := HPC.out i hlt
      have HRC := Lib.hid hrc
      have HK0 : RowKit.Hid (∀ j (h : j < (othL m i).length), j < 0 → o &&& st (othL m i)[j] ≠ 0) := Lib.hid (fun _ _ h => by omega)
      have hoi := HOM.out i
      have hol2 := HOL2.out i
      have HOI := Lib.hid hoi
      have HSET : RowKit.Hid ((∀ k, k < m → k ≠ i → o &&& st k ≠ 0) → ∀ j, j < i + 1 → G j) := Lib.hid (fun h j hj => by
        by_cases e : j = i
        · subst e; exact HGI2.out.2 ⟨by trivial, h⟩
        · exact HGi.out j (by omega))
      have HBAD := Lib.hid (fun k (hk : k < m) (hne : k ≠ i) (h : o &&& st k = 0) => HNO.out (fun hg => (HGI2.out.1 hg).2 k hk hne h))
      clear hrc hoi a1 a1k b1 cg1 hpf hx3i hd3 hd5
      obtain ⟨hga, -⟩ := hpa (by rw [fullG_len]; omega)
      subst hga
      obtain ⟨ol, hol3⟩ : ∃ ol, ol = othL m i := ⟨_, rfl⟩
      rw [← hol3] at HRC HK0 HOI hol2 hrp hra
      clear hol3
      go_wp2
      go_loopw [11] (fun jv wr => ∃ j : Nat, j ≤ ol.length ∧ jv = .int .i64 j ∧ RowKit.Hid (∀ k (h : k < ol.length), k < j → o &&& st ol[k] ≠ 0) ∧ Drawn w2 wr) (fun jv _ => ol.length - (intOf jv).toNat)
      case atStart => exact ⟨0, Nat.zero_le _, rfl, HK0, hd6⟩
      case round =>
        clear HK0 hd6 hd4 hd
        obtain ⟨j, hj, rfl, HKj, hd⟩ := hrel
        have cg1 := (hd.cell _).trans cg
        have hr1 := (hd.cell _).trans hrp
        by_cases hjl : j < ol.length
        case neg =>
          obtain rfl : j = ol.length := by omega
          have HGn := Lib.hid (HSET.out (fun k hk hne => by
            obtain ⟨x, hx, e⟩ := List.getElem_of_mem ((HOI.out _).2 ⟨hk, hne⟩)
            rw [← e]
            exact HKj.out x hx hx))
          go_wp2
          go_roundw
          case rel => exact ⟨i + 1, by omega, by go_num, HGn, hd⟩
          case measure => simp [intOf]; omega
        obtain rfl := hra (by omega)
        have hc1 := (hd.cell _).trans (HRC.out j hjl)
        have hom := (HOI.out _).1 (List.getElem_mem hjl)
        have hs1 := (hd.cell _).trans (HRW.out _ hom.1)
        have hsl := HWL.out ol[j]
        have hand := i64_and_nat o (st ol[j]) (by omega) (by omega)
        have HK1 : RowKit.Hid (o &&& st ol[j] ≠ 0 → ∀ k (h : k < ol.length), k < j + 1 → o &&& st ol[k] ≠ 0) := Lib.hid (fun h k hk hkj => by
          by_cases e : k = j
          · subst e; exact h
          · exact HKj.out k hk (by omega))
        have HB1 := Lib.hid (HBAD.out _ hom.1 hom.2)
        have hk16 := hom.1
        generalize ol[j] = k at *
        generalize st k = sk at *
        have hwk : IntKind.i64.wrap ((k : Int) + 1) = (k : Int) + 1 := IntWalk.i64_in _ (by omega)
        have hk1 : ((k : Int) + 1).toNat = k + 1 := by omega
        have hk2 : (0 : Int) ≤ (k : Int) + 1 := by omega
        have hk3 : (k : Int) + 1 < (m : Int) + 1 := by omega
        by_cases hz : o &&& sk = 0
        · have HT := Lib.hid (HB1.out hz)
          rw [hz] at hand
          clear HK1 hz
          go_wp2
          go_ret
          exact ⟨ret_bool HT.out.symm, hq.trans (hd.below _)⟩
        · have HK2 := Lib.hid (HK1.out hz)
          have hzb : (((o &&& sk : Nat) : Int) == 0) = false := by rw [beq_eq_false_iff_ne]; omega
          have hzb2 : ((o &&& sk : Nat) == 0) = false := by rw [beq_eq_false_iff_ne]; exact hz
          clear HK1 hz
          generalize o &&& sk = z at *
          go_wp2
          go_roundw
          case rel => exact ⟨j + 1, by omega, by go_num, HK2, hd⟩
          case measure => simp [intOf]; omega
/-- Where the array lies behind an append; what else may have changed. -/
def MovedC (w w' : World) (v v' : Value) (n : Nat) : Prop :=
  (∃ g cap, v = .slice (some ⟨g, 0, none⟩) n cap ∧ v' = .slice (some ⟨g, 0, none⟩) (n + 1) cap) ∨ (v'.ownBlock = some w.heap.size ∧ ∀ k, k < w.heap.size → w'.heap[k]? = w.heap[k]?)
theorem append_runC {P : Program} {w : World} {T ty E : TypeId} {bytes : Nat} {z : Value} (hE : Elem P T E 1 bytes z) {B : Nat}
    (v : Value) (n : Nat) (xs : List Value) (hown : Own w B E 1 v n xs)
    (a : Addr) (c : Nat) (u : Value) (hnew : w.cell? a = some u) (h1 : u.oneCell' = true)
    (h63 : n + 1 ≤ 1099511627) (hbase : B ≤ w.heap.size) :
    ∃ v' w', (Builtin.append_ #[T, T] ty #[v, .slice (some a) 1 c]).run P w = .ok v' w' ∧ Own w' B E 1 v' (n + 1) (xs ++ [u]) ∧ KeptBut w w' v.ownBlock ∧ MovedC w w' v v' n := by
  have hnews : ∀ j u', [u][j]? = some u' → w.cell? (a.add j) = some u' := fun j u' hj => by
    match j, hj with
    | 0, hj => simp at hj; subst hj; simpa [Addr.add] using hnew
  obtain ⟨i, hi, hzz⟩ := Option.map_eq_some_iff.1 hE.hi
  simp only [Prod.mk.injEq] at hzz
  obtain ⟨hz, hsz, hby⟩ := hzz
  have hbb := hE.hb
  have hbytes : (n + 1) * i.bytes ≤ 140737488355328 := by
    rw [hby]
    have : (n + 1) * bytes ≤ 1099511627 * 4096 := Nat.mul_le_mul h63 hbb
    omega
  have h63' : n + 1 ≤ maxLen := by unfold maxLen; omega
  obtain ⟨hlen, hown⟩ := hown
  have hll : (xs ++ [u]).length = (n + 1) * 1 := by rw [List.length_append, hlen]; simp
  have grown : ∀ (old : Nat), old < n + 1 → ∀ (row : Option Nat),
      Own (w.drew.alloc (.cells (xs.toArray ++ [u].toArray ++ Builtin.zeroCells z.cells (grownCap w (n + 1) old E - (n + 1))) E)) B E 1
        (.slice (some ⟨w.heap.size, 0, none⟩) (n + 1) (grownCap w (n + 1) old E)) (n + 1) (xs ++ [u]) ∧
      KeptBut w (w.drew.alloc (.cells (xs.toArray ++ [u].toArray ++ Builtin.zeroCells z.cells (grownCap w (n + 1) old E - (n + 1))) E)) row ∧
      ∀ k, k < w.heap.size → (w.drew.alloc (.cells (xs.toArray ++ [u].toArray ++ Builtin.zeroCells z.cells (grownCap w (n + 1) old E - (n + 1))) E)).heap[k]? = w.heap[k]? := by
    intro old ho row
    have hge := grownCap_ge w (n + 1) old E
    have hcm : grownCap w (n + 1) old E ≤ maxLen := grownCap_le_maxLen w (n + 1) old E h63'
    refine ⟨⟨hll, .inr ⟨w.heap.size, _, _, rfl, hbase, heap_alloc_new w.drew _, hge, hcm, ?_, ?_⟩⟩, ⟨rfl, rfl, rfl, by simp, fun k hk _ => Below.heap_alloc w.drew _ k hk⟩, fun k hk => Below.heap_alloc w.drew _ k hk⟩
    · simp only [Array.size_append, List.size_toArray, size_zeroCells, hE.hz, hlen, List.length_singleton]
      omega
    · simp only [Array.toList_append, List.append_assoc]
      rw [← List.append_assoc, ← hll]
      exact List.take_left
  rcases hown with ⟨rfl, rfl⟩ | ⟨g, cap, cur, rfl, hbg, hg, hnc, hcm, hcs, htake⟩
  · have hx : xs = [] := List.eq_nil_of_length_eq_zero (by simpa using hlen)
    subst hx
    have hr := run_append_nil (P := P) w T ty E i z hE.ht hi hz a 1 c [u] (by rw [hsz]; rfl) hnews (by omega) (by omega) (by have hb := hbytes; simp only [Nat.zero_add] at hb; omega)
    have hgr := grown 0 (by omega) (Value.ownBlock (.slice none 0 0))
    simp only [Nat.zero_add, List.nil_append, Array.empty_append] at hgr ⊢
    exact ⟨_, _, hr, hgr.1, hgr.2.1, .inr ⟨rfl, hgr.2.2⟩⟩
  · by_cases hroom : n + 1 ≤ cap
    · have hfit : n * i.size + [u].length ≤ cur.size := by rw [hcs, hsz]; simp; omega
      have hr := run_append_room (P := P) w T ty E i hE.ht hi g n cap cur hg a 1 c [u] (by rw [hsz]; rfl) hnews (fun u' hu' => by simp at hu'; subst hu'; exact h1) hroom hfit
      refine ⟨_, _, hr, ⟨hll, .inr ⟨g, cap, _, rfl, hbg, setRow_heap w g cur _ E _ hg, hroom, hcm, ?_, ?_⟩⟩, ⟨rfl, rfl, rfl, by simp, fun k _ hk => setRow_other w g k _ (fun e => hk (by simp [Value.ownBlock, e]))⟩, .inl ⟨g, cap, rfl, rfl⟩⟩
      · simp only [List.size_toArray, List.length_append, List.length_take, List.length_drop, Array.length_toList]
        omega
      · rw [hsz, htake, ← hll]
        exact List.take_left
    · have holds : ∀ j u, xs[j]? = some u → w.cell? ((⟨g, 0, none⟩ : Addr).add j) = some u :=
        World.ownsRow.cells (base := B) (e := E) (size := 1) (v := .slice (some ⟨g, 0, none⟩) n cap) (n := n) ⟨hlen, .inr ⟨g, cap, cur, rfl, hbg, hg, hnc, hcm, hcs, htake⟩⟩ (g := g) rfl
      have hr := run_append_grow (P := P) w T ty E i z hE.ht hi hz ⟨g, 0, none⟩ n cap xs (by rw [hlen, hsz]) holds a 1 c [u] (by rw [hsz]; rfl) hnews (by omega) (by omega) (growslice_fits (by omega) hbytes)
      have hgr := grown cap (by omega) (Value.ownBlock (.slice (some ⟨g, 0, none⟩) n cap))
      exact ⟨_, _, hr, hgr.1, hgr.2.1, .inr ⟨rfl, hgr.2.2⟩⟩
theorem opWp_append1C {P : Program} {w : World} {T E : TypeId} {bytes : Nat} {z : Value} (hE : Elem P T E 1 bytes z) {B : Nat}
    {o : Oper} {a : Act} {K : Act → World → Prop} {Q : Exit → Act → World → Prop} (s x : Operand)
    (ho : o.op = .call { callee := .builtin .append, args := #[s, x], argTypes := #[T, T] })
    {v : Value} {n : Nat} {xs : List Value} (hown : Own w B E 1 v n xs) (hs : a.eval s = v) {u : Value} {nb : Nat} (hnb : nb = w.heap.size)
    (hx : a.eval x = .slice (some ⟨nb, 0, none⟩) 1 1) (h1 : u.oneCell' = true)
    (h63 : n + 1 ≤ 1099511627) (hbase : B ≤ w.heap.size)
    (h : ∀ v' w', Own w' B E 1 v' (n + 1) (xs ++ [u]) → KeptBut (w.alloc (.cells #[u] E)) w' v.ownBlock → MovedC (w.alloc (.cells #[u] E)) w' v v' n → K (a.put o.dst v') w') : o.wp P a (w.alloc (.cells #[u] E)) K Q := by
  subst hnb
  obtain ⟨v', w', hr, h2, h3, h4⟩ := append_runC (w := w.alloc (.cells #[u] E)) (ty := o.type) hE v n xs (World.ownsRow.alloc hown _) ⟨w.heap.size, 0, none⟩ 1 u (by simp) h1 h63 (by simp; omega)
  unfold Oper.wp execOp
  simp only [ho, resolve, invoke, builtin, Sem.run_bind, Sem.run_pure, Result.andThen_ok, List.map_toArray, List.map_cons, List.map_nil, hs, hx, hr]
  exact h v' w' h2 h3 h4
/-- What the search answers. -/
def FindR (E : TypeId) (H : List Nat) (m B : Nat) (w : World) (v : Value) (word : List Nat) (e : Ending) (w' : World) : Prop :=
  ∃ x, e = .returned (.tuple #[x, .bool (extB H H.length m word)]) ∧ (extB H H.length m word = true → ∃ t : List Nat, SlI (fun _ => True) w' .i64 x (natsI t) ∧ t.length = H.length ∧ ∀ y ∈ t, y ≤ m) ∧
    Own w' B E 1 v word.length ((natsI word).map (.int .i64)) ∧ Keeps (fun b => v.ownBlock = some b) w w'
theorem Keeps.be {F : Nat → Prop} {w w' : World} (h : Below w.heap.size w w') : Keeps F w w' := ⟨h.os, h.tape, h.output, h.size, fun b hb _ => h.block b hb⟩
theorem Keeps.low {B : Nat} {w w' : World} {v : Value} (h : Keeps (fun b => v.ownBlock = some b) w w') (hB : B ≤ w.heap.size) (hv : ∀ b, v.ownBlock = some b → B ≤ b) : ∀ b, b < B → w'.heap[b]? = w.heap[b]? := fun b hb => h.block b (by omega) (fun e => by have := hv b e; omega)
theorem find_back {E : TypeId} {B n vc xc : Nat} {va xa : Option Addr} {wr wA w3 w4 : World} {XS : List Value} {u : Value} (ho : Own wr B E 1 (.slice va n vc) n XS) (hA : Below wr.heap.size wr wA) (hk3 : KeptBut wA w3 (Value.slice va n vc).ownBlock) (hm : MovedC wA w3 (.slice va n vc) (.slice xa (n + 1) xc) n)
    (ho4 : Own w4 B E 1 (.slice xa (n + 1) xc) (n + 1) (XS ++ [u])) (hk4 : Keeps (fun b => (Value.slice xa (n + 1) xc).ownBlock = some b) w3 w4) (hl : XS.length = n) :
    Own w4 B E 1 (.slice va n vc) n XS ∧ Keeps (fun b => (Value.slice va n vc).ownBlock = some b) wr w4 := by
  have hk : Keeps (fun b => (Value.slice va n vc).ownBlock = some b) wr w3 := (Keeps.be hA).tr ⟨hk3.1, hk3.2.1, hk3.2.2.1, hk3.2.2.2.1, fun b hb hF => hk3.2.2.2.2 b hb (fun e => hF e.symm)⟩
  rcases hm with ⟨g, cap, e1, e2⟩ | ⟨e1, e2⟩
  · simp only [Value.slice.injEq] at e1 e2
    obtain ⟨rfl, -, rfl⟩ := e1
    obtain ⟨rfl, -, rfl⟩ := e2
    have h := Own.reslice ho4 (m := n) (by omega)
    rw [Nat.mul_one, List.take_left' hl] at h
    exact ⟨h, hk.tr ⟨hk4.os, hk4.tape, hk4.output, hk4.size, fun b hb hF => hk4.block b hb hF⟩⟩
  · have hs := hA.size
    have h3 := hk.size
    refine ⟨ho.keep fun b hb => ?_, ⟨hk4.os.trans hk.os, hk4.tape.trans hk.tape, hk4.output.trans hk.output, Nat.le_trans hk.size hk4.size, fun b hb hF => ?_⟩⟩
    · have hbl := (ho.lt b hb).2
      rw [hk4.block b (by omega) (fun e => by rw [e1] at e; simp at e; omega), e2 b (by omega), hA.block b hbl]
    · rw [hk4.block b (by omega) (fun e => by rw [e1] at e; simp at e; omega), e2 b (by omega), hA.block b hb]
theorem find_off {S : Nat → Prop} {w wi wA w3 : World} {v v3 : Value} {n : Nat} (hm : MovedC wA w3 v v3 n) (h1 : w.heap.size ≤ wi.heap.size) (h2 : wi.heap.size ≤ wA.heap.size) (h3 : wi.heap.size ≤ w3.heap.size) (hS : ∀ b, S b → b < w.heap.size ∧ v.ownBlock ≠ some b) : ∀ b, S b → b < w3.heap.size ∧ v3.ownBlock ≠ some b := fun b hb => by
  obtain ⟨a1, a2⟩ := hS b hb
  refine ⟨by omega, fun e => ?_⟩
  rcases hm with ⟨g, cap, e1, e2⟩ | ⟨e1, -⟩
  · rw [e2] at e
    exact a2 (by rw [e1]; exact e)
  · rw [e1] at e
    have : wA.heap.size = b := by simpa using e
    omega
set_option maxRecDepth 100000 in
set_option maxHeartbeats 8000000 in
theorem l21Find_any {S : Nat → Prop} {nv pv : Value} {H : List Nat} {m B : Nat} (h8 : H.length ≤ 8) (hm : m ≤ 5) (hH : ∀ x ∈ H, x < 2 ^ H.length) (hs : ∀ x y, x < H.length → y < H.length → (H.getD x 0).testBit y = true → (H.getD y 0).testBit x = true) :
    ∀ (d : Nat) (word : List Nat) (v : Value) (w : World), word.length + d = H.length → (∀ x ∈ word, x ≤ m) → SlI S w .i64 nv (natsI H) → SlR S w pv (fullG m) → Own w B 2 1 v word.length ((natsI word).map (.int .i64)) → B ≤ w.heap.size → (∀ b, S b → b < w.heap.size ∧ v.ownBlock ≠ some b) →
      Calls Tryd.prog 125 #[nv, .agg #[pv], v] w (FindR 2 H m B w v word) := by
  intro d
  induction d with
  | zero =>
    intro word v w hl hwm hn hp hown hB hSb
    have hpl := hp.len
    obtain ⟨ga, gc, rfl⟩ := hp.slice
    obtain ⟨na, nc, rfl⟩ := hn.slice
    rw [natsI_len] at *
    rw [fullG_len] at *
    have hb0 : Below w.heap.size w (w.alloc (.cells #[.slice ga m gc] 27)) := (Below.refl _ _).alloc (Nat.le_refl _) _
    have c0 : (w.alloc (.cells #[.slice ga m gc] 27)).cell? ⟨w.heap.size, 0, none⟩ = some (.slice ga m gc) := by simp [go_sem]
    have hvi := Own.ints (xs := natsI word) (k := .i64) hown (by omega)
    have hla := l21Lacks_any (hvi.below hb0 (Nat.le_refl _)) (m := m) (by omega)
    have hel := emptyN_le m word
    have HE : RowKit.Hid (extB H H.length m word = fitB H m word) := Lib.hid (by
      have h := ext_end (H := H) (m := m) (show word.length = H.length by omega)
      by_cases hf : FitW H m word
      · rw [extB_yes (h.2 hf), fitB_yes hf]
      · rw [extB_no (fun he => hf (h.1 he)), fitB_no hf])
    have HNE : RowKit.Hid (0 < emptyN m word → extB H H.length m word = false) := Lib.hid (fun h => extB_no (no_ext (by omega)))
    have hlw : word.length = H.length := by omega
    obtain ⟨va, vc, rfl⟩ := hown.isSlice
    have HOWN := Lib.hid hown
    have hw0 : IntKind.i64.wrap ((H.length : Int) - (H.length : Int)) = 0 := by rw [Int.sub_self]; rfl
    have hw1 : IntKind.i64.wrap ((H.length : Int) - (word.length : Int)) = 0 := by rw [hlw, Int.sub_self]; rfl
    by_cases he : 0 < emptyN m word
    · have hz := HNE.out he
      have hg1 : decide ((0 : Int) < (emptyN m word : Int)) = true := decide_eq_true (by omega)
      unfold FindR
      rw [hz]
      clear HE HNE hz hlw hown hvi
      go_enter Tryd.func125, Tryd.ntmps125
      go_wp2_with fail
      refine hla.mono ?_
      rintro e w1 ⟨rfl, hd1⟩
      have hbx := (hb0.trans (hd1.below _)).alloc (hb0.trans (hd1.below _)).size (.cells #[] 2)
      go_wp2
      refine bodyPost_ret (v := .tuple #[.slice (some ⟨w1.heap.size, 0, none⟩) 0 0, .bool false]) (by simp [results, Tryd.results125, go_sem]) rfl ⟨_, rfl, fun h => (by cases h), HOWN.out.below hbx (Nat.le_refl _), Keeps.be hbx⟩
    have h0 : emptyN m word = 0 := by omega
    have hcp := fun (W : World) (hb : Below w.heap.size w W) => l1Copy_any _ _ W (hvi.below hb (Nat.le_refl _)) (by rw [natsI_len]; omega)
    have hft := fun (W : World) (hb : Below w.heap.size w W) => l21Fits_any (hn.below hb (Nat.le_refl _)) (hp.below hb (Nat.le_refl _)) (hvi.below hb (Nat.le_refl _)) h8 hm hlw hwm hH (by rw [hlw]; exact hs)
    have HWM := Lib.hid hwm
    have HLW := Lib.hid hlw
    unfold FindR
    rw [HE.out]
    rw [h0] at hla
    obtain ⟨n0, hn0⟩ : ∃ n0, n0 = word.length := ⟨_, rfl⟩
    have hnn : H.length = n0 := by omega
    have hn08 : n0 ≤ 8 := by omega
    have HLW2 := Lib.hid (show word.length = n0 from hn0.symm)
    have HOWN2 := Lib.hid (show Own w B 2 1 (.slice va n0 vc) n0 ((natsI word).map (.int .i64)) from by rw [hn0]; exact hown)
    rw [natsI_len] at hcp
    rw [← hn0] at hla hft hcp hown ⊢
    rw [hnn] at hft hw0 ⊢
    clear HE HNE hown hvi hp hn hH hs hwm hlw hn0 hnn hw1 hel he h0 hpl
    go_enter Tryd.func125, Tryd.ntmps125
    go_wp2_with fail
    refine hla.mono ?_
    rintro e w1 ⟨rfl, hd1⟩
    have hq1 := hb0.trans (hd1.below _)
    have c1 := (hd1.cell _).trans c0
    clear hla c0
    go_wp2
    refine wp_region_held_drew (S := (fun w' => w'.cell? ⟨w.heap.size, 0, none⟩ = some (.slice ga m gc))) (by kernel_rfl) ?_ (fun hHeld => ?_)
    · first | assumption | exact p1 | exact p2 | exact hHeld
    have hdw : Drawn w1 w1.drew := (Drawn.refl _).drew
    generalize w1.drew = wd at hdw hHeld ⊢
    have hq2 := hq1.trans (hdw.below _)
    refine wpAnyH_take (i := 0) (v := ?v18) (by simp only [List.getElem?_toArray, List.getElem?_cons_zero]; exact rfl) (by kernel_rfl) (by kernel_rfl) (by kernel_rfl) (by intro _ _ _ h; exact h) (Or.inl ⟨by rfl, ?y18⟩) hHeld ?_
    case y18 => (intro w hSw; (try dsimp only at hSw); go_simp; try (with_reducible rfl))
    try simp only [Act.put, List.setIfInBounds_toArray, List.set_cons_zero, List.set_cons_succ]
    refine wpAnyH_take (i := 2) (v := ?v19) (by simp only [List.getElem?_toArray, List.getElem?_cons_succ, List.getElem?_cons_zero]; exact rfl) (by kernel_rfl) (by kernel_rfl) (by kernel_rfl) (by intro _ _ _ h; exact h) (Or.inl ⟨by rfl, ?y19⟩) hHeld ?_
    case y19 => (intro w hSw; (try dsimp only at hSw); go_simp; try (with_reducible rfl))
    try simp only [Act.put, List.setIfInBounds_toArray, List.set_cons_zero, List.set_cons_succ]
    refine wpAnyH_take (i := 3) (v := ?v20) (by simp only [List.getElem?_toArray, List.getElem?_cons_succ, List.getElem?_cons_zero]; exact rfl) (by kernel_rfl) (by kernel_rfl) (by kernel_rfl) (by intro _ _ _ h; exact h) (Or.inl ⟨by rfl, ?y20⟩) hHeld ?_
    case y20 => (intro w hSw; (try dsimp only at hSw); go_simp; try (with_reducible rfl))
    try simp only [Act.put, List.setIfInBounds_toArray, List.set_cons_zero, List.set_cons_succ]
    refine wpAnyH_take (i := 4) (v := ?v21) (by simp only [List.getElem?_toArray, List.getElem?_cons_succ, List.getElem?_cons_zero]; exact rfl) (by kernel_rfl) (by kernel_rfl) (by kernel_rfl) (by intro _ _ _ h; exact h) (Or.inl ⟨by rfl, ?y21⟩) hHeld ?_
    case y21 => (intro w hSw; (try dsimp only at hSw); go_simp; try (with_reducible rfl))
    try simp only [Act.put, List.setIfInBounds_toArray, List.set_cons_zero, List.set_cons_succ]
    refine wpAnyH_ready (rs := [1]) (by kernel_rfl) (by simp) ?_
    refine AllReadyH.cons (by simp only [List.getElem?_toArray, List.getElem?_cons_succ, List.getElem?_cons_zero]; exact rfl) (fun K hK => ?_) AllReadyH.nil
    go_simp
    with_reducible refine (hcp _ hq2).mono ?_
    rintro e w3 ⟨x, rfl, hx, hb3⟩
    have hq3 := hq2.trans (hb3.mono hq2.size)
    have p1 := (hb3.cell (cell_lt hHeld)).trans hHeld
    try dsimp only
    refine hK.out _ _ ?h23 (fun hHeld => ?_)
    case h23 => first | assumption | exact p1 | exact p2 | exact hHeld
    clear hK K
    try simp only [Act.put, List.setIfInBounds_toArray, List.set_cons_zero, List.set_cons_succ]
    refine wpAnyH_ready (rs := [5]) (by kernel_rfl) (by simp) ?_
    refine AllReadyH.cons (by simp only [List.getElem?_toArray, List.getElem?_cons_succ, List.getElem?_cons_zero]; exact rfl) (fun K hK => ?_) AllReadyH.nil
    go_simp
    with_reducible refine (hft _ hq3).mono ?_
    rintro e w4 ⟨rfl, hb4⟩
    have hq4 := hq3.trans (hb4.mono hq3.size)
    have p2 := (hb4.cell (cell_lt p1)).trans p1
    try dsimp only
    refine hK.out _ _ ?h25 (fun hHeld => ?_)
    case h25 => first | assumption | exact p1 | exact p2 | exact hHeld
    clear hK K
    try simp only [Act.put, List.setIfInBounds_toArray, List.set_cons_zero, List.set_cons_succ]
    refine wpAnyH_take (i := 6) (v := ?v26) (by simp only [List.getElem?_toArray, List.getElem?_cons_succ, List.getElem?_cons_zero]; exact rfl) (by kernel_rfl) (by kernel_rfl) (by kernel_rfl) (by intro _ _ _ h; exact h) (Or.inl ⟨by rfl, ?y26⟩) hHeld ?_
    case y26 => (intro w hSw; (try dsimp only at hSw); go_simp; try (with_reducible rfl))
    try simp only [Act.put, List.setIfInBounds_toArray, List.set_cons_zero, List.set_cons_succ]
    refine wpAnyH_take (i := 7) (v := ?v27) (by simp only [List.getElem?_toArray, List.getElem?_cons_succ, List.getElem?_cons_zero]; exact rfl) (by kernel_rfl) (by kernel_rfl) (by kernel_rfl) (by intro _ _ _ h; exact h) (Or.inl ⟨by rfl, ?y27⟩) hHeld ?_
    case y27 => (intro w hSw; (try dsimp only at hSw); go_simp; try (with_reducible rfl))
    try simp only [Act.put, List.setIfInBounds_toArray, List.set_cons_zero, List.set_cons_succ]
    refine wpAnyH_done (by kernel_rfl) ?_ _
    go_wp2
    refine bodyPost_ret (v := .tuple #[x, .bool (fitB H m word)]) (by simp [results, Tryd.results125, go_sem]) rfl ⟨_, rfl, fun _ => ⟨word, (((hx.ints (xs := natsI word) (by omega)).weak (fun _ _ => trivial)).below hb4 (Nat.le_refl _)), HLW2.out, HWM.out⟩, HOWN2.out.below hq4 (Nat.le_refl _), Keeps.be hq4⟩
  | succ d ih =>
    intro word v w hl hwm hn hp hown hB hSb
    have hpl := hp.len
    obtain ⟨ga, gc, rfl⟩ := hp.slice
    obtain ⟨na, nc, rfl⟩ := hn.slice
    rw [natsI_len] at *
    rw [fullG_len] at *
    have hb0 : Below w.heap.size w (w.alloc (.cells #[.slice ga m gc] 27)) := (Below.refl _ _).alloc (Nat.le_refl _) _
    have c0 : (w.alloc (.cells #[.slice ga m gc] 27)).cell? ⟨w.heap.size, 0, none⟩ = some (.slice ga m gc) := by simp [go_sem]
    have hvi := Own.ints (xs := natsI word) (k := .i64) hown (by omega)
    have hla := l21Lacks_any (hvi.below hb0 (Nat.le_refl _)) (m := m) (by omega)
    have hel := emptyN_le m word
    have HNE : RowKit.Hid (H.length < word.length + emptyN m word → extB H H.length m word = false) := Lib.hid (fun h => extB_no (no_ext h))
    have HST := Lib.hid (ext_step (H := H) (m := m) (show word.length < H.length by omega))
    have HEY : RowKit.Hid (∀ k, k ≤ m → extB H H.length m (word ++ [k]) = true → extB H H.length m word = true) := Lib.hid (fun k hk h => extB_yes (HST.out.2 ⟨k, hk, extB_true h⟩))
    have HEN : RowKit.Hid ((∀ k, k < m + 1 → extB H H.length m (word ++ [k]) = false) → extB H H.length m word = false) := Lib.hid (fun h => extB_no (fun he => by
      obtain ⟨k, hk, hx⟩ := HST.out.1 he
      exact extB_false (h k (by omega)) hx))
    obtain ⟨va, vc, rfl⟩ := hown.isSlice
    have HOWN := Lib.hid hown
    have hw1 : IntKind.i64.wrap ((H.length : Int) - (word.length : Int)) = (H.length : Int) - (word.length : Int) := IntWalk.i64_in _ (by omega)
    have HSB := Lib.hid hSb
    clear hSb
    by_cases hpr : H.length < word.length + emptyN m word
    · have hz := HNE.out hpr
      have hg1 : decide ((H.length : Int) - (word.length : Int) < (emptyN m word : Int)) = true := decide_eq_true (by omega)
      unfold FindR
      rw [hz]
      clear HEY HEN HNE HST hz hown hvi ih hn hp
      go_enter Tryd.func125, Tryd.ntmps125
      go_wp2_with fail
      refine hla.mono ?_
      rintro e w1 ⟨rfl, hd1⟩
      have hbx := (hb0.trans (hd1.below _)).alloc (hb0.trans (hd1.below _)).size (.cells #[] 2)
      go_wp2
      refine bodyPost_ret (v := .tuple #[.slice (some ⟨w1.heap.size, 0, none⟩) 0 0, .bool false]) (by simp [results, Tryd.results125, go_sem]) rfl ⟨_, rfl, fun h => (by cases h), HOWN.out.below hbx (Nat.le_refl _), Keeps.be hbx⟩
    have hg1 : decide ((H.length : Int) - (word.length : Int) < (emptyN m word : Int)) = false := decide_eq_false (by omega)
    have hq1 : ((word.length : Int) == (H.length : Int)) = false := by rw [beq_eq_false_iff_ne]; omega
    have hq2 : (word.length == H.length) = false := by rw [beq_eq_false_iff_ne]; omega
    have HN := Lib.hid hn
    have HP := Lib.hid hp
    have HIH := Lib.hid ih
    have HWM := Lib.hid hwm
    have HL := Lib.hid hl
    have HE0 : RowKit.Hid (∀ k, k < 0 → extB H H.length m (word ++ [k]) = false) := Lib.hid (fun _ h => by omega)
    clear hn hp ih hwm hown hvi HST HNE
    go_enter Tryd.func125, Tryd.ntmps125
    go_wp2_with fail
    refine hla.mono ?_
    rintro e w1 ⟨rfl, hd1⟩
    have hbw := hb0.trans (hd1.below _)
    have c1 := (hd1.cell _).trans c0
    have ho1 := HOWN.out.below hbw (Nat.le_refl _)
    have hk1 : Keeps (fun b => (Value.slice va word.length vc).ownBlock = some b) w w1 := Keeps.be hbw
    clear hla c0
    go_wp2
    go_loopw [9] (fun kv wr => ∃ k : Nat, k ≤ m + 1 ∧ kv = .int .i64 k ∧ RowKit.Hid (∀ j, j < k → extB H H.length m (word ++ [j]) = false) ∧ Own wr B 2 1 (.slice va word.length vc) word.length ((natsI word).map (.int .i64)) ∧ Keeps (fun b => (Value.slice va word.length vc).ownBlock = some b) w wr ∧ wr.cell? ⟨w.heap.size, 0, none⟩ = some (.slice ga m gc)) (fun kv _ => m + 1 - (intOf kv).toNat)
    case atStart => exact ⟨0, Nat.zero_le _, rfl, HE0, ho1, hk1, c1⟩
    case round =>
      clear HE0 ho1 hk1 c1
      obtain ⟨k, hk, rfl, HEk, ho, hkp, cg⟩ := hrel
      by_cases hlt : k < m + 1
      case neg =>
        obtain rfl : k = m + 1 := by omega
        have HT := Lib.hid (HEN.out HEk.out)
        have hbx : Below wr.heap.size wr (wr.alloc (.cells #[] 2)) := (Below.refl _ _).alloc (Nat.le_refl _) _
        go_wp2
        refine bodyPost_ret (v := .tuple #[.slice (some ⟨wr.heap.size, 0, none⟩) 0 0, .bool false]) (by simp [results, Tryd.results125, go_sem]) rfl ⟨_, by rw [HT.out], fun h => (by rw [HT.out] at h; cases h), ho.below hbx (Nat.le_refl _), hkp.tr (Keeps.be hbx)⟩
      have hks := hkp.size
      have hlow := fun b hb => hkp.block b (HSB.out b hb).1 (fun e => (HSB.out b hb).2 e)
      have hnw := HN.out.keep hlow
      have hpw := HP.out.keep hlow
      have hih := fun v w => HIH.out (word ++ [k]) v w (by have := HL.out; rw [List.length_append, List.length_singleton]; omega) (fun x hx => by
        rcases List.mem_append.1 hx with h | h
        · exact HWM.out x h
        · rw [List.mem_singleton] at h; omega)
      rw [List.length_append, List.length_singleton] at hih
      have HAP := Lib.hid (show (natsI (word ++ [k])).map (Value.int .i64) = (natsI word).map (Value.int .i64) ++ [.int .i64 (k : Int)] by simp [natsI])
      have HXL := Lib.hid (show ((natsI word).map (Value.int .i64)).length = word.length by rw [List.length_map, natsI_len])
      have hll : word.length ≤ 8 := by have := HL.out; omega
      have hBr : B ≤ wr.heap.size := by omega
      obtain ⟨wi, rfl⟩ : ∃ wi : World, wi = wr := ⟨_, rfl⟩
      have hbne : ∀ b, (Value.slice va word.length vc).ownBlock = some b → b ≠ w.heap.size := fun b hb => by have := (HOWN.out.lt b hb).2; omega
      have HBN := Lib.hid hbne
      clear hbne
      go_wp2
      refine wp_region_late (S := (fun w' => w'.cell? ⟨w.heap.size, 0, none⟩ = some (.slice ga m gc))) (late := []) (by kernel_rfl) ?_ (fun hHeld => ?_)
      · first | assumption | exact hHeld | (simp [*, go_sem])
      have hdw : Drawn wi wi.drew := (Drawn.refl _).drew
      generalize wi.drew = wd at hdw hHeld ⊢
      have hod := ho.drawn hdw
      have HDE := Lib.hid (show wd.heap.size = wi.heap.size by rw [hdw.heap])
      refine wpLate_take (i := 0) (v := ?v28) (by simp only [List.getElem?_toArray, List.getElem?_cons_zero]; exact rfl) (by kernel_rfl) (by kernel_rfl) (by kernel_rfl) (by intro _ _ _ h; exact h) (Or.inl ⟨by rfl, ?y28⟩) ?_
      case y28 => (intro w _; go_simp; try (with_reducible rfl))
      try simp only [Act.put, List.setIfInBounds_toArray, List.set_cons_zero, List.set_cons_succ]
      refine wpLate_load (i := 1) (v := ?v29) (by simp only [List.getElem?_toArray, List.getElem?_cons_succ, List.getElem?_cons_zero]; exact rfl) (by kernel_rfl) (by kernel_rfl) (by kernel_rfl) (by kernel_rfl) (by intro _ _ _ h; exact h) (Or.inl ⟨by rfl, ?y29⟩) hHeld ?_
      case y29 => (intro w hSw; (try dsimp only at hSw); go_simp; try (with_reducible rfl))
      try simp only [Act.put, List.setIfInBounds_toArray, List.set_cons_zero, List.set_cons_succ]
      refine wpLate_take (i := 2) (v := ?v30) (by simp only [List.getElem?_toArray, List.getElem?_cons_succ, List.getElem?_cons_zero]; exact rfl) (by kernel_rfl) (by kernel_rfl) (by kernel_rfl) (by intro _ _ _ h; exact h) (Or.inl ⟨by rfl, ?y30⟩) ?_
      case y30 => (intro w _; go_simp; try (with_reducible rfl))
      try simp only [Act.put, List.setIfInBounds_toArray, List.set_cons_zero, List.set_cons_succ]
      refine wpLate_take (i := 3) (v := ?v31) (by simp only [List.getElem?_toArray, List.getElem?_cons_succ, List.getElem?_cons_zero]; exact rfl) (by kernel_rfl) (by kernel_rfl) (by kernel_rfl) (by intro _ _ _ h; exact h) (Or.inl ⟨by rfl, ?y31⟩) ?_
      case y31 => (intro w _; go_simp; try (with_reducible rfl))
      try simp only [Act.put, List.setIfInBounds_toArray, List.set_cons_zero, List.set_cons_succ]
      refine wpLate_one (i := 4) (by kernel_rfl) (by simp only [List.getElem?_toArray, List.getElem?_cons_succ, List.getElem?_cons_zero]; exact rfl) (by kernel_rfl) (fun K hK => ?_)
      go_simp
      have hbb : Below wi.heap.size wi (wd.alloc (.cells #[.int .i64 (k : Int)] 2)) := (hdw.below _).alloc (by rw [HDE.out]; exact Nat.le_refl _) _
      have p1 := (hbb.cell (cell_lt cg)).trans cg
      try dsimp only
      refine hK.out _ _ ?h32 (fun hHeld => ?_)
      case h32 => first | assumption | exact hHeld | (simp [*, go_sem])
      clear hK K
      try simp only [Act.put, List.setIfInBounds_toArray, List.set_cons_zero, List.set_cons_succ]
      refine wpLate_one (i := 5) (by kernel_rfl) (by simp only [List.getElem?_toArray, List.getElem?_cons_succ, List.getElem?_cons_zero]; exact rfl) (by kernel_rfl) (fun K hK => ?_)
      rw [if_pos (by rfl)]
      refine opWp_append1C elI64 _ _ rfl hod rfl rfl rfl rfl (by omega) (by have := HDE.out; omega) ?_
      intro v3 w3 ho3 hk3 hmv3
      have p2 := (World.cell?_of_block (a := ⟨w.heap.size, 0, none⟩) (hk3.2.2.2.2 w.heap.size (cell_lt p1) (fun e => HBN.out _ e.symm rfl))).trans p1
      obtain ⟨xa, xc, rfl⟩ := ho3.isSlice
      rw [← HAP.out] at ho3
      have hkA : Keeps (fun b => (Value.slice va word.length vc).ownBlock = some b) wi w3 := (Keeps.be hbb).tr ⟨hk3.1, hk3.2.1, hk3.2.2.1, hk3.2.2.2.1, fun b hb hF => hk3.2.2.2.2 b hb (fun e => hF e.symm)⟩
      have hB3 : B ≤ w3.heap.size := (by have := hkA.size; omega)
      have hlow3 := (fun b hb => (hkp.tr hkA).block b (HSB.out b hb).1 (fun e => (HSB.out b hb).2 e))
      have hfi := hih _ w3 (HN.out.keep hlow3) (HP.out.keep hlow3) ho3 hB3 (find_off hmv3 hkp.size (hbb.size) hkA.size HSB.out)
      try dsimp only
      refine hK.out _ _ ?h33 (fun hHeld => ?_)
      case h33 => first | assumption | exact hHeld | (simp [*, go_sem])
      clear hK K
      try simp only [Act.put, List.setIfInBounds_toArray, List.set_cons_zero, List.set_cons_succ]
      refine wpLate_one (i := 6) (by kernel_rfl) (by simp only [List.getElem?_toArray, List.getElem?_cons_succ, List.getElem?_cons_zero]; exact rfl) (by kernel_rfl) (fun K hK => ?_)
      go_simp
      with_reducible refine hfi.mono ?_
      rintro e w4 ⟨x, rfl, hxt, ho4, hk4⟩
      rw [List.length_append, List.length_singleton, HAP.out] at ho4
      obtain ⟨hoB, hkB⟩ := find_back ho hbb hk3 hmv3 ho4 hk4 HXL.out
      have p3 := (World.cell?_of_block (a := ⟨w.heap.size, 0, none⟩) (hkB.block w.heap.size (cell_lt cg) (fun e => HBN.out _ e rfl))).trans cg
      try dsimp only
      refine hK.out _ _ ?h34 (fun hHeld => ?_)
      case h34 => first | assumption | exact hHeld | (simp [*, go_sem])
      clear hK K
      try simp only [Act.put, List.setIfInBounds_toArray, List.set_cons_zero, List.set_cons_succ]
      refine wpLate_take (i := 7) (v := ?v35) (by simp only [List.getElem?_toArray, List.getElem?_cons_succ, List.getElem?_cons_zero]; exact rfl) (by kernel_rfl) (by kernel_rfl) (by kernel_rfl) (by intro _ _ _ h; exact h) (Or.inl ⟨by rfl, ?y35⟩) ?_
      case y35 => (intro w _; go_simp; try (with_reducible rfl))
      try simp only [Act.put, List.setIfInBounds_toArray, List.set_cons_zero, List.set_cons_succ]
      refine wpLate_take (i := 8) (v := ?v36) (by simp only [List.getElem?_toArray, List.getElem?_cons_succ, List.getElem?_cons_zero]; exact rfl) (by kernel_rfl) (by kernel_rfl) (by kernel_rfl) (by intro _ _ _ h; exact h) (Or.inl ⟨by rfl, ?y36⟩) ?_
      case y36 => (intro w _; go_simp; try (with_reducible rfl))
      try simp only [Act.put, List.setIfInBounds_toArray, List.set_cons_zero, List.set_cons_succ]
      refine wpLate_take (i := 9) (v := ?v37) (by simp only [List.getElem?_toArray, List.getElem?_cons_succ, List.getElem?_cons_zero]; exact rfl) (by kernel_rfl) (by kernel_rfl) (by kernel_rfl) (by intro _ _ _ h; exact h) (Or.inl ⟨by rfl, ?y37⟩) ?_
      case y37 => (intro w _; go_simp; try (with_reducible rfl))
      try simp only [Act.put, List.setIfInBounds_toArray, List.set_cons_zero, List.set_cons_succ]
      refine wpLate_take (i := 10) (v := ?v38) (by simp only [List.getElem?_toArray, List.getElem?_cons_succ, List.getElem?_cons_zero]; exact rfl) (by kernel_rfl) (by kernel_rfl) (by kernel_rfl) (by intro _ _ _ h; exact h) (Or.inl ⟨by rfl, ?y38⟩) ?_
      case y38 => (intro w _; go_simp; try (with_reducible rfl))
      try simp only [Act.put, List.setIfInBounds_toArray, List.set_cons_zero, List.set_cons_succ]
      refine wpLate_take (i := 11) (v := ?v39) (by simp only [List.getElem?_toArray, List.getElem?_cons_succ, List.getElem?_cons_zero]; exact rfl) (by kernel_rfl) (by kernel_rfl) (by kernel_rfl) (by intro _ _ _ h; exact h) (Or.inl ⟨by rfl, ?y39⟩) ?_
      case y39 => (intro w _; go_simp; try (with_reducible rfl))
      try simp only [Act.put, List.setIfInBounds_toArray, List.set_cons_zero, List.set_cons_succ]
      refine wpLate_done (by kernel_rfl) ?_ _
      have hkT := hkp.tr hkB
      have HXT := Lib.hid hxt
      have HEYk := Lib.hid (HEY.out k (by omega))
      have HEk2 : RowKit.Hid (extB H H.length m (word ++ [k]) = false → ∀ j, j < k + 1 → extB H H.length m (word ++ [j]) = false) := Lib.hid (fun h j hj => by
        by_cases e : j = k
        · subst e; exact h
        · exact HEk.out j (by omega))
      clear hxt hk4 ho4 hHeld hfi hmv3 hk3 ho3
      generalize extB H H.length m (word ++ [k]) = xb at *
      cases xb with
      | true =>
        have hz := HEYk.out rfl
        go_wp2
        refine bodyPost_ret (v := .tuple #[x, .bool true]) (by simp [results, Tryd.results125, go_sem]) rfl ⟨_, by rw [hz], fun _ => HXT.out (by trivial), hoB, hkT⟩
      | false =>
        have HE3 := Lib.hid (HEk2.out rfl)
        clear HEYk HEk2 HXT
        go_wp2
        go_roundw
        case rel => exact ⟨k + 1, by omega, by go_num, HE3, hoB, hkT, p3⟩
        case measure => simp [intOf]; omega
theorem bits_first {n : Nat} (hn : n ≤ 16) : bitsI (firstN n) = natsI (List.range n) := by
  have hf := firstN_lt hn
  refine sorted_ext (bitsI_sorted _) ?_ fun x => ?_
  · unfold natsI
    rw [List.pairwise_map]
    exact List.pairwise_lt_range.imp (fun h => by omega)
  · rw [mem_bitsI (by omega), testBit_firstN, decide_eq_true_eq]
    unfold natsI
    simp only [List.mem_map, List.mem_range]
    constructor
    · rintro ⟨h1, h2⟩
      exact ⟨x.toNat, h2, by omega⟩
    · rintro ⟨y, h1, rfl⟩
      exact ⟨by omega, by omega⟩
theorem bits_oth {n v : Nat} (hn : n ≤ 16) (hv : v < 32) : bitsI (andN (firstN n) (bit v)) = natsI (othL n v) := by
  have hf := firstN_lt hn
  refine sorted_ext (bitsI_sorted _) ?_ fun x => ?_
  · unfold natsI othL
    rw [List.pairwise_map]
    exact (List.pairwise_lt_range.filter _).imp (fun h => by omega)
  · rw [mem_bitsI (Nat.lt_of_le_of_lt (andN_le _ _) (by omega)), testBit_andN (by omega) (bit_lt hv), testBit_firstN, testBit_bit]
    unfold natsI
    simp only [List.mem_map, mem_othL, Bool.and_eq_true, decide_eq_true_eq, Bool.not_eq_true', decide_eq_false_iff_not]
    constructor
    · rintro ⟨h1, h2, h3⟩
      exact ⟨x.toNat, ⟨h2, fun e => h3 e.symm⟩, by omega⟩
    · rintro ⟨y, ⟨h1, h2⟩, rfl⟩
      exact ⟨by omega, by omega, by omega⟩
set_option maxRecDepth 100000 in
set_option maxHeartbeats 8000000 in
theorem l21Full_any {n : Nat} {w : World} (hn : n ≤ 16) :
    Calls Tryd.prog 59 #[.int .i64 (n : Int)] w fun e w' => ∃ u, e = .returned (.agg #[u]) ∧ OwnR w' w.heap.size w'.heap.size 51 2 u (fullG n) ∧ Below w.heap.size w w' := by
  obtain ⟨W, hW⟩ : ∃ W, W = ((w.alloc (.cells #[.slice none 0 0] 27)).alloc (.cells #[.slice none 0 0] 27)) := ⟨_, rfl⟩
  have hq0 : Below w.heap.size w W := by rw [hW]; exact ((Below.refl _ _).alloc (Nat.le_refl _) _).alloc (by simp) _
  have hr0 : Own W w.heap.size 27 1 (.slice (some ⟨w.heap.size, 0, none⟩) 1 1) 1 [.slice none 0 0] := by
    rw [hW]
    exact (own_new w w.heap.size 27 (.slice none 0 0) (Nat.le_refl _)).alloc (.cells #[.slice none 0 0] 27)
  have ho0 : Own W w.heap.size 27 1 (.slice (some ⟨w.heap.size + 1, 0, none⟩) 1 1) 1 [.slice none 0 0] := by
    rw [hW]
    have h := own_new (w.alloc (.cells #[.slice none 0 0] 27)) w.heap.size 27 (.slice none 0 0) (by simp)
    rw [show (w.alloc (.cells #[.slice none 0 0] 27)).heap.size = w.heap.size + 1 by simp] at h
    exact h
  have hS0 : OwnR W (w.heap.size + 2) W.heap.size 51 2 (.slice none 0 0) [] := ⟨[], rfl, Own.nil _ _ _ _, fun b hb => by simp [Value.ownBlock] at hb, ApartL.nil, fun i hi => by simp at hi⟩
  have hz0 : w.heap.size + 2 ≤ W.heap.size := by rw [hW]; simp
  have hfl := fullG_len n
  have HG := Lib.hid (fun k (hk : k < n) => show (fullG n).take (k + 1) = (fullG n).take k ++ [natsI (othL n k)] from by
    rw [List.take_succ_eq_append_getElem (by rw [hfl]; exact hk), fullG_get])
  have HF := Lib.hid hfl
  have hWW := Lib.hid hW
  clear hW hfl
  go_enter Tryd.func59, Tryd.ntmps59
  go_wp2
  rw [← hWW.out]
  go_loopw [4] (fun i wr => ∃ (k : Nat) (o : Value), k ≤ n ∧ i = .int .i64 k ∧ OwnR wr (w.heap.size + 2) wr.heap.size 51 2 o ((fullG n).take k) ∧ Own wr w.heap.size 27 1 (.slice (some ⟨w.heap.size, 0, none⟩) 1 1) 1 [.slice none 0 0] ∧ Own wr w.heap.size 27 1 (.slice (some ⟨w.heap.size + 1, 0, none⟩) 1 1) 1 [o] ∧ Below w.heap.size w wr ∧ w.heap.size + 2 ≤ wr.heap.size) (fun i _ => n - (RowKit.intOf i).toNat)
  case atStart => exact ⟨0, _, Nat.zero_le _, rfl, by rw [List.take_zero]; exact hS0, hr0, ho0, hq0, hz0⟩
  case round =>
    clear hS0 hr0 ho0 hq0 hz0
    obtain ⟨k, o, hk, rfl, hS, hr, ho, hq, hsz⟩ := hrel
    obtain ⟨wi, rfl⟩ : ∃ wx : World, wx = wr := ⟨_, rfl⟩
    have hlen : ((fullG n).take k).length = k := by rw [List.length_take, HF.out]; omega
    obtain ⟨o1, o2, -, o3⟩ := own_cell ho
    obtain ⟨r1, r2, -, r3⟩ := own_cell hr
    obtain ⟨oa, oc, rfl⟩ := hS.isSlice
    rw [hlen] at hS ho o1
    have HLN := Lib.hid hlen
    clear hlen
    by_cases hlt : k < n
    case neg =>
      obtain rfl : k = n := by omega
      have HT := Lib.hid (show (fullG k).take k = fullG k from List.take_of_length_le (by rw [HF.out]; exact Nat.le_refl _))
      go_wp2
      refine bodyPost_ret (v := .agg #[.slice oa k oc]) (by simp [results, Tryd.results59, go_sem, r1]) rfl ⟨_, rfl, ?_, hq.setCell (by simp) _⟩
      have h6 := (hS.setOther hr (by decide) (by decide) (.slice oa k oc)).weaken (B1 := w.heap.size) (C1 := (wi.setCell ⟨w.heap.size, 0, none⟩ (.slice oa k oc)).heap.size) (by omega) (by simp)
      rw [HT.out] at h6
      exact h6
    have HGK := Lib.hid (HG.out k hlt)
    have hrl := othL_len n k
    clear r1 r2 r3 o2 o3
    have HBO := Lib.hid (bits_oth (n := n) (v := k) hn (by omega))
    have HBF := Lib.hid (bits_first hn)
    have hf32 := firstN_lt hn
    generalize othL n k = l at *
    have hnl : (natsI l).length = l.length := natsI_len l
    have HNL := Lib.hid hnl
    clear hnl
    go_wp2
    refine wp_region_late (S := (fun w' => w'.cell? ⟨w.heap.size + 1, 0, none⟩ = some (.slice oa k oc))) (late := [9]) (by kernel_rfl) ?_ (fun hHeld => ?_)
    · first | exact ‹_› | (simp [*, go_sem])
    have hdw : Drawn wi wi.drew := (Drawn.refl _).drew
    generalize wi.drew = wd at hdw hHeld ⊢
    have hde : wd.heap.size = wi.heap.size := (by rw [hdw.heap])
    refine wpLate_take (i := 0) (v := ?v40) (by simp only [List.getElem?_toArray, List.getElem?_cons_zero]; exact rfl) (by kernel_rfl) (by kernel_rfl) (by kernel_rfl) (by intro _ _ _ h; exact h) (Or.inl ⟨by rfl, ?y40⟩) ?_
    case y40 => (intro w _; go_simp; try (with_reducible rfl))
    try simp only [Act.put, List.setIfInBounds_toArray, List.set_cons_zero, List.set_cons_succ]
    refine wpLate_load (i := 1) (v := ?v41) (by simp only [List.getElem?_toArray, List.getElem?_cons_succ, List.getElem?_cons_zero]; exact rfl) (by kernel_rfl) (by kernel_rfl) (by kernel_rfl) (by kernel_rfl) (by intro _ _ _ h; exact h) (Or.inl ⟨by rfl, ?y41⟩) hHeld ?_
    case y41 => (intro w hSw; (try dsimp only at hSw); go_simp; try (with_reducible rfl))
    try simp only [Act.put, List.setIfInBounds_toArray, List.set_cons_zero, List.set_cons_succ]
    refine wpLate_take (i := 2) (v := ?v42) (by simp only [List.getElem?_toArray, List.getElem?_cons_succ, List.getElem?_cons_zero]; exact rfl) (by kernel_rfl) (by kernel_rfl) (by kernel_rfl) (by intro _ _ _ h; exact h) (Or.inl ⟨by rfl, ?y42⟩) ?_
    case y42 => (intro w _; go_simp; try (with_reducible rfl))
    try simp only [Act.put, List.setIfInBounds_toArray, List.set_cons_zero, List.set_cons_succ]
    refine wpLate_take (i := 4) (v := ?v43) (by simp only [List.getElem?_toArray, List.getElem?_cons_succ, List.getElem?_cons_zero]; exact rfl) (by kernel_rfl) (by kernel_rfl) (by kernel_rfl) (by intro _ _ _ h; exact h) (Or.inl ⟨by rfl, ?y43⟩) ?_
    case y43 => (intro w _; go_simp; try (with_reducible rfl))
    try simp only [Act.put, List.setIfInBounds_toArray, List.set_cons_zero, List.set_cons_succ]
    refine wpLate_one (i := 3) (by kernel_rfl) (by simp only [List.getElem?_toArray, List.getElem?_cons_succ, List.getElem?_cons_zero]; exact rfl) (by kernel_rfl) (fun K hK => ?_)
    go_simp
    refine (l1All_any hn).mono ?_
    rintro e w2 ⟨y, rfl, hy, hb2⟩
    have hyi := Own.ints (xs := natsI (List.range n)) (k := .i64) hy (by rw [natsI_len, List.length_range]; omega)
    rw [← HBF.out] at hyi
    have p0 := (hb2.cell (cell_lt hHeld)).trans hHeld
    try dsimp only
    refine hK.out _ _ ?h44 (fun hHeld => ?_)
    case h44 => first | exact ‹_› | (simp [*, go_sem])
    clear hK K
    try simp only [Act.put, List.setIfInBounds_toArray, List.set_cons_zero, List.set_cons_succ]
    refine wpLate_one (i := 5) (by kernel_rfl) (by simp only [List.getElem?_toArray, List.getElem?_cons_succ, List.getElem?_cons_zero]; exact rfl) (by kernel_rfl) (fun K hK => ?_)
    go_simp
    refine (l19Less_any hyi (by omega) (by omega)).mono ?_
    rintro e w3 ⟨xc, rfl, hxc0, hb30⟩
    have hb3 := hb2.trans (hb30.mono hb2.size)
    have hxc : Own w3 wd.heap.size 2 1 xc (natsI l).length ((natsI l).map (.int .i64)) := (by rw [← HBO.out]; exact Own.weak hxc0 hb2.size)
    have hqd := hq.trans (hdw.below _)
    have hq3 := hqd.trans (hb3.mono hqd.size)
    have hSd := hS.below (hdw.below wi.heap.size) (Nat.le_refl _)
    have hS3 := hSd.below (hb3.mono (Nat.le_refl _)) (by rw [hdw.heap]; exact Nat.le_refl _)
    have ho3 := (ho.drawn hdw).below hb3 (Nat.le_refl _)
    have hr3 := (hr.drawn hdw).below hb3 (Nat.le_refl _)
    obtain ⟨p1, p2, -, p3⟩ := own_cell ho3
    obtain ⟨xa, xcap, rfl⟩ := hxc.isSlice
    have hsz3 : w.heap.size + 2 ≤ wd.heap.size := (by rw [hdw.heap]; exact hsz)
    try dsimp only
    refine hK.out _ _ ?h45 (fun hHeld => ?_)
    case h45 => first | exact ‹_› | (simp [*, go_sem])
    clear hK K
    try simp only [Act.put, List.setIfInBounds_toArray, List.set_cons_zero, List.set_cons_succ]
    refine wpLate_one (i := 6) (by kernel_rfl) (by simp only [List.getElem?_toArray, List.getElem?_cons_succ, List.getElem?_cons_zero]; exact rfl) (by kernel_rfl) (fun K hK => ?_)
    go_simp
    have hbb : Below w3.heap.size w3 (w3.alloc (.cells #[.slice xa (natsI l).length xcap] 51)) := (Below.refl _ _).alloc (Nat.le_refl _) _
    have p1b := (hbb.cell (cell_lt p1)).trans p1
    rw [HNL.out] at p1b hbb
    try dsimp only
    refine hK.out _ _ ?h46 (fun hHeld => ?_)
    case h46 => first | exact ‹_› | (simp [*, go_sem])
    clear hK K
    try simp only [Act.put, List.setIfInBounds_toArray, List.set_cons_zero, List.set_cons_succ]
    refine wpLate_one (i := 7) (by kernel_rfl) (by simp only [List.getElem?_toArray, List.getElem?_cons_succ, List.getElem?_cons_zero]; exact rfl) (by kernel_rfl) (fun K hK => ?_)
    rw [if_pos (by rfl)]
    obtain ⟨vs, hvl, hown, hbC, hap, hrows⟩ := hS3
    rw [HLN.out] at hvl hown
    refine opWp_append1S elRows _ _ rfl hown rfl rfl rfl rfl (by omega) (by have := hb3.size; omega) ?_
    intro o5 w5 hown5 hkept hmv
    have hS5 : OwnR w5 (w.heap.size + 2) w5.heap.size 51 2 o5 ((fullG n).take k ++ [natsI l]) := ownR_snoc (C := wi.heap.size) (v := .slice xa (natsI l).length xcap) (by rw [HLN.out]; exact hvl) (by have := hb3.size; omega) hap hrows hbC (by rw [HLN.out]; simpa [HNL.out] using hown5) (hxc.weak hsz3) (fun b hb => by have := hxc.ge b hb; omega) hkept (hmv.elim Or.inl (fun h => Or.inr ⟨_, h, by simp⟩))
    have ho5 := ho3.otherT hown (by decide) hkept
    have hr5 := hr3.otherT hown (by decide) hkept
    have hq5 := hkept.below hq3 hq3.size (fun b hb => by have := (hown.lt b hb).1; omega)
    obtain ⟨p1, p2, -, p3⟩ := own_cell ho5
    obtain ⟨oa5, oc5, rfl⟩ := hown5.isSlice
    try dsimp only
    refine hK.out _ _ ?h47 (fun hHeld => ?_)
    case h47 => first | exact ‹_› | (simp [*, go_sem])
    clear hK K
    try simp only [Act.put, List.setIfInBounds_toArray, List.set_cons_zero, List.set_cons_succ]
    refine wpLate_take (i := 8) (v := ?v48) (by simp only [List.getElem?_toArray, List.getElem?_cons_succ, List.getElem?_cons_zero]; exact rfl) (by kernel_rfl) (by kernel_rfl) (by kernel_rfl) (by intro _ _ _ h; exact h) (Or.inl ⟨by rfl, ?y48⟩) ?_
    case y48 => (intro w _; go_simp; try (with_reducible rfl))
    try simp only [Act.put, List.setIfInBounds_toArray, List.set_cons_zero, List.set_cons_succ]
    refine wpLate_late (i := 9) (by kernel_rfl) (by simp only [List.getElem?_toArray, List.getElem?_cons_succ, List.getElem?_cons_zero]; exact rfl) (by kernel_rfl) (fun K hK => ?_)
    go_simp
    skip
    try dsimp only
    refine hK.out _ _ ?_
    clear hK K
    try simp only [Act.put, List.setIfInBounds_toArray, List.set_cons_zero, List.set_cons_succ]
    refine wpLate_done (by kernel_rfl) ?_ _
    have ho6 := own_set ho5 (.slice oa5 (k + 1) oc5)
    have hr6 : Own (w5.setCell ⟨w.heap.size + 1, 0, none⟩ (.slice oa5 (k + 1) oc5)) w.heap.size 27 1 (.slice (some ⟨w.heap.size, 0, none⟩) 1 1) 1 [.slice none 0 0] := hr5.keep (fun b hb => Below.heap_setCell _ _ _ _ (by have : w.heap.size = b := (by simpa [Value.ownBlock] using hb); simp; omega))
    have hS6 : OwnR (w5.setCell ⟨w.heap.size + 1, 0, none⟩ (.slice oa5 (k + 1) oc5)) (w.heap.size + 2) (w5.setCell ⟨w.heap.size + 1, 0, none⟩ (.slice oa5 (k + 1) oc5)).heap.size 51 2 (.slice oa5 (k + 1) oc5) ((fullG n).take k ++ [natsI l]) := (hS5.setOther ho5 (by decide) (by decide) (.slice oa5 (k + 1) oc5)).weaken (Nat.le_refl _) (by simp)
    have hq6 : Below w.heap.size w (w5.setCell ⟨w.heap.size + 1, 0, none⟩ (.slice oa5 (k + 1) oc5)) := hq5.setCell (by first | (simp; done) | (simp; omega)) _
    have hz6 : w.heap.size + 2 ≤ (w5.setCell ⟨w.heap.size + 1, 0, none⟩ (.slice oa5 (k + 1) oc5)).heap.size := by have := hkept.2.2.2.1; have := hbb.size; have := hb3.size; simp at *; omega
    generalize w5.setCell ⟨w.heap.size + 1, 0, none⟩ (.slice oa5 (k + 1) oc5) = w6 at *
    go_wp2
    go_roundw
    case rel => exact ⟨k + 1, _, by omega, by go_num, by rw [HGK.out]; exact hS6, hr6, ho6, hq6, hz6⟩
    case measure => simp [RowKit.intOf]; omega
/-- A row that grew by one, in its block or in a new one. -/
theorem ownR_app {w w2 : World} {B C ab n c k : Nat} {EO EI : TypeId} {g : List (List Int)} {x : Int} {v v' : Value} {N : Nat} (h : OwnR w B C EO EI (.slice (some ⟨ab, 0, none⟩) n c) g) (hk : k < g.length) (hC : C ≤ w.heap.size) (hcell : w.cell? ⟨ab, k, none⟩ = some v) (hkept : KeptBut w w2 v.ownBlock)
    (hown : Own w2 B EI 1 v' (g[k].length + 1) ((g[k] ++ [x]).map (.int .i64))) (hmv : v'.ownBlock = v.ownBlock ∨ v'.ownBlock = some N) (hN : w.heap.size ≤ N) : OwnR (w2.setCell ⟨ab, k, none⟩ v') B w2.heap.size EO EI (.slice (some ⟨ab, 0, none⟩) n c) (g.set k (g[k] ++ [x])) := by
  obtain ⟨vs, h1, h2, h3, hap, h4⟩ := h
  obtain ⟨a, cc, hn⟩ := h2.isSlice
  simp only [Value.slice.injEq] at hn
  obtain ⟨-, rfl, -⟩ := hn
  have hkv : k < vs.length := by omega
  have hv : vs[k] = v := by
    have e := (World.ownsRow.cellAt h2 k (by omega)).symm.trans hcell
    simpa [hkv] using e
  subst hv
  have hrow := h4 k hk hkv
  have hab : B ≤ ab ∧ ab < w.heap.size := h2.lt ab rfl
  have hsz := hkept.2.2.2.1
  have hset : ∀ b, b ≠ ab → (w2.setCell ⟨ab, k, none⟩ v').heap[b]? = w2.heap[b]? := fun b hb => Below.heap_setCell _ _ _ _ (by simpa using hb)
  have hvne : ∀ b, v'.ownBlock = some b → b ≠ ab := fun b hb e => by
    rcases hmv with h | h
    · exact (hrow.2 b (by rw [← h]; exact hb)).2 (by rw [e]; rfl)
    · rw [h] at hb; have : N = b := by simpa using hb
      omega
  have hab2 := h2.kept hkept (fun b hb he => (hrow.2 b he).2 hb)
  refine ⟨vs.set k v', by simp [h1], ?_, fun b hb => ?_, ?_, fun i hi hi2 => ?_⟩
  · rw [List.length_set]
    exact hab2.stored k v'
  · have : ab = b := by simpa [Value.ownBlock] using hb
    omega
  · intro i j hi hj b hb1 hb2
    rw [List.length_set] at hi hj
    rw [List.getElem_set] at hb1 hb2
    by_cases ei : k = i <;> by_cases ej : k = j
    · omega
    · rw [if_pos ei] at hb1; rw [if_neg ej] at hb2
      rcases hmv with h | h
      · rw [h] at hb1
        exact absurd (hap k j hkv hj b hb1 hb2) ej
      · rw [h] at hb1
        have h6 := ((h4 j (by omega) hj).2 b hb2).1
        have : N = b := by simpa using hb1
        omega
    · rw [if_neg ei] at hb1; rw [if_pos ej] at hb2
      rcases hmv with h | h
      · rw [h] at hb2
        exact absurd (hap k i hkv hi b hb2 hb1) ei
      · rw [h] at hb2
        have h6 := ((h4 i (by omega) hi).2 b hb1).1
        have : N = b := by simpa using hb2
        omega
    · rw [if_neg ei] at hb1; rw [if_neg ej] at hb2
      exact hap i j hi hj b hb1 hb2
  · rw [List.length_set] at hi hi2
    by_cases e : k = i
    · subst e
      rw [List.getElem_set_self, List.getElem_set_self]
      refine ⟨?_, fun b hb => ⟨(hown.lt b hb).2, fun he => hvne b hb ?_⟩⟩
      rotate_left
      · have : ab = b := by simpa [Value.ownBlock] using he
        exact this.symm
      rw [List.length_append, List.length_singleton]
      exact hown.keep fun b hb => hset b (hvne b hb)
    · rw [List.getElem_set_ne e, List.getElem_set_ne e]
      obtain ⟨h5, h6⟩ := h4 i hi hi2
      refine ⟨(h5.kept hkept (fun b hb he => e (hap k i hkv hi2 b he hb))).keep fun b hb => hset b (fun he => (h6 b hb).2 (by rw [he]; rfl)), fun b hb => ⟨?_, (h6 b hb).2⟩⟩
      have := (h6 b hb).1; omega
theorem nets_symM {g : List (List Int)} (hg : GOk g) : ∀ x y, x < g.length → y < g.length → ((netsL g).getD x 0).testBit y = true → ((netsL g).getD y 0).testBit x = true := fun x y hx hy h => by
  have h1 := left_bit hg [] hx y
  have h2 := left_bit hg [] hy x
  rw [leftN_start] at h1 h2
  rw [h1] at h
  rw [h2]
  unfold freeB at *
  simp only [List.not_mem_nil, decide_false, Bool.not_false, Bool.and_true, decide_eq_true_eq] at *
  exact (hg.symD hx h).2.1
theorem full_masks {n : Nat} (hn : n ≤ 16) : fullG n = ((List.range n).map fun i => andN (firstN n) (bit i)).map bitsI := by
  unfold fullG
  rw [List.map_map]
  exact List.map_congr_left fun i hi => (bits_oth hn (by have := List.mem_range.1 hi; omega)).symm
theorem full_gok {n : Nat} (h1 : 1 ≤ n) (hn : n ≤ 16) : GOk (fullG n) := by
  have hf := firstN_lt hn
  have hg : ∀ x, x < n → ((List.range n).map fun i => andN (firstN n) (bit i)).getD x 0 = andN (firstN n) (bit x) := fun x hx => by simp [hx]
  have hb : ∀ x y, x < n → ((andN (firstN n) (bit x)).testBit y = true ↔ y < n ∧ y ≠ x) := fun x y hx => by
    rw [testBit_andN (by omega) (bit_lt (by omega)), testBit_firstN, testBit_bit]
    simp only [Bool.and_eq_true, decide_eq_true_eq, Bool.not_eq_true', decide_eq_false_iff_not]
    exact ⟨fun h => ⟨h.1, fun e => h.2 e.symm⟩, fun h => ⟨h.1, fun e => h.2 e.symm⟩⟩
  rw [full_masks hn]
  refine gok_masks (n := n) (by simp) h1 hn (fun m hm => ?_) (fun x hx => ?_) (fun x y hx hy h => ?_)
  · obtain ⟨i, -, rfl⟩ := List.mem_map.1 hm
    exact Nat.lt_of_le_of_lt (andN_le _ _) (by unfold firstN; have := Nat.two_pow_pos n; omega)
  · rw [hg x hx]
    cases h : (andN (firstN n) (bit x)).testBit x
    · rfl
    · exact absurd rfl ((hb x x hx).1 h).2
  · rw [hg x hx] at h
    rw [hg y hy]
    exact (hb y x hy).2 ⟨hx, fun e => ((hb x y hx).1 h).2 e.symm⟩
theorem full_ends (m : Nat) : endsN (fullG m) = (pairsK m).length := by
  unfold endsN fullG pairsK
  rw [List.length_flatMap, List.map_map]
  congr 1
  apply List.map_congr_left
  intro i _
  simp only [Function.comp, natsI_len, List.length_map]
  rfl
theorem ends_pop {g : List (List Int)} (hg : GOk g) : endsN g = ((netsL g).map popN).sum := by
  unfold endsN netsL
  rw [List.map_map]
  congr 1
  apply List.ext_getElem (by simp)
  intro i h1 h2
  have hi : i < g.length := by simpa using h1
  simp only [List.getElem_map, Function.comp]
  rw [popN_I, bitsI_maskL (rise_sorted (hg.rise i hi)) (hg.ge32 hi)]
noncomputable def minB (g : List (List Int)) (n : Nat) : Bool := decide (g.length ≤ 8) && extB (netsL g) g.length n []
theorem minB_ends {g : List (List Int)} (hg : GOk g) {n : Nat} (h : endsN g < endsN (fullG n)) : minB g n = false := by
  unfold minB
  rw [extB_no (fun hc => ?_), Bool.and_false]
  have hH : ∀ u, (netsL g).getD u 0 < 4294967296 := fun u => nat_getD (netsL_lt hg) u
  have := hasK_ends (H := netsL g) (m := n) (by rw [netsL_len]; exact hg.hi) hH (by rw [netsL_len]; exact nets_symM hg) (by unfold HasK; rw [netsL_len]; exact hc)
  rw [← full_ends, ← ends_pop hg] at this
  omega
theorem full_at {H : List Nat} {b : Nat} (h1 : 1 ≤ b) (hb : 2 ≤ b → extB H H.length b [] = true) : ∀ m, b ≤ m → (∀ j, b < j → j ≤ m → extB H H.length j [] = false) → fullTo H m = b
  | 0, h, _ => by omega
  | 1, h, _ => by rw [fullTo]; omega
  | m + 2, h, hn => by
    rw [fullTo]
    by_cases e : b = m + 2
    · rw [if_pos (by rw [← e]; exact hb (by omega)), e]
    · rw [if_neg (by rw [hn (m + 2) (by omega) (Nat.le_refl _)]; simp)]
      exact full_at h1 hb (m + 1) (by omega) (fun j hj hj2 => hn j hj (by omega))
theorem ext_down {H : List Nat} {a b : Nat} (hab : a ≤ b) (h : extB H H.length a [] = false) : extB H H.length b [] = false := by
  refine extB_no fun hc => extB_false h ?_
  have key : ∀ d, HasK H (a + d) → HasK H a := fun d => by
    induction d with
    | zero => exact id
    | succ d ih => exact fun hd => ih (hasK_mono hd)
  exact key (b - a) (by rw [Nat.add_sub_cancel' hab]; exact hc)
set_option maxRecDepth 100000 in
set_option maxHeartbeats 8000000 in
theorem l21Sets_any {S : Nat → Prop} {v : Value} {t : List Nat} {m : Nat} {w : World} (hv : SlI S w .i64 v (natsI t)) (hm1 : 1 ≤ m) (hm : m ≤ 5) (hl : t.length ≤ 8) (ht : ∀ y ∈ t, y ≤ m) :
    Calls Tryd.prog 127 #[v, .int .i64 (m : Int)] w fun e w' => ∃ a c, e = .returned (.agg #[.slice a m c]) ∧ Below w.heap.size w w' := by
  obtain ⟨ub, uo, uc, hue, huc⟩ := hv.at_
  obtain ⟨ua, uc2, rfl⟩ := hv.slice
  rw [natsI_len] at hue ⊢
  have hmk := run_make_row' (P := Tryd.prog) 22 51 (.slice none 0 0) 24 elRows.ht elRows.hi rfl .i64 .i64 m (by omega) (by omega)
  obtain ⟨W, hW⟩ : ∃ W, W = ((w.alloc (.cells #[.slice none 0 0] 67)).alloc (.cells (madeCells #[Value.slice none 0 0] m) 51)).alloc (.cells #[.slice (some ⟨w.heap.size + 1, 0, none⟩) m m] 67) := ⟨_, rfl⟩
  have hq0 : Below w.heap.size w W := by rw [hW]; exact (((Below.refl _ _).alloc (Nat.le_refl _) _).alloc (by simp) _).alloc (by simp; omega) _
  have hr0 : Own W w.heap.size 67 1 (.slice (some ⟨w.heap.size, 0, none⟩) 1 1) 1 [.slice none 0 0] := by
    rw [hW]
    exact ((own_new w w.heap.size 67 (.slice none 0 0) (Nat.le_refl _)).alloc _).alloc _
  have ho0 : Own W w.heap.size 67 1 (.slice (some ⟨w.heap.size + 1 + 1, 0, none⟩) 1 1) 1 [.slice (some ⟨w.heap.size + 1, 0, none⟩) m m] := by
    rw [hW]
    have h := own_new ((w.alloc (.cells #[.slice none 0 0] 67)).alloc (.cells (madeCells #[Value.slice none 0 0] m) 51)) w.heap.size 67 (.slice (some ⟨w.heap.size + 1, 0, none⟩) m m) (by simp; omega)
    rw [show ((w.alloc (.cells #[.slice none 0 0] 67)).alloc (.cells (madeCells #[Value.slice none 0 0] m) 51)).heap.size = w.heap.size + 1 + 1 by simp] at h
    exact h
  have hz0 : w.heap.size + 3 ≤ W.heap.size := by rw [hW]; simp
  have hS0 : OwnR W (w.heap.size + 1) W.heap.size 51 2 (.slice (some ⟨w.heap.size + 1, 0, none⟩) m m) (List.replicate m []) := by
    have h := (Own.made (w.alloc (.cells #[.slice none 0 0] 67)) (w.heap.size + 1) 51 (.slice none 0 0) m (by simp) (by omega)).alloc (.cells #[.slice (some ⟨w.heap.size + 1, 0, none⟩) m m] 67)
    rw [show (w.alloc (.cells #[.slice none 0 0] 67)).heap.size = w.heap.size + 1 by simp, ← hW] at h
    refine ⟨List.replicate m (.slice none 0 0), by simp, by rw [List.length_replicate]; exact h, fun b hb => (h.lt b hb).2, fun i j hi hj b hb1 _ => by simp [Value.ownBlock] at hb1, fun i hi hi2 => ?_⟩
    simp only [List.getElem_replicate]
    exact ⟨Own.nil _ _ _ _, fun b hb => by simp [Value.ownBlock] at hb⟩
  have HWW := Lib.hid hW
  have HT := Lib.hid ht
  have HUC := Lib.hid huc
  clear hW huc hv ht
  go_enter Tryd.func127, Tryd.ntmps127
  go_wp2
  rw [← HWW.out]
  clear HWW hmk
  go_loopw [6] (fun i wr => ∃ (k : Nat) (G : List (List Int)), k ≤ t.length ∧ i = .int .i64 k ∧ RowKit.Hid (G.length = m) ∧ RowKit.Hid (∀ r ∈ G, r.length ≤ k) ∧ OwnR wr (w.heap.size + 1) wr.heap.size 51 2 (.slice (some ⟨w.heap.size + 1, 0, none⟩) m m) G ∧ Own wr w.heap.size 67 1 (.slice (some ⟨w.heap.size, 0, none⟩) 1 1) 1 [.slice none 0 0] ∧ Own wr w.heap.size 67 1 (.slice (some ⟨w.heap.size + 1 + 1, 0, none⟩) 1 1) 1 [.slice (some ⟨w.heap.size + 1, 0, none⟩) m m] ∧ Below w.heap.size w wr ∧ w.heap.size + 3 ≤ wr.heap.size) (fun i _ => t.length - (RowKit.intOf i).toNat)
  case atStart => exact ⟨0, List.replicate m [], Nat.zero_le _, rfl, Lib.hid (by simp), Lib.hid (fun r hr => by rw [List.eq_of_mem_replicate hr]; simp), hS0, hr0, ho0, hq0, hz0⟩
  case round =>
    clear hS0 hr0 ho0 hq0 hz0
    obtain ⟨k, G, hk, rfl, HGL, HGS, hS, hr, ho, hq, hsz⟩ := hrel
    obtain ⟨wi, rfl⟩ : ∃ wx : World, wx = wr := ⟨_, rfl⟩
    obtain ⟨o1, o2, -, o3⟩ := own_cell ho
    obtain ⟨r1, r2, -, r3⟩ := own_cell hr
    by_cases hlt : k < t.length
    case neg =>
      obtain rfl : k = t.length := by omega
      go_wp2
      refine bodyPost_ret (v := .agg #[.slice (some ⟨w.heap.size + 1, 0, none⟩) m m]) (by simp [results, Tryd.results127, go_sem, r1]) rfl ⟨_, _, rfl, hq.setCell (by simp) _⟩
    have hxm : t.getD k 0 ≤ m := HT.out _ (getD_mem hlt)
    have hc1 := HUC.out k (by rw [natsI_len]; exact hlt)
    rw [natsI_get] at hc1
    have e1 : wi.cell? ⟨ub, uo + k, none⟩ = some (.int .i64 ((t.getD k 0 : Nat) : Int)) := by
      rw [hq.cell (cell_lt hc1), hc1]; simp [hlt]
    have e0 : w.cell? ⟨ub, uo + k, none⟩ = some (.int .i64 ((t.getD k 0 : Nat) : Int)) := by
      rw [hc1]; simp [hlt]
    have hue2 := hue (by omega)
    simp only [Value.slice.injEq] at hue2
    obtain ⟨rfl, -, rfl⟩ := hue2
    clear hc1 hue
    generalize t.getD k 0 = x at *
    by_cases hx0 : x = 0
    · subst hx0
      go_wp2
      go_roundw
      case rel => exact ⟨k + 1, G, by omega, by go_num, HGL, Lib.hid (fun r hr => Nat.le_succ_of_le (HGS.out r hr)), hS, hr, ho, hq, hsz⟩
      case measure => simp [RowKit.intOf]; omega
    obtain ⟨y, hy⟩ : ∃ y, x = y + 1 := ⟨x - 1, by omega⟩
    have HY := Lib.hid hy
    have hym : y < m := by omega
    have hws : IntKind.i64.wrap ((x : Int) - 1) = (y : Int) := by rw [hy, show ((y + 1 : Nat) : Int) - 1 = (y : Int) by omega]; exact IntWalk.i64_in _ (by omega)
    have hg1 : decide ((0 : Int) < (x : Int)) = true := decide_eq_true (by omega)
    have hg2 : decide (0 < x) = true := decide_eq_true (by omega)
    have hyG : y < G.length := by rw [HGL.out]; exact hym
    obtain ⟨ra, rc, hcell, hfz, hown, hab, hBab⟩ := hS.row hyG
    have hrl : G[y].length ≤ k := HGS.out _ (List.getElem_mem hyG)
    have HOWN := Lib.hid hown
    have HGE := Lib.hid (show (G[y]'hyG ++ [(k : Int)]).map (Value.int .i64) = (G[y]'hyG).map (Value.int .i64) ++ [.int .i64 (k : Int)] by simp)
    have HNEW := Lib.hid (show ∀ r ∈ G.set y (G[y]'hyG ++ [(k : Int)]), r.length ≤ k + 1 from fun r hr => by
      rcases List.mem_or_eq_of_mem_set hr with h | h
      · exact Nat.le_succ_of_le (HGS.out r h)
      · rw [h, List.length_append, List.length_singleton]; omega)
    have HSET := Lib.hid (fun (wx w2 : World) (v v' : Value) (N : Nat) (h1 : OwnR wx (w.heap.size + 1) wx.heap.size 51 2 (.slice (some ⟨w.heap.size + 1, 0, none⟩) m m) G) (h2 : wx.cell? ⟨w.heap.size + 1, y, none⟩ = some v) (h3 : KeptBut wx w2 v.ownBlock) h4 h5 h6 => ownR_app (N := N) (v' := v') (x := (k : Int)) h1 hyG (Nat.le_refl _) h2 h3 h4 h5 h6)
    have HNE := Lib.hid (fun b (hb : (Value.slice ra (G[y]'hyG).length rc).ownBlock = some b) => show b ≠ w.heap.size + 1 from fun e => by
      obtain ⟨vs, -, h2, -⟩ := hS
      exact own_type hown h2 (by decide) b hb (by rw [e]; rfl))
    have hwk : IntKind.i64.wrap ((k : Int) + 1) = (k : Int) + 1 := IntWalk.i64_in _ (by omega)
    generalize hGy : (G[y]'hyG).length = gl at *
    have HGL2 := Lib.hid hGy
    clear hGy
    clear hown hy hx0
    go_wp2
    refine wp_region_late (S := (fun w' => w'.cell? ⟨w.heap.size + 1 + 1, 0, none⟩ = some (.slice (some ⟨w.heap.size + 1, 0, none⟩) m m) ∧ w'.cell? ⟨ub, uo + k, none⟩ = some (.int .i64 (x : Int)) ∧ w'.cell? ⟨w.heap.size + 1, y, none⟩ = some (.slice ra gl rc))) (late := [20]) (by kernel_rfl) ?_ (fun hHeld => ?_)
    · first | exact ⟨‹_›, ‹_›, ‹_›⟩ | (simp [*, go_sem])
    have hdw : Drawn wi wi.drew := (Drawn.refl _).drew
    generalize wi.drew = wd at hdw hHeld ⊢
    obtain ⟨p1, p2, p3⟩ := hHeld
    have hHeld : (fun w' => World.cell? w' ⟨w.heap.size + 1 + 1, 0, none⟩ = some (.slice (some ⟨w.heap.size + 1, 0, none⟩) m m) ∧ World.cell? w' ⟨ub, uo + k, none⟩ = some (.int .i64 (x : Int)) ∧ World.cell? w' ⟨w.heap.size + 1, y, none⟩ = some (.slice ra gl rc)) wd := ⟨p1, p2, p3⟩
    have hSd := hS.below (hdw.below wi.heap.size) (Nat.le_refl _)
    rw [show wi.heap.size = wd.heap.size by rw [hdw.heap]] at hSd
    have hqd := hq.trans (hdw.below _)
    have hod := ho.drawn hdw
    have hrd := hr.drawn hdw
    have hwd := HOWN.out.drawn hdw
    have hszd : w.heap.size + 3 ≤ wd.heap.size := (by rw [hdw.heap]; exact hsz)
    have p3d := p3
    refine wpLate_take (i := 0) (v := ?v50) (by simp only [List.getElem?_toArray, List.getElem?_cons_zero]; exact rfl) (by kernel_rfl) (by kernel_rfl) (by kernel_rfl) (by intro _ _ _ h; exact h) (Or.inl ⟨by rfl, ?y50⟩) ?_
    case y50 => (intro w _; go_simp; try (with_reducible rfl))
    try simp only [Act.put, List.setIfInBounds_toArray, List.set_cons_zero, List.set_cons_succ]
    refine wpLate_load (i := 1) (v := ?v51) (by simp only [List.getElem?_toArray, List.getElem?_cons_succ, List.getElem?_cons_zero]; exact rfl) (by kernel_rfl) (by kernel_rfl) (by kernel_rfl) (by kernel_rfl) (by intro _ _ _ h; exact h) (Or.inl ⟨by rfl, ?y51⟩) hHeld ?_
    case y51 => (intro w hSw; (try dsimp only at hSw); go_simp; try (with_reducible rfl))
    try simp only [Act.put, List.setIfInBounds_toArray, List.set_cons_zero, List.set_cons_succ]
    refine wpLate_take (i := 2) (v := ?v52) (by simp only [List.getElem?_toArray, List.getElem?_cons_succ, List.getElem?_cons_zero]; exact rfl) (by kernel_rfl) (by kernel_rfl) (by kernel_rfl) (by intro _ _ _ h; exact h) (Or.inl ⟨by rfl, ?y52⟩) ?_
    case y52 => (intro w _; go_simp; try (with_reducible rfl))
    try simp only [Act.put, List.setIfInBounds_toArray, List.set_cons_zero, List.set_cons_succ]
    refine wpLate_take (i := 3) (v := ?v53) (by simp only [List.getElem?_toArray, List.getElem?_cons_succ, List.getElem?_cons_zero]; exact rfl) (by kernel_rfl) (by kernel_rfl) (by kernel_rfl) (by intro _ _ _ h; exact h) (Or.inl ⟨by rfl, ?y53⟩) ?_
    case y53 => (intro w _; go_simp; try (with_reducible rfl))
    try simp only [Act.put, List.setIfInBounds_toArray, List.set_cons_zero, List.set_cons_succ]
    refine wpLate_take (i := 4) (v := ?v54) (by simp only [List.getElem?_toArray, List.getElem?_cons_succ, List.getElem?_cons_zero]; exact rfl) (by kernel_rfl) (by kernel_rfl) (by kernel_rfl) (by intro _ _ _ h; exact h) (Or.inl ⟨by rfl, ?y54⟩) ?_
    case y54 => (intro w _; go_simp; try (with_reducible rfl))
    try simp only [Act.put, List.setIfInBounds_toArray, List.set_cons_zero, List.set_cons_succ]
    refine wpLate_load (i := 5) (v := ?v55) (by simp only [List.getElem?_toArray, List.getElem?_cons_succ, List.getElem?_cons_zero]; exact rfl) (by kernel_rfl) (by kernel_rfl) (by kernel_rfl) (by kernel_rfl) (by intro _ _ _ h; exact h) (Or.inl ⟨by rfl, ?y55⟩) hHeld ?_
    case y55 => (intro w hSw; (try dsimp only at hSw); go_simp; try (with_reducible rfl))
    try simp only [Act.put, List.setIfInBounds_toArray, List.set_cons_zero, List.set_cons_succ]
    refine wpLate_take (i := 6) (v := ?v56) (by simp only [List.getElem?_toArray, List.getElem?_cons_succ, List.getElem?_cons_zero]; exact rfl) (by kernel_rfl) (by kernel_rfl) (by kernel_rfl) (by intro _ _ _ h; exact h) (Or.inl ⟨by rfl, ?y56⟩) ?_
    case y56 => (intro w _; go_simp; try (with_reducible rfl))
    try simp only [Act.put, List.setIfInBounds_toArray, List.set_cons_zero, List.set_cons_succ]
    refine wpLate_take (i := 7) (v := ?v57) (by simp only [List.getElem?_toArray, List.getElem?_cons_succ, List.getElem?_cons_zero]; exact rfl) (by kernel_rfl) (by kernel_rfl) (by kernel_rfl) (by intro _ _ _ h; exact h) (Or.inl ⟨by rfl, ?y57⟩) ?_
    case y57 => (intro w _; go_simp; try (with_reducible rfl))
    try simp only [Act.put, List.setIfInBounds_toArray, List.set_cons_zero, List.set_cons_succ]
    refine wpLate_load (i := 8) (v := ?v58) (by simp only [List.getElem?_toArray, List.getElem?_cons_succ, List.getElem?_cons_zero]; exact rfl) (by kernel_rfl) (by kernel_rfl) (by kernel_rfl) (by kernel_rfl) (by intro _ _ _ h; exact h) (Or.inl ⟨by rfl, ?y58⟩) hHeld ?_
    case y58 => (intro w hSw; (try dsimp only at hSw); go_simp; try (with_reducible rfl))
    try simp only [Act.put, List.setIfInBounds_toArray, List.set_cons_zero, List.set_cons_succ]
    refine wpLate_take (i := 9) (v := ?v59) (by simp only [List.getElem?_toArray, List.getElem?_cons_succ, List.getElem?_cons_zero]; exact rfl) (by kernel_rfl) (by kernel_rfl) (by kernel_rfl) (by intro _ _ _ h; exact h) (Or.inl ⟨by rfl, ?y59⟩) ?_
    case y59 => (intro w _; go_simp; try (with_reducible rfl))
    try simp only [Act.put, List.setIfInBounds_toArray, List.set_cons_zero, List.set_cons_succ]
    refine wpLate_take (i := 10) (v := ?v60) (by simp only [List.getElem?_toArray, List.getElem?_cons_succ, List.getElem?_cons_zero]; exact rfl) (by kernel_rfl) (by kernel_rfl) (by kernel_rfl) (by intro _ _ _ h; exact h) (Or.inl ⟨by rfl, ?y60⟩) ?_
    case y60 => (intro w _; go_simp; try (with_reducible rfl))
    try simp only [Act.put, List.setIfInBounds_toArray, List.set_cons_zero, List.set_cons_succ]
    refine wpLate_take (i := 11) (v := ?v61) (by simp only [List.getElem?_toArray, List.getElem?_cons_succ, List.getElem?_cons_zero]; exact rfl) (by kernel_rfl) (by kernel_rfl) (by kernel_rfl) (by intro _ _ _ h; exact h) (Or.inl ⟨by rfl, ?y61⟩) ?_
    case y61 => (intro w _; go_simp; try (with_reducible rfl))
    try simp only [Act.put, List.setIfInBounds_toArray, List.set_cons_zero, List.set_cons_succ]
    refine wpLate_load (i := 12) (v := ?v62) (by simp only [List.getElem?_toArray, List.getElem?_cons_succ, List.getElem?_cons_zero]; exact rfl) (by kernel_rfl) (by kernel_rfl) (by kernel_rfl) (by kernel_rfl) (by intro _ _ _ h; exact h) (Or.inl ⟨by rfl, ?y62⟩) hHeld ?_
    case y62 => (intro w hSw; (try dsimp only at hSw); go_simp; try (with_reducible rfl))
    try simp only [Act.put, List.setIfInBounds_toArray, List.set_cons_zero, List.set_cons_succ]
    refine wpLate_take (i := 13) (v := ?v63) (by simp only [List.getElem?_toArray, List.getElem?_cons_succ, List.getElem?_cons_zero]; exact rfl) (by kernel_rfl) (by kernel_rfl) (by kernel_rfl) (by intro _ _ _ h; exact h) (Or.inl ⟨by rfl, ?y63⟩) ?_
    case y63 => (intro w _; go_simp; try (with_reducible rfl))
    try simp only [Act.put, List.setIfInBounds_toArray, List.set_cons_zero, List.set_cons_succ]
    refine wpLate_take (i := 14) (v := ?v64) (by simp only [List.getElem?_toArray, List.getElem?_cons_succ, List.getElem?_cons_zero]; exact rfl) (by kernel_rfl) (by kernel_rfl) (by kernel_rfl) (by intro _ _ _ h; exact h) (Or.inl ⟨by rfl, ?y64⟩) ?_
    case y64 => (intro w _; go_simp; try (with_reducible rfl))
    try simp only [Act.put, List.setIfInBounds_toArray, List.set_cons_zero, List.set_cons_succ]
    refine wpLate_load (i := 15) (v := ?v65) (by simp only [List.getElem?_toArray, List.getElem?_cons_succ, List.getElem?_cons_zero]; exact rfl) (by kernel_rfl) (by kernel_rfl) (by kernel_rfl) (by kernel_rfl) (by intro _ _ _ h; exact h) (Or.inl ⟨by rfl, ?y65⟩) hHeld ?_
    case y65 => (intro w hSw; (try dsimp only at hSw); go_simp; try (with_reducible rfl))
    try simp only [Act.put, List.setIfInBounds_toArray, List.set_cons_zero, List.set_cons_succ]
    refine wpLate_take (i := 16) (v := ?v66) (by simp only [List.getElem?_toArray, List.getElem?_cons_succ, List.getElem?_cons_zero]; exact rfl) (by kernel_rfl) (by kernel_rfl) (by kernel_rfl) (by intro _ _ _ h; exact h) (Or.inl ⟨by rfl, ?y66⟩) ?_
    case y66 => (intro w _; go_simp; try (with_reducible rfl))
    try simp only [Act.put, List.setIfInBounds_toArray, List.set_cons_zero, List.set_cons_succ]
    refine wpLate_one (i := 17) (by kernel_rfl) (by simp only [List.getElem?_toArray, List.getElem?_cons_succ, List.getElem?_cons_zero]; exact rfl) (by kernel_rfl) (fun K hK => ?_)
    go_simp
    have hbb : Below wd.heap.size wd (wd.alloc (.cells #[.int .i64 (k : Int)] 2)) := (Below.refl _ _).alloc (Nat.le_refl _) _
    have p1 := (hbb.cell (cell_lt p1)).trans p1
    have p2 := (hbb.cell (cell_lt p2)).trans p2
    have p3 := (hbb.cell (cell_lt p3)).trans p3
    try dsimp only
    refine hK.out _ _ ?h67 (fun hHeld => ?_)
    case h67 => first | exact ⟨‹_›, ‹_›, ‹_›⟩ | (simp [*, go_sem])
    clear hK K
    try simp only [Act.put, List.setIfInBounds_toArray, List.set_cons_zero, List.set_cons_succ]
    refine wpLate_one (i := 18) (by kernel_rfl) (by simp only [List.getElem?_toArray, List.getElem?_cons_succ, List.getElem?_cons_zero]; exact rfl) (by kernel_rfl) (fun K hK => ?_)
    rw [if_pos (by rfl)]
    refine opWp_append1S elI64 _ _ rfl hwd rfl rfl rfl rfl (by omega) (by omega) ?_
    intro v5 w5 hown5 hkept hmv
    have hS6 := HSET.out wd w5 _ v5 _ hSd p3d hkept (by rw [HGE.out]; exact hown5) hmv (by simp)
    have hr5 := hrd.otherT hwd (by decide) hkept
    have ho5 := hod.otherT hwd (by decide) hkept
    have hq5 := hkept.below hqd hqd.size (fun b hb => by have := (hwd.lt b hb).1; omega)
    have p1 := (own_cell ho5).1
    have p2 := (hq5.cell (cell_lt e0)).trans e0
    have p3 := (World.cell?_of_block (a := ⟨w.heap.size + 1, y, none⟩) (hkept.2.2.2.2 (w.heap.size + 1) (by omega) (fun e => HNE.out _ e.symm rfl))).trans p3d
    have hfz5 : w5.frozen? ⟨w.heap.size + 1, y, none⟩ = false := (by obtain ⟨vs, -, h2, -⟩ := hSd; rw [HGL.out] at h2; exact World.ownsRow.frozenAt (Own.otherT h2 hwd (by decide) hkept) y)
    obtain ⟨va5, vc5, rfl⟩ := hown5.isSlice
    try dsimp only
    refine hK.out _ _ ?h68 (fun hHeld => ?_)
    case h68 => first | exact ⟨‹_›, ‹_›, ‹_›⟩ | (simp [*, go_sem])
    clear hK K
    try simp only [Act.put, List.setIfInBounds_toArray, List.set_cons_zero, List.set_cons_succ]
    refine wpLate_take (i := 19) (v := ?v69) (by simp only [List.getElem?_toArray, List.getElem?_cons_succ, List.getElem?_cons_zero]; exact rfl) (by kernel_rfl) (by kernel_rfl) (by kernel_rfl) (by intro _ _ _ h; exact h) (Or.inl ⟨by rfl, ?y69⟩) ?_
    case y69 => (intro w _; go_simp; try (with_reducible rfl))
    try simp only [Act.put, List.setIfInBounds_toArray, List.set_cons_zero, List.set_cons_succ]
    refine wpLate_late (i := 20) (by kernel_rfl) (by simp only [List.getElem?_toArray, List.getElem?_cons_succ, List.getElem?_cons_zero]; exact rfl) (by kernel_rfl) (fun K hK => ?_)
    go_simp
    skip
    try dsimp only
    refine hK.out _ _ ?_
    clear hK K
    try simp only [Act.put, List.setIfInBounds_toArray, List.set_cons_zero, List.set_cons_succ]
    refine wpLate_done (by kernel_rfl) ?_ _
    have hset : ∀ b, b ≠ w.heap.size + 1 → (w5.setCell ⟨w.heap.size + 1, y, none⟩ (.slice va5 (gl + 1) vc5)).heap[b]? = w5.heap[b]? := fun b hb => Below.heap_setCell _ _ _ _ (by simpa using hb)
    have hr6 := own1_keep hr5 (hset w.heap.size (by omega))
    have ho6 := own1_keep ho5 (hset (w.heap.size + 1 + 1) (by omega))
    have hq6 : Below w.heap.size w (w5.setCell ⟨w.heap.size + 1, y, none⟩ (.slice va5 (gl + 1) vc5)) := hq5.setCell (by simp) _
    have hz6 : w.heap.size + 3 ≤ (w5.setCell ⟨w.heap.size + 1, y, none⟩ (.slice va5 (gl + 1) vc5)).heap.size := by have := hkept.2.2.2.1; simp; omega
    rw [show w5.heap.size = (w5.setCell ⟨w.heap.size + 1, y, none⟩ (.slice va5 (gl + 1) vc5)).heap.size by simp] at hS6
    generalize w5.setCell ⟨w.heap.size + 1, y, none⟩ (.slice va5 (gl + 1) vc5) = w6 at *
    have HGL6 := Lib.hid (show (G.set y (G[y]'hyG ++ [(k : Int)])).length = m by rw [List.length_set]; exact HGL.out)
    clear hHeld p1 p2 p3
    go_wp2
    go_roundw
    case rel => exact ⟨k + 1, _, by omega, by go_num, HGL6, HNEW, hS6, hr6, ho6, hq6, hz6⟩
    case measure => simp [RowKit.intOf]; omega
end Go.Proofs.YtgkkgagnoeedaaaDoor
