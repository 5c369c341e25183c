/- What can be reached, and the parts: the reference's. -/
import Derived.Test.YtdbanndcdbikmaaGreatDoorDistM
import Derived.Test.YtdbanndcdbikmaaGreatDoorQueue
import Derived.Test.YtdbanndcdbikmaaGreatDoorLoopL
namespace Go.Proofs.YtdbanndcdbikmaaGreatDoor
open Go.RowKit
theorem parts_less {a : List Nat} {W : Nat} (hw : W < 4294967296) (h0 : W ≠ 0) : andN W (reachN a W (Lib.ctz 32 W)) < W := by
  have hc := ctz_bit h0 hw
  have hr := reachN_lt a W (Lib.ctz 32 W)
  refine Nat.lt_of_le_of_ne (andN_le _ _) fun e => ?_
  have h1 := testBit_andN hw hr (Lib.ctz 32 W)
  rw [e, hc, reach_start hw (bit_lt_of (n := 32) hw hc)] at h1
  cases h1
theorem reach_lt2 {a : List Nat} {wi v n : Nat} (hn : n ≤ 16) (hw : wi < 2 ^ n) (hv : v < n) : reachN a wi v < 2 ^ n := by
  have hw32 : wi < 4294967296 := Nat.lt_of_lt_of_le hw (by have := pow_le16 hn; omega)
  apply lt_bits
  intro i hi
  have := reach_least hw32 (show v < 32 by omega) (M := wi ||| bit v) (fun x _ u hu _ => by rw [Nat.testBit_or, hu]; rfl) (by rw [Nat.testBit_or, testBit_bit]; simp) hi
  rw [Nat.testBit_or, testBit_bit, Bool.or_eq_true] at this
  rcases this with h | h
  · exact bit_lt_of hw h
  · have : v = i := by simpa using h
    omega
set_option maxHeartbeats 2000000 in
theorem reach_any {S : Nat → Prop} {nv : Value} {a : List Nat} {v wi : Nat} {w : World} (ht : Tab w) (hn : SlI S w .u32 nv (natsI a)) (ha16 : a.length ≤ 16) (hal : ∀ m ∈ a, m < 4294967296) (hwi : wi < 2 ^ a.length) (hv : v < a.length) :
    Calls Tryz.prog 71 #[nv, .int .i64 (v : Int), .int .u32 (wi : Int)] w fun e w' => e = .returned (.int .u32 (reachN a wi v : Int)) ∧ Below w.heap.size w w' := by
  have hw32 : wi < 4294967296 := Nat.lt_of_lt_of_le hwi (by have := pow_le16 ha16; omega)
  have hv32 : v < 32 := by omega
  have hp16 := pow_le16 ha16
  have hst := ReachI.start (a := a) hw32 hv32
  have hb0 : bit v < 2 ^ a.length := by unfold bit; exact Nat.pow_lt_pow_right (by omega) hv
  obtain ⟨va, vb, voff, vcap, rfl, hvl, hva, hvc0⟩ := hn
  have hnl := natsI_len a
  have HNL := Lib.hid hnl; clear hnl
  have HW := Lib.hid hwi; clear hwi
  obtain ⟨N, hN⟩ : ∃ N, 2 ^ a.length = N := ⟨_, rfl⟩
  rw [hN] at hp16 hb0
  have HN := Lib.hid hN; clear hN
  go_enter Tryz.func71, Tryz.ntmps71
  go_wp2_with (go_at_call 109; refine (one_any _ _ (by omega) (by omega)).mono ?_; rintro e w' ⟨rfl, rfl⟩)
  go_loopw [7] (fun s wr => ∃ M : Nat, s = .int .u32 (M : Int) ∧ ReachI a wi v M ∧ M < N ∧ Below w.heap.size w wr) (fun s _ => 65536 - (intOf s).toNat)
  case atStart => exact ⟨bit v, rfl, hst, hb0, Below.refl _ _⟩
  case round =>
    obtain ⟨M, rfl, hre, hM, hq⟩ := hrel
    have hB := hq.size
    have hM32 : M < 4294967296 := by omega
    have hMN : M < 2 ^ a.length := by rw [HN.out]; exact hM
    have hbl := bitsI_lt hMN (by omega)
    have hgl := fun k => (growN_lt (a := a) (l := (bitsI M).take k) hMN HW.out)
    rw [HN.out] at hgl
    clear hMN
    go_wp2_with (go_at_call 110; refine (list_any _ _ (ht.below hq (Nat.le_refl _)) hM32).mono ?_; rintro e w1 ⟨u, rfl, hu, hq'⟩; obtain ⟨ua, ub, uoff, ucap, rfl, hul, hua, huc0⟩ := hu.ints (by have := bitsI_len M; omega))
    have hq1 := hq.trans (hq'.mono hB)
    go_loopw [8, 17] (fun x i ws => ∃ k : Nat, k ≤ (bitsI M).length ∧ i = .int .i64 k ∧ x = .int .u32 (growN a wi ((bitsI M).take k) M : Int) ∧ Drawn w1 ws) (fun _ i _ => (bitsI M).length - (intOf i).toNat)
    case atStart => exact ⟨0, Nat.zero_le _, rfl, by simp [growN], Drawn.refl _⟩
    case round =>
      obtain ⟨ws, rfl⟩ : ∃ x : World, x = wr := ⟨_, rfl⟩
      obtain ⟨k, hk, rfl, rfl, hd⟩ := hrel
      have hvc := (hvc0.below hq1 (Nat.le_refl _)).drawn hd
      have huc := huc0.drawn hd
      have hbk := bitsI_len M
      by_cases hlt : k < (bitsI M).length
      · have hxk := hbl (bitsI M)[k] (List.getElem_mem _)
        have hcell := huc k hlt
        obtain ⟨rfl, _⟩ := hua (by omega)
        obtain ⟨x, hx⟩ := Int.eq_ofNat_of_zero_le hxk.1
        have hgt := growN_take (a := a) (wi := wi) (s := M) hlt
        rw [hx] at hcell hgt hxk
        have hxa : x < a.length := by omega
        have hcell2 := hvc x (by rw [HNL.out]; exact hxa)
        rw [natsI_get] at hcell2
        obtain ⟨rfl, _⟩ := hva (by rw [HNL.out]; omega)
        have hax := hal a[x] (List.getElem_mem _)
        have hand := u32_and_nat a[x] wi hax hw32
        have hxb : (x : Int) < (natsI a).length := by rw [HNL.out]; omega
        have hg32 : growN a wi ((bitsI M).take k) M < 4294967296 := by have := hgl k; omega
        have hor := u32_or_nat (growN a wi ((bitsI M).take k) M) (a[x] &&& wi) hg32 (Nat.lt_of_le_of_lt Nat.and_le_left hax)
        have hge : a.getD (Int.toNat (x : Int)) 0 = a[x] := by simp [hxa]
        rw [hge] at hgt
        have HGT := Lib.hid hgt; have HX := Lib.hid hx; clear hgt hx hge hgl
        have HD := Lib.hid hd; clear hd
        go_wp2
        go_roundw
        case rel => exact ⟨k + 1, by omega, by go_num, by rw [HGT.out], HD.out⟩
        case measure => simp [intOf]; omega
      · obtain rfl : k = (bitsI M).length := by omega
        rw [List.take_length]
        have hgl2 := hgl (bitsI M).length
        rw [List.take_length] at hgl2
        have hq2 := hq1.trans ((hd.below _).mono hq1.size)
        by_cases he : growN a wi (bitsI M) M = M
        · have hb1 : ((growN a wi (bitsI M) M : Int) == (M : Int)) = true := by rw [he]; simp
          have hb2 : (growN a wi (bitsI M) M == M) = true := by rw [he]; simp
          have hdone := hre.done hw32 hv32 (grow_done hM32 he)
          have HDN := Lib.hid hdone; clear hdone he hgl
          go_wp2
          go_ret
          exact ⟨ret_int (by rw [HDN.out]), hq2⟩
        · have hb1 : ((growN a wi (bitsI M) M : Int) == (M : Int)) = false := by rw [beq_eq_false_iff_ne]; omega
          have hb2 : (growN a wi (bitsI M) M == M) = false := by rw [beq_eq_false_iff_ne]; omega
          have hnext := hre.grow hw32 hv32 hM32
          have hle := grow_le (a := a) (wi := wi) (s := M) (l := bitsI M)
          clear hgl
          go_wp2
          go_roundw
          case rel => exact ⟨_, rfl, hnext, hgl2, hq2⟩
          case measure => simp only [intOf, Int.toNat_natCast]; omega
theorem elVs : Elem Tryz.prog 60 65 1 4 (.int .u32 0) := ⟨Tryz.underlying60, by kernel_rfl, rfl, by omega, by omega⟩
set_option maxHeartbeats 2000000 in
theorem partsOf_any {S : Nat → Prop} {nv : Value} {a : List Nat} {wi : Nat} {w : World} (ht : Tab w) (hn : SlI S w .u32 nv (natsI a)) (ha16 : a.length ≤ 16) (hal : ∀ m ∈ a, m < 4294967296) (hwi : wi < 2 ^ a.length) :
    Calls Tryz.prog 34 #[nv, .int .u32 (wi : Int)] w fun e w' => ∃ u, e = .returned u ∧ Own w' w.heap.size 65 1 u (partsN a wi).length ((natsI (partsN a wi)).map (.int .u32)) ∧ Below w.heap.size w w' := by
  have hw32 : wi < 4294967296 := Nat.lt_of_lt_of_le hwi (by have := pow_le16 ha16; omega)
  obtain ⟨va, vc, rfl⟩ := hn.slice
  rw [natsI_len] at hn ⊢
  go_enter Tryz.func34, Tryz.ntmps34
  go_wp2
  go_loopw [5, 1] (fun o s wr => ∃ (out : List Nat) (W : Nat), s = .int .u32 (W : Int) ∧ W < 2 ^ a.length ∧ out ++ partsN a W = partsN a wi ∧ Own wr w.heap.size 65 1 o out.length ((natsI out).map (.int .u32)) ∧ Below w.heap.size w wr) (fun _ s _ => (intOf s).toNat)
  case atStart =>
    refine ⟨[], wi, rfl, hwi, rfl, ?_, (Below.refl _ _).alloc (Nat.le_refl _) _⟩
    exact World.ownsRow_lit (base := w.heap.size) (e := 65) (size := 1) w #[] 0 (Nat.le_refl _) (by unfold maxLen; omega) rfl
  case round =>
    obtain ⟨out, W, rfl, hW, hp, hown, hq⟩ := hrel
    have hB := hq.size
    have hW32 : W < 4294967296 := Nat.lt_of_lt_of_le hW (by have := pow_le16 ha16; omega)
    have HP := Lib.hid hp; clear hp
    by_cases h0 : W = 0
    · subst h0
      have hp := HP.out
      rw [partsN_zero, List.append_nil] at hp
      go_wp2
      go_ret
      exact ⟨_, rfl, by rw [← hp]; exact hown, hq⟩
    · have hb : ((W : Int) != 0) = true := by rw [bne_iff_ne]; omega
      have hc := ctz_bit h0 hW32
      have hcl := bit_lt_of hW hc
      have hr := reachN_lt a W (Lib.ctz 32 W)
      have hlen : out.length ≤ 33 := by have := partsN_len a wi; rw [← HP.out, List.length_append] at this; omega
      have han : bits BinOp.andNot IntKind.u32 (W : Int) (reachN a W (Lib.ctz 32 W) : Int) = (andN W (reachN a W (Lib.ctz 32 W)) : Int) := u32_andNot_nat W _ hW32 hr
      have hless := parts_less (a := a) hW32 h0
      have hstep := partsN_step (a := a) hW32 h0
      have HL := Lib.hid hless; have HS := Lib.hid hstep; clear hless hstep
      have hAN : andN W (reachN a W (Lib.ctz 32 W)) < 2 ^ a.length := Nat.lt_of_le_of_lt (andN_le _ _) hW
      have HWW := Lib.hid hW; have HAN := Lib.hid hAN; clear hW hAN hwi
      go_wp2_with (go_at_call 72; refine (least_any _ _ (ht.below hq (Nat.le_refl _)) h0 hW32).mono ?_; rintro e w' ⟨rfl, rfl⟩)
      refine (reach_any (ht.below hq (Nat.le_refl _)) (hn.below hq (Nat.le_refl _)) ha16 hal HWW.out hcl).mono ?_
      rintro e w2 ⟨rfl, hb2⟩
      have hq2 := hq.trans (hb2.mono hB)
      have hown2 := hown.below hb2 (Nat.le_refl _)
      have hB2 := hq2.size
      generalize hr' : reachN a W (Lib.ctz 32 W) = r at *
      go_wp2_with (at_builtin; refine wpList_append1 elVs rfl _ _ rfl hown2 rfl rfl rfl (by omega) hB2 ?_; intro v' w3 hown3 hkept hmv)
      go_roundw
      case rel => exact ⟨out ++ [r], andN W r, rfl, HAN.out, by rw [← HP.out, HS.out]; simp, by simpa [natsI] using hown3, hkept.below hq2 hB2 hown2.ge⟩
      case measure => simp only [intOf, Int.toNat_natCast]; exact HL.out
noncomputable def cutB (a : List Nat) (wi : Nat) (v : Int) : Bool := decide ((partsN a wi).length < (partsN a (andN wi (bit v.toNat))).length)
theorem popN_I (m : Nat) : popN m = (bitsI m).length := by simp [popN, bitsI]
theorem bitsI_bit {f : Nat} (hf : f < 32) : bitsI (bit f) = [(f : Int)] := by
  refine sorted_ext (bitsI_sorted _) (by simp) fun x => ?_
  rw [mem_bitsI (bit_lt hf), testBit_bit]
  simp only [decide_eq_true_eq, List.mem_singleton]
  omega
theorem popN_add {m x : Nat} (hm : m < 4294967296) (hx : x < 32) (h : m.testBit x = false) : popN (m ||| bit x) = popN m + 1 := by
  have hb := bit_lt hx
  have hor : m ||| bit x < 4294967296 := or_lt32' hm hb
  have h1 := pop_split' hor hm (fun i hi => by rw [Nat.testBit_or, hi]; rfl)
  have h2 : andN (m ||| bit x) m = bit x := by
    apply nat_ext
    intro i
    rw [testBit_andN hor hm, Nat.testBit_or, testBit_bit]
    by_cases e : x = i
    · subst e; simp [h]
    · simp [e]
  rw [h1, h2, popN_I (bit x), bitsI_bit hx]; rfl
where
  or_lt32' {a b : Nat} (ha : a < 4294967296) (hb : b < 4294967296) : a ||| b < 4294967296 := Nat.or_lt_two_pow (n := 32) ha hb
  len_split' {α : Type} (p q : α → Bool) : ∀ l : List α, (l.filter p).length = (l.filter fun x => p x && q x).length + (l.filter fun x => p x && !q x).length
    | [] => rfl
    | x :: l => by
      have ih := len_split' p q l
      rw [List.filter_cons, List.filter_cons, List.filter_cons]
      cases p x <;> cases q x <;> simp [ih] <;> omega
  pop_split' {s r : Nat} (hs : s < 4294967296) (hr : r < 4294967296) (h : ∀ i, r.testBit i = true → s.testBit i = true) : popN s = popN r + popN (andN s r) := by
    unfold popN bitsN
    rw [len_split' s.testBit r.testBit]
    congr 1
    · congr 1
      apply List.filter_congr
      intro i _
      cases hri : r.testBit i
      · simp
      · rw [h i hri]; rfl
    · congr 1
      apply List.filter_congr
      intro i _
      rw [testBit_andN hs hr]
/-- The state of the reference's search: Q waits. -/
structure QI (a : List Nat) (s f n M : Nat) (Q : List Nat) : Prop where
  reach : ReachI a s f M
  lt : M < 2 ^ n
  inM : ∀ x ∈ Q, M.testBit x = true
  done : ∀ x, M.testBit x = true → ¬ x ∈ Q → ∀ u, s.testBit u = true → (a.getD x 0).testBit u = true → M.testBit u = true
  len : Q.length ≤ popN M
/-- The state while x is looked at: its neighbours among the first k of the set are met. -/
structure QJ (a : List Nat) (s f n x k M : Nat) (Q : List Nat) : Prop where
  reach : ReachI a s f M
  lt : M < 2 ^ n
  inM : ∀ y ∈ Q, M.testBit y = true
  atx : M.testBit x = true
  done : ∀ y, M.testBit y = true → ¬ y ∈ Q → y ≠ x → ∀ u, s.testBit u = true → (a.getD y 0).testBit u = true → M.testBit u = true
  some : ∀ j (h : j < (bitsN s).length), j < k → (a.getD x 0).testBit (bitsN s)[j] = true → M.testBit (bitsN s)[j] = true
  len : Q.length ≤ popN M
/-- A number put into a rising list: where the list lies then. -/
theorem intoB_new {B : Nat} {v : Value} {m x : Nat} {w : World} (hv : OwnB w B 2 v m) (hm : m < 4294967296) (hx : x < 32) (h : m.testBit x = false) :
    Calls Tryz.prog 155 #[v, .int .i64 (x : Int)] w fun e w' => ∃ u, e = .returned u ∧ OwnB w' w.heap.size 2 u (m ||| bit x) ∧ Below w.heap.size w w' := by
  have hl := bitsI_len m
  refine (l1Into_any _ _ _ _ hv.ints (by omega) (bitsI_sorted m) (fun hn => by have := ((mem_bitsI hm).1 hn).2; simp [h] at this)).mono ?_
  rintro e w' ⟨u, k, rfl, hk, h1, h2, hown, hb⟩
  refine ⟨u, rfl, ?_, hb⟩
  rw [bitsI_or hm hx h1 h2] at hown
  have e : (bitsI m).length + 1 = (bitsI (m ||| bit x)).length := by rw [← bitsI_or hm hx h1 h2, intoL_len]
  rw [e] at hown
  exact hown
