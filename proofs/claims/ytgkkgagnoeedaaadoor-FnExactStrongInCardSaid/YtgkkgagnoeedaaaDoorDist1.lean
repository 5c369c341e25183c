/- Distances inside a set, by the program: layer by layer. -/
import Derived.Test.YtgkkgagnoeedaaaDoorDistM
import Derived.Test.YtgkkgagnoeedaaaDoorWide2
import Derived.Test.YtgkkgagnoeedaaaDoorReach
import Derived.Test.YtgkkgagnoeedaaaDoorReach2
namespace Go.Proofs.YtgkkgagnoeedaaaDoor
open Go.RowKit
theorem bits_natsI3 (m : Nat) : bitsI m = natsI (bitsN m) := by simp [bitsI, natsI]
theorem pop_more {a b : Nat} (ha : a < 4294967296) (hb : b < 4294967296) (h : ∀ i, a.testBit i = true → b.testBit i = true) {u : Nat} (hu : b.testBit u = true) (hn : a.testBit u = false) : popN a + 1 ≤ popN b := by
  have hu32 := bit_lt_of (n := 32) hb hu
  rw [← popN_add ha hu32 hn]
  refine popN_le ?_ hb fun i hi => ?_
  · exact Nat.or_lt_two_pow (n := 32) ha (bit_lt hu32)
  · rw [Nat.testBit_or, testBit_bit, Bool.or_eq_true] at hi
    rcases hi with hi | hi
    · exact h i hi
    · have : u = i := by simpa using hi
      subst this; exact hu
theorem some_bit {m : Nat} (h : m ≠ 0) : ∃ u, m.testBit u = true := Nat.exists_testBit_of_ne_zero h
set_option maxRecDepth 100000 in
set_option maxHeartbeats 8000000 in
theorem distances_any {S : Nat → Prop} {nv : Value} {a : List Nat} {n wi v : Nat} {w : World} (ht : Tab w) (hI : DistI a wi v n) (hn : SlI S w .u32 nv (natsI a)) :
    Calls Tryd.prog 68 #[nv, .int .i64 (v : Int), .int .u32 (wi : Int)] w fun e w' => ∃ ob D, e = .returned (.slice (some ⟨ob, 0, none⟩) n n) ∧ w.heap.size ≤ ob ∧ Row w' ob n (tabV D) ∧ IsDist a wi v n D ∧ Below w.heap.size w w' := by
  have h16 := hI.wide.le
  have hp := pow16_lt h16
  have hlen := hI.wide.len
  subst hlen
  have hvn := hI.v
  have hwi32 : wi < 4294967296 := Nat.lt_trans hI.wi hp
  have hHI := Lib.hid hI
  have hmk := run_make_row' (P := Tryd.prog) 84 3 (.int .i64 0) 8 elInt.ht elInt.hi rfl .i64 .i64 a.length (by omega) (by omega)
  have hone := fun W : World => one_any (v : Int) W (by omega) (by omega)
  rw [Int.toNat_natCast] at hone
  have hmlt : ∀ m ∈ a, m < 4294967296 := hI.wide.lt32
  obtain ⟨nb, no, nc, hne, hnc⟩ := hn.at_
  have hne := hne (by rw [natsI_len]; omega)
  subst hne
  rw [natsI_len]
  have HNC := Lib.hid hnc
  clear hn hnc
  have hq1 : Below w.heap.size w (w.alloc (.cells (madeCells #[Value.int .i64 0] a.length) 3)) := (Below.refl _ _).alloc (Nat.le_refl _) _
  have hr1 : Row (w.alloc (.cells (madeCells #[Value.int .i64 0] a.length) 3)) w.heap.size a.length (tabV fun i => if i < 0 then -1 else 0) :=
    Row.ofOwn (Own.made w w.heap.size 3 (.int .i64 0) a.length (Nat.le_refl _) (by omega)) (fun i hi => by simp [tabV])
  go_enter Tryd.func68, Tryd.ntmps68
  go_wp2
  generalize hob : w.heap.size = ob at hr1 ⊢
  have HOB := Lib.hid hob
  generalize w.alloc (.cells (madeCells #[Value.int .i64 0] a.length) 3) = w1 at hr1 hq1 ⊢
  go_loopw [22] (fun i wr => ∃ k : Nat, k ≤ a.length ∧ i = .int .i64 k ∧ Row wr ob a.length (tabV fun j => if j < k then -1 else 0) ∧ Below w.heap.size w wr) (fun i _ => a.length - (intOf i).toNat)
  case atStart => exact ⟨0, Nat.zero_le _, rfl, hr1, hq1⟩
  case round =>
    clear hr1 hq1 hmk
    obtain ⟨k, hk, rfl, hr, hq⟩ := hrel
    by_cases hlt : k < a.length
    case pos =>
      obtain ⟨c1, f1⟩ := hr k hlt
      have hs : Row (wr.setCell ⟨ob, k, none⟩ (.int .i64 (-1))) ob a.length (tabV fun j => if j < k + 1 then -1 else 0) := hr.set hlt fun i _ => by
        unfold tabV
        by_cases e : k = i
        · subst e; simp
        · by_cases e2 : i < k
          · have : i < k + 1 := by omega
            simp [e, e2, this]
          · have : ¬ i < k + 1 := by omega
            simp [e, e2, this]
      have hq3 := hq.setCell (p := ⟨ob, k, none⟩) (by rw [HOB.out]; exact Nat.le_refl _) (.int .i64 (-1))
      unfold tabV at c1
      go_wp2
      go_roundw
      case rel => exact ⟨k + 1, by omega, by go_num, hs, hq3⟩
      case measure => simp [intOf]; omega
    obtain rfl : k = a.length := by omega
    obtain ⟨c1, f1⟩ := hr v hvn
    have hs : Row (wr.setCell ⟨ob, v, none⟩ (.int .i64 0)) ob a.length (tabV fun u => if v = u then 0 else -1) := hr.set hvn fun i hi => by
      unfold tabV
      by_cases e : v = i
      · subst e; simp
      · simp [e, hi]
    have hq3 := hq.setCell (p := ⟨ob, v, none⟩) (by rw [HOB.out]; exact Nat.le_refl _) (.int .i64 0)
    have HL0 := Lib.hid (LayI.start (a := a) (wi := wi) (v := v))
    have HD0 := Lib.hid (PartD.start (a := a) (wi := wi) (v := v) (n := a.length))
    have hb0 : bit v = ballN a wi v 0 := rfl
    have hbp : 1 ≤ popN (bit v) := by
      have := pop_more (a := 0) (b := bit v) (by omega) (bit_lt (by omega)) (fun i hi => by simp at hi) (u := v) (by rw [testBit_bit]; simp) (by simp)
      omega
    have hbne : bit v ≠ 0 := by intro e; rw [e] at hbp; simp [popN, bitsN_zero] at hbp
    unfold tabV at c1
    go_wp2_with (go_at_call 70; refine (hone _).mono ?_; rintro e w' ⟨rfl, rfl⟩)
    generalize wr.setCell ⟨ob, v, none⟩ (.int .i64 0) = w2 at hs hq3 ⊢
    clear c1 f1 hr hq hone
    go_loopw [9, 10, 11] (fun f l s wr => ∃ (k L : Nat) (D : Nat → Int), f = .int .i64 ((k + 1 : Nat) : Int) ∧ l = .int .u32 (L : Int) ∧ s = .int .u32 (ballN a wi v k : Int) ∧ k ≤ 16 ∧ RowKit.Hid (LayI a wi v k L) ∧ RowKit.Hid (PartD a wi v a.length k D) ∧ (L ≠ 0 → k + 1 ≤ popN (ballN a wi v k)) ∧ Row wr ob a.length (tabV D) ∧ Below w.heap.size w wr) (fun _ l s _ => 2 * (33 - popN (intOf s).toNat) + (if (intOf l).toNat = 0 then 0 else 1))
    case atStart => exact ⟨0, bit v, _, rfl, rfl, rfl, by omega, HL0, HD0, (fun _ => by rw [← hb0]; omega), hs, hq3⟩
    case round =>
      clear hs hq3 HL0 HD0 hb0 hbp hbne
      obtain ⟨k, L, D, rfl, rfl, rfl, hk16, HL, HD, hpk, hr, hq⟩ := hrel
      have hLn := HL.out.lt hHI.out
      have hL32 : L < 4294967296 := Nat.lt_trans hLn hp
      have hb32 := ball_lt32 hHI.out k
      by_cases hL0 : L = 0
      · subst hL0
        have HE := Lib.hid (HD.out.end_ hHI.out HL.out)
        clear hpk
        go_wp2
        go_ret
        exact ⟨_, D, rfl, by rw [HOB.out]; exact Nat.le_refl _, hr, HE.out, hq⟩
      have hpk := hpk hL0
      have hbL : ((L : Int) != 0) = true := by rw [bne_iff_ne]; omega
      have hbL2 : (L != 0) = true := by rw [bne_iff_ne]; exact hL0
      have hli := list_any L wr (ht.below hq (Nat.le_refl _)) hL32
      have hRL := bitsN_len L
      have HNXT := Lib.hid (HL.out.next hHI.out)
      have HRN := Lib.hid (fun u (hu : u ∈ bitsN L) => bit_lt_of hLn ((mem_bitsN hL32).1 hu))
      have HBL := Lib.hid (bits_natsI3 L)
      have HOT := Lib.hid (fun j => orN_lt (a := a) (l := (bitsN L).take j) hHI.out.wide.lt)
      go_wp2_with fail
      refine hli.mono ?_
      rintro e w3 ⟨u, rfl, hu, hb3⟩
      have hq3 := hq.trans (hb3.mono hq.size)
      have hr3 := hr.below hb3 (Nat.le_refl _)
      have hui := Own.ints (xs := bitsI L) hu (by have := bitsI_len L; omega)
      rw [HBL.out] at hui
      have hul : (bitsI L).length = (bitsN L).length := by rw [HBL.out, natsI_len]
      rw [hul] at hu
      obtain ⟨ua, uc, rfl⟩ := hu.isSlice
      obtain ⟨ub, uo, ucap, hue, huc⟩ := hui.at_
      rw [natsI_len] at hue
      have HUC := Lib.hid huc
      obtain ⟨R, hR⟩ : ∃ R, R = bitsN L := ⟨_, rfl⟩
      rw [← hR] at HRN HOT hue HUC HNXT hRL ⊢
      have HR := Lib.hid hR
      clear hu hui hul hli huc hr hq hb3 hR
      go_wp2
      go_loopw [12, 43] (fun o i wr => ∃ j : Nat, j ≤ R.length ∧ i = .int .i64 j ∧ o = .int .u32 (orN a (R.take j) : Int) ∧ wr = w3) (fun _ i _ => R.length - (intOf i).toNat)
      case atStart => exact ⟨0, Nat.zero_le _, rfl, rfl, rfl⟩
      case round =>
        obtain ⟨j, hj, rfl, rfl, rfl⟩ := hrel
        by_cases hlt : j < R.length
        case pos =>
          have hc := HUC.out j (by rw [natsI_len]; exact hlt)
          rw [natsI_get] at hc
          have hue2 := hue (by omega)
          simp only [Value.slice.injEq] at hue2
          obtain ⟨rfl, -, rfl⟩ := hue2
          have hyn := HRN.out R[j] (List.getElem_mem hlt)
          have htk : orN a (R.take (j + 1)) = orN a (R.take j) ||| a.getD R[j] 0 := by rw [List.take_succ_eq_append_getElem hlt, orN_snoc]
          generalize R[j] = y at hc hyn htk
          have hcy := HNC.out y (by rw [natsI_len]; omega)
          rw [natsI_get] at hcy
          have hay : a.getD y 0 = a[y] := by simp [hyn]
          rw [hay] at htk
          have ham := hmlt _ (List.getElem_mem hyn)
          have hok : orN a (R.take j) < 4294967296 := Nat.lt_trans (HOT.out j) hp
          generalize a[y] = m2 at hcy htk ham
          have hor2 : bits BinOp.or IntKind.u32 (orN a (R.take j) : Int) (m2 : Int) = ((orN a (R.take j) ||| m2 : Nat) : Int) := u32_or_nat _ _ hok ham
          rw [← htk] at hor2
          have hcy2 := (hq3.cell (p := ⟨nb, no + y, none⟩) (cell_lt hcy)).trans hcy
          clear htk hay hcy hue
          go_wp2
          go_roundw
          case rel => exact ⟨j + 1, by omega, by go_num, rfl, by trivial⟩
          case measure => simp [intOf]; omega
        obtain rfl : j = R.length := by omega
        have htk : R.take R.length = R := List.take_length
        rw [htk]
        have ho32 : orN a R < 4294967296 := by have := HOT.out R.length; rw [htk] at this; exact Nat.lt_trans this hp
        have hnd : bits BinOp.and IntKind.u32 (orN a R : Int) (wi : Int) = ((orN a R &&& wi : Nat) : Int) := u32_and_nat _ _ ho32 hwi32
        have hA32 : orN a R &&& wi < 4294967296 := Nat.lt_of_le_of_lt Nat.and_le_right hwi32
        have hand : bits BinOp.andNot IntKind.u32 ((orN a R &&& wi : Nat) : Int) (ballN a wi v k : Int) = (andN (orN a R &&& wi) (ballN a wi v k) : Int) := u32_andNot_nat _ _ hA32 hb32
        have HSEEN := Lib.hid (HNXT.out.seen hHI.out)
        have hM32 : andN (orN a R &&& wi) (ballN a wi v k) < 4294967296 := Nat.lt_of_le_of_lt (andN_le _ _) hA32
        have hMn := HNXT.out.lt hHI.out
        generalize orN a R &&& wi = A at hnd hand hM32 HNXT HSEEN hMn
        generalize andN A (ballN a wi v k) = M at hand hM32 HNXT HSEEN hMn
        have hos : bits BinOp.or IntKind.u32 (ballN a wi v k : Int) (M : Int) = (ballN a wi v (k + 1) : Int) := by rw [← HSEEN.out]; exact u32_or_nat _ _ hb32 hM32
        have hli2 := list_any M wr (ht.below hq3 (Nat.le_refl _)) hM32
        have hRM := bitsN_len M
        have HBM := Lib.hid (bits_natsI3 M)
        have HRMn := Lib.hid (fun u (hu : u ∈ bitsN M) => bit_lt_of hMn ((mem_bitsN hM32).1 hu))
        have HMM := Lib.hid (fun u => mem_bitsN (i := u) hM32)
        have HPOP : RowKit.Hid ((M ≠ 0 → popN (ballN a wi v k) + 1 ≤ popN (ballN a wi v (k + 1))) ∧ popN (ballN a wi v k) ≤ popN (ballN a wi v (k + 1)) ∧ popN (ballN a wi v (k + 1)) ≤ 16) := Lib.hid (by
          have hb1 := ball_lt32 hHI.out (k + 1)
          refine ⟨fun hne => ?_, popN_le hb32 hb1 fun i hi => ball_mono hHI.out hi (Nat.le_succ k), Nat.le_trans (popN_pow (by omega) (ball_lt hHI.out (k + 1))) h16⟩
          obtain ⟨u, hu⟩ := some_bit hne
          obtain ⟨g1, g2⟩ := (HNXT.out u).1 hu
          exact pop_more hb32 hb1 (fun i hi => ball_mono hHI.out hi (Nat.le_succ k)) g1 (g2 k (by omega)))
        clear htk hMn hue ho32 hA32
        go_wp2_with fail
        refine hli2.mono ?_
        rintro e w4 ⟨u2, rfl, hu2, hb4⟩
        have hq4 := hq3.trans (hb4.mono hq3.size)
        have hr4 := hr3.below hb4 (Nat.le_refl _)
        have hobl := hr3.lt (by omega)
        have hui2 := Own.ints (xs := bitsI M) hu2 (by have := bitsI_len M; omega)
        have hug := hu2.ge
        rw [HBM.out] at hui2
        have hul2 : (bitsI M).length = (bitsN M).length := by rw [HBM.out, natsI_len]
        rw [hul2] at hu2
        obtain ⟨va, vc, rfl⟩ := hu2.isSlice
        obtain ⟨vb, vo, vcap, hve, hvc⟩ := hui2.at_
        rw [natsI_len] at hve
        have HVC := Lib.hid hvc; have HUG := Lib.hid hug
        clear hu2 hui2 hul2 hli2 hvc hug hb4 hq3 hr3
        go_wp2
        go_loopw [65] (fun i wr => ∃ j : Nat, j ≤ (bitsN M).length ∧ i = .int .i64 j ∧ Row wr ob a.length (tabV fun u => if u ∈ (bitsN M).take j then ((k + 1 : Nat) : Int) else D u) ∧ Kept2 w4 wr ob ob ∧ Below w.heap.size w wr) (fun i _ => (bitsN M).length - (intOf i).toNat)
        case atStart => exact ⟨0, Nat.zero_le _, rfl, by simpa using hr4, Kept2.refl _ _ _, hq4⟩
        case round =>
          obtain ⟨w5, rfl⟩ : ∃ wx : World, wx = wr := ⟨_, rfl⟩
          clear hr4 hq4
          obtain ⟨j, hj, rfl, hr, hk2, hq⟩ := hrel
          by_cases hlt : j < (bitsN M).length
          case neg =>
            obtain rfl : j = (bitsN M).length := by omega
            have HD2 : RowKit.Hid (PartD a wi v a.length (k + 1) (fun u => if u ∈ (bitsN M).take (bitsN M).length then ((k + 1 : Nat) : Int) else D u)) := Lib.hid (by
              refine HD.out.next hHI.out HNXT.out fun u hu => ?_
              rw [List.take_length]
              by_cases e : M.testBit u = true
              · rw [if_pos e, if_pos ((HMM.out u).2 e)]
              · rw [if_neg e, if_neg (fun h => e ((HMM.out u).1 h))])
            have hpp := HPOP.out
            go_wp2
            go_roundw
            case rel => exact ⟨k + 1, M, _, by go_num, rfl, rfl, by omega, HNXT, HD2, (fun h => by have := hpp.1 h; omega), hr, hq⟩
            case measure =>
              have h1 : ((ballN a wi v k : Int)).toNat = ballN a wi v k := by simp
              have h2 : ((ballN a wi v (k + 1) : Int)).toNat = ballN a wi v (k + 1) := by simp
              simp only [intOf, Int.toNat_natCast]
              by_cases hM0 : M = 0
              · simp only [hM0, hL0, ↓reduceIte]; omega
              · have := hpp.1 hM0
                simp only [hM0, hL0, ↓reduceIte]; omega
          have hc := HVC.out j (by rw [natsI_len]; exact hlt)
          rw [natsI_get] at hc
          have hve2 := hve (by omega)
          simp only [Value.slice.injEq] at hve2
          obtain ⟨rfl, -, rfl⟩ := hve2
          have hyn := HRMn.out (bitsN M)[j] (List.getElem_mem hlt)
          have htk : (bitsN M).take (j + 1) = (bitsN M).take j ++ [(bitsN M)[j]] := List.take_succ_eq_append_getElem hlt
          have HTK := Lib.hid htk; clear htk
          generalize (bitsN M)[j] = y at hc hyn HTK
          have hvob : vb ≠ ob := by have := HUG.out vb rfl; omega
          have hc5 := hk2.cell hc hvob hvob
          obtain ⟨c1, f1⟩ := hr y hyn
          unfold tabV at c1
          have hs : Row (w5.setCell ⟨ob, y, none⟩ (.int .i64 ((k + 1 : Nat) : Int))) ob a.length (tabV fun u => if u ∈ (bitsN M).take (j + 1) then ((k + 1 : Nat) : Int) else D u) := hr.set hyn fun i _ => by
            unfold tabV
            rw [HTK.out]
            simp only [List.mem_append, List.mem_singleton]
            by_cases e : y = i
            · subst e; simp
            · have e2 : ¬ i = y := fun h => e h.symm
              simp [e, e2]
          have hks := hk2.trans (Kept2.set (w := w5) (x := ob) (y := ob) (z := ob) (j := y) (v := .int .i64 ((k + 1 : Nat) : Int)) (.inl rfl))
          have hqs := hq.setCell (p := ⟨ob, y, none⟩) (by rw [HOB.out]; exact Nat.le_refl _) (.int .i64 ((k + 1 : Nat) : Int))
          obtain ⟨z, hz⟩ : ∃ z, w5.cell? ⟨ob, y, none⟩ = some (.int .i64 z) := ⟨_, c1⟩
          clear hc hve c1
          go_wp2
          go_roundw
          case rel => exact ⟨j + 1, by omega, by go_num, hs, hks, hqs⟩
          case measure => simp [intOf]; omega
end Go.Proofs.YtgkkgagnoeedaaaDoor
