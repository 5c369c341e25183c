/- The greatest modules, by the program. -/
import Derived.Test.YthpbeiihlembnaaDoorMdS
import Derived.Test.YthpbeiihlembnaaDoorClosW
import Derived.Test.YthpbeiihlembnaaDoorReach
import Derived.Test.YthpbeiihlembnaaDoorParts3
namespace Go.Proofs.YthpbeiihlembnaaDoor
open Go.RowKit
theorem rise_bits {s n : Nat} (hs : s < 2 ^ n) (hn : n ≤ 16) : Rise (bitsI s) (n : Int) := by
  have hs32 := Nat.lt_trans hs (pow16_lt hn)
  intro i hi _
  have hm := (mem_bitsI hs32).1 (List.getElem_mem hi)
  have hb := bit_lt_of hs hm.2
  exact ⟨by omega, by omega, fun j hj => List.pairwise_iff_getElem.1 (bitsI_sorted s) j i (by omega) hi hj⟩
theorem mask_pair {u v : Nat} : maskL (pairI (v : Int) (u : Int)) = bit u ||| bit v := by
  apply nat_ext
  intro i
  rw [Bool.eq_iff_iff, testBit_maskL (fun x hx => by rcases mem_pairI.1 hx with rfl | rfl <;> omega), decide_eq_true_eq, Nat.testBit_or, Bool.or_eq_true, testBit_bit, testBit_bit, decide_eq_true_eq, decide_eq_true_eq, mem_pairI]
  omega
theorem clos_mask {g : List (List Int)} {s : Nat} {t : List Int} (hs : s < 4294967296) : maskL (closW g (bitsI s) t) = s ↔ closW g (bitsI s) t = bitsI s := by
  have hin : ∀ x ∈ closW g (bitsI s) t, 0 ≤ x ∧ x < 32 := fun x hx => by
    have := (mem_bitsI hs).1 (mem_closW.1 hx).1
    have := bit_lt_of (n := 32) hs this.2
    omega
  constructor
  · intro h
    rw [← bitsI_maskL (closW_sorted (bitsI_sorted s) t) hin, h]
  · intro h
    rw [h, maskL_bitsI hs]
theorem clos_mask_lt {g : List (List Int)} {s : Nat} {t : List Int} (hs : s < 4294967296) : maskL (closW g (bitsI s) t) < 4294967296 := maskL_lt32 fun x hx => by
  have := (mem_bitsI hs).1 (mem_closW.1 hx).1
  have := bit_lt_of (n := 32) hs this.2
  omega
set_option maxRecDepth 100000 in
set_option maxHeartbeats 8000000 in
theorem largestModules_any {S : Nat → Prop} {av : Value} {g : List (List Int)} {s : Nat} {w : World} (ht : Tab w) (hg : GOk g) (hp : PrimeS g s) (hv : SlI S w .u32 av (natsI (netsL g))) :
    Calls Tryd.prog 177 #[av, .int .u32 (s : Int)] w fun e w' => ∃ u, e = .returned u ∧ Own w' w.heap.size 70 1 u (grtN g s).length ((natsI (grtN g s)).map (.int .u32)) ∧ Below w.heap.size w w' := by
  have h16 := hg.hi
  have hsn := hp.lt
  have hs32 := Nat.lt_trans hsn (pow16_lt h16)
  have HRI := Lib.hid (rise_bits hsn h16)
  have hcl := fun (W : World) (hb : Below w.heap.size w W) (u v : Nat) (hu : s.testBit u = true) (hv' : s.testBit v = true) => closureOfW_any av g (bitsI s) (pairI (v : Int) (u : Int)) W (ht.below hb (Nat.le_refl _)) hg HRI.out (pairI_sorted _ _) (pair_in ((mem_bitsI hs32).2 ⟨by omega, by simpa using hv'⟩) ((mem_bitsI hs32).2 ⟨by omega, by simpa using hu⟩)) (hv.below hb (Nat.le_refl _))
  simp only [mask_pair, maskL_bitsI hs32] at hcl
  have HCL := Lib.hid hcl
  have HG := Lib.hid hg
  have HP := Lib.hid hp
  have ho0 : Own (w.alloc (.cells #[] 70)) w.heap.size 70 1 (.slice (some ⟨w.heap.size, 0, none⟩) 0 0) 0 [] := World.ownsRow_lit (base := w.heap.size) (e := 70) (size := 1) w #[] 0 (Nat.le_refl _) (by unfold maxLen; omega) rfl
  have hq0 : Below w.heap.size w (w.alloc (.cells #[] 70)) := (Below.refl _ _).alloc (Nat.le_refl _) _
  have H0 := Lib.hid (GrtI.start (g := g) hs32)
  have hr0 : andN s 0 = s := by
    apply nat_ext; intro i
    rw [testBit_andN hs32 (by omega), Nat.zero_testBit]; simp
  have HDN := Lib.hid (fun out D (h : GrtI g s out D) => h.done hs32)
  have HNX := Lib.hid (fun out D v (h : GrtI g s out D) => h.next (v := v) HG.out HP.out hs32)
  clear hg hp hcl
  obtain ⟨va, vc, rfl⟩ := hv.slice
  go_enter Tryd.func177, Tryd.ntmps177
  go_wp2
  go_loopw [5, 6] (fun ov rv wr => ∃ (D : Nat) (out : List Nat), rv = .int .u32 (andN s D : Int) ∧ RowKit.Hid (GrtI g s out D) ∧ Own wr w.heap.size 70 1 ov out.length ((natsI out).map (.int .u32)) ∧ Below w.heap.size w wr) (fun _ rv _ => popN (intOf rv).toNat)
  case atStart => exact ⟨0, [], by rw [hr0], H0, by simpa [natsI] using ho0, hq0⟩
  case round =>
    clear H0 ho0 hq0 hr0
    obtain ⟨D, out, rfl, HI, ho, hq⟩ := hrel
    obtain ⟨wi, rfl⟩ : ∃ wi : World, wi = wr := ⟨_, rfl⟩
    have hD := HI.out.lt
    have hlen := HI.out.len
    have hr32 := Nat.lt_of_le_of_lt (andN_le s D) hs32
    have hos := hq.size
    obtain ⟨oa, oc, rfl⟩ := ho.isSlice
    by_cases h0 : andN s D = 0
    · have hf := HDN.out out D HI.out (fun i hi => (andN_zero_iff hs32 hD).1 h0 i hi)
      have HF := Lib.hid hf
      rw [h0]
      clear hf h0
      go_wp2
      go_ret
      rw [← HF.out]
      exact ⟨_, rfl, ho, hq⟩
    obtain ⟨r, hr⟩ : ∃ r, r = andN s D := ⟨_, rfl⟩
    have hbd : ∀ i, r.testBit i = (s.testBit i && !D.testBit i) := fun i => by rw [hr, testBit_andN hs32 hD]
    have HBD := Lib.hid hbd
    have HRR := Lib.hid hr
    rw [← hr] at h0 hr32 ⊢
    have hcb := ctz_bit h0 hr32
    have hcl := fun i => ctz_least (i := i) h0 hr32
    have hcs := hcb
    rw [hbd, Bool.and_eq_true, Bool.not_eq_true'] at hcs
    have hc32 := bit_lt_of (n := 32) hr32 hcb
    have HNXT := Lib.hid (HNX.out out D _ HI.out hcs.1 hcs.2 (fun i hi hlt => by
      cases hb : D.testBit i
      · have := hcl i (by rw [hbd, hi, hb]; rfl); omega
      · rfl))
    have hbz : ((r : Int) != 0) = true := by rw [bne_iff_ne]; omega
    have hbz2 : (r != 0) = true := by rw [bne_iff_ne]; exact h0
    have hls := least_any r wi (ht.below hq (Nat.le_refl _)) h0 hr32
    have HM0 := Lib.hid (InMod.start (g := g) (R := bitsN (andN s (bit (Lib.ctz 32 r)))) hs32 hcs.1)
    have HCS := Lib.hid hcs.1
    have hblt := bit_lt hc32
    have hpl : popN (andN r (mdM g s (Lib.ctz 32 r))) < popN r := popN_lt hr32 (fun i hi => by rw [testBit_andN hr32 (mdM_lt hs32), Bool.and_eq_true] at hi; exact hi.1) hcb (by rw [testBit_andN hr32 (mdM_lt hs32), mdM_self hs32 hcs.1]; simp)
    clear hcl hbd hcb hr h0 hcs HI HDN HNX
    generalize Lib.ctz 32 r = v at *
    have hon := fun W : World => one_any (v : Int) W (by omega) (by omega)
    rw [Int.toNat_natCast] at hon
    have han : bits BinOp.andNot IntKind.u32 (s : Int) (bit v : Int) = (andN s (bit v) : Int) := u32_andNot_nat _ _ hs32 hblt
    have ha32 := Nat.lt_of_le_of_lt (andN_le s (bit v)) hs32
    have HR := Lib.hid (fun u (hu : u ∈ bitsN (andN s (bit v))) => (by
      have := (mem_bitsN ha32).1 hu
      rw [testBit_andN hs32 hblt, Bool.and_eq_true] at this
      exact this.1 : s.testBit u = true))
    have HRA := Lib.hid (fun i (h : (mdM g s v).testBit i = true) (hne : i ≠ v) => (mem_bitsN ha32).2 (by rw [testBit_andN hs32 hblt, mdM_sub hs32 h, testBit_bit]; simp; exact fun e => hne e.symm))
    have hli := fun (W : World) (hb : Below w.heap.size w W) => list_any (andN s (bit v)) W (ht.below hb (Nat.le_refl _)) ha32
    have hbl := bitsI_lenN (andN s (bit v))
    have hb32 := bitsN_len (andN s (bit v))
    obtain ⟨B, hB⟩ : ∃ B, B = bit v := ⟨_, rfl⟩
    rw [← hB] at hon han hblt HM0 hli
    have HB := Lib.hid hB
    clear hB
    go_wp2_with (first | (go_at_call 100; refine hls.mono ?_; rintro e w' ⟨rfl, rfl⟩) | (go_at_call 77; refine (hon _).mono ?_; rintro e w' ⟨rfl, rfl⟩))
    refine (hli _ hq).mono ?_
    rintro e w1 ⟨lv, rfl, hlv, hb1⟩
    have hq1 := hq.trans (hb1.mono hq.size)
    have ho1 := ho.below hb1 (Nat.le_refl _)
    have hq1s := hq1.size
    rw [← HB.out] at hbl hb32 HR HRA
    have hli2 := Own.ints (xs := bitsI (andN s B)) hlv (by omega)
    obtain ⟨la, lc, rfl⟩ := hlv.isSlice
    obtain ⟨lb, lo, lcap, hle, hlc⟩ := hli2.at_
    rw [hbl] at hle ⊢
    have HLC := Lib.hid hlc
    have HBL := Lib.hid hbl
    clear hli hlv hli2 hlc hbl hq ho hb1 hls
    generalize hR : bitsN (andN s B) = R at *
    have HRE := Lib.hid hR
    clear hR
    go_wp2
    go_loopw [8, 26] (fun mv iv wr => ∃ (j M : Nat), j ≤ R.length ∧ iv = .int .i64 j ∧ mv = .int .u32 (M : Int) ∧ RowKit.Hid (InMod g s v R j M) ∧ Below w1.heap.size w1 wr) (fun _ iv _ => R.length - (intOf iv).toNat)
    case atStart => exact ⟨0, B, Nat.zero_le _, rfl, rfl, HM0, Below.refl _ _⟩
    case round =>
      clear HM0
      obtain ⟨j, M, hj, rfl, rfl, HM, hbj⟩ := hrel
      obtain ⟨wj, rfl⟩ : ∃ wj : World, wj = wr := ⟨_, rfl⟩
      have hM32 := HM.out.lt
      by_cases hjl : j < R.length
      case neg =>
        obtain rfl : j = R.length := by omega
        have hMe := HM.out.done (Nat.le_refl _) (fun i h hne => HRA.out i h hne)
        have hqj := hq1.trans (hbj.mono hq1s)
        have hoj := ho1.below hbj (Nat.le_refl _)
        have hqjs := hqj.size
        have HNX2 := Lib.hid (show GrtI g s (out ++ [M]) (D ||| M) from by rw [hMe]; exact HNXT.out)
        have han2 : bits BinOp.andNot IntKind.u32 (r : Int) (M : Int) = (andN s (D ||| M) : Int) := by
          have e : andN r M = andN s (D ||| M) := by rw [HRR.out, andN_andN hs32 hD hM32]
          rw [← e]; exact u32_andNot_nat _ _ hr32 hM32
        have hms : popN (andN s (D ||| M)) < popN r := by
          have : andN s (D ||| M) = andN r (mdM g s v) := by rw [HRR.out, andN_andN hs32 hD (mdM_lt hs32), hMe]
          rw [this]; exact hpl
        clear hMe HNXT HM
        go_wp2_with (at_builtin; refine wpList_append1 elVs rfl _ _ rfl hoj rfl rfl rfl (by omega) hqjs ?_; intro v' w8 hown8 hkept hmv)
        have hq8 := hkept.below hqj hqjs (fun k hk => by have := hoj.ge k hk; omega)
        go_roundw
        case rel => exact ⟨D ||| M, out ++ [M], rfl, HNX2, by simpa [natsI] using hown8, hq8⟩
        case measure => simp [intOf]; exact hms
      have hu := HR.out _ (List.getElem_mem hjl)
      have hu32 := bit_lt_of (n := 32) hs32 hu
      have d1 : wj.cell? ⟨lb, lo + j, none⟩ = some (.int .i64 (R[j] : Int)) := by
        have h1 := HLC.out j (by rw [HBL.out]; exact hjl)
        rw [bitsI_get] at h1
        rw [hbj.cell (cell_lt h1), h1]
        simp only [HRE.out]
      obtain ⟨rfl⟩ : la = some ⟨lb, lo, none⟩ := by
        have := hle (by omega)
        simpa using (Value.slice.inj this).1
      have hclj := HCL.out wj (hq1.trans (hbj.mono hq1s)) R[j] v hu HCS.out
      have hcm := clos_mask (g := g) (t := pairI (v : Int) (R[j] : Int)) hs32
      have hcp := clos_pair HP.out hs32 HCS.out hu
      have HSK := Lib.hid (fun h => HM.out.skip hjl h)
      have HPU := Lib.hid (fun h => HM.out.put hs32 hjl HCS.out hu h)
      have hcml := clos_mask_lt (g := g) (t := pairI (v : Int) (R[j] : Int)) hs32
      have hou := fun W : World => one_any (R[j] : Int) W (by omega) (by omega)
      simp only [Int.toNat_natCast] at hou
      have hor : bits BinOp.or IntKind.u32 (bit R[j] : Int) (B : Int) = ((bit R[j] ||| B : Nat) : Int) := u32_or_nat _ _ (bit_lt hu32) hblt
      rw [← HB.out] at hclj
      clear HM
      generalize R[j] = u at *
      generalize maskL (closW g (bitsI s) (pairI (v : Int) (u : Int))) = C at *
      have HCM := Lib.hid hcm
      have HCP := Lib.hid hcp
      clear hcm hcp
      obtain ⟨OB, hOB⟩ : ∃ OB, OB = bit u ||| B := ⟨_, rfl⟩
      rw [← hOB] at hor hclj
      clear hOB
      generalize bit u = bu at *
      go_wp2_with (first | (go_at_call 77; refine (hou _).mono ?_; rintro e w' ⟨rfl, rfl⟩) | (go_at_call 77; refine (hon _).mono ?_; rintro e w' ⟨rfl, rfl⟩))
      refine hclj.mono ?_
      rintro e w5 ⟨rfl, hb5⟩
      have hb6 := hbj.trans (hb5.mono hbj.size)
      clear hclj hb5 hbj
      by_cases hce : C = s
      · have HM2 := Lib.hid (HSK.out (by
          cases hb : (mdM g s v).testBit u
          · rfl
          · exact absurd (HCM.out.1 hce) (HCP.out.2 hb)))
        have hne1 : ((C : Int) != (s : Int)) = false := by rw [hce]; simp
        clear HSK HPU
        subst hce
        go_wp2
        go_roundw
        case rel => exact ⟨j + 1, M, by omega, by go_num, rfl, HM2, hb6⟩
        case measure => simp [intOf]; omega
      · have HM2 := Lib.hid (HPU.out (fun h => hce (HCM.out.2 h)))
        have hne1 : ((C : Int) != (s : Int)) = true := by rw [bne_iff_ne]; omega
        have hne2 : (C != s) = true := by rw [bne_iff_ne]; exact hce
        have hor2 : bits BinOp.or IntKind.u32 (M : Int) (C : Int) = ((M ||| C : Nat) : Int) := u32_or_nat _ _ hM32 hcml
        clear HSK HPU hce
        go_wp2
        go_roundw
        case rel => exact ⟨j + 1, M ||| C, by omega, by go_num, rfl, HM2, hb6⟩
        case measure => simp [intOf]; omega
end Go.Proofs.YthpbeiihlembnaaDoor
