/- The program's list of all modules. -/
import Derived.Test.YtbpjbjeglcphcaaDoorStr2
import Derived.Test.YtbpjbjeglcphcaaDoorSrt2
namespace Go.Proofs.YtbpjbjeglcphcaaDoor
open Go.RowKit
theorem elVsM : Elem Tryd.prog 42 39 1 4 (.int .u32 0) := ⟨Tryd.underlying42, by kernel_rfl, rfl, by omega, by omega⟩
theorem maskL_bitsM {m : Nat} (hm : m < 4294967296) : maskL (bitsI m) = m := by
  apply Nat.eq_of_testBit_eq
  intro i
  rw [testBit_maskL (fun x hx => ((mem_bitsI hm).1 hx).1), Bool.eq_iff_iff, decide_eq_true_eq, mem_bitsI hm, Int.toNat_natCast]
  exact ⟨fun h => h.2, fun h => ⟨by omega, h⟩⟩
theorem rise_bitsM {s n : Nat} (hs : s < 2 ^ n) (hn : n ≤ 16) : Rise (bitsI s) (n : Int) := by
  have hs32 : s < 4294967296 := Nat.lt_of_lt_of_le hs (by have := Nat.pow_le_pow_right (n := 2) (by decide) (show n ≤ 32 by omega); simpa using this)
  intro i hi _
  have hm := (mem_bitsI hs32).1 (List.getElem_mem hi)
  have hb : (bitsI s)[i].toNat < n := by
    apply Nat.lt_of_not_le
    intro hge
    have : s < 2 ^ (bitsI s)[i].toNat := Nat.lt_of_lt_of_le hs (Nat.pow_le_pow_right (by decide) hge)
    rw [Nat.testBit_lt_two_pow this] at hm; cases hm.2
  exact ⟨by omega, by omega, fun j hj => List.pairwise_iff_getElem.1 (bitsI_sorted s) j i (by omega) hi hj⟩
/-- By words: no word splits m. -/
theorem modM_word {g : List (List Int)} {m : Nat} (hg : GOk g) (hm : m < 2 ^ g.length) : modM g m = decide (splN (netsL g) (firstN g.length) m = 0) := by
  have hm32 : m < 4294967296 := Nat.lt_of_lt_of_le hm (by have := Nat.pow_le_pow_right (n := 2) (by decide) (show g.length ≤ 32 by have := hg.hi; omega); simpa using this)
  have h := splN_zero hg (rise_bitsM hm hg.hi)
  rw [maskL_bitsM hm32] at h
  unfold modM
  rw [decide_eq_decide]
  exact h.symm
theorem ModL.snoc {g : List (List Int)} {b : Nat} {ms : List Nat} (h : ModL g b ms) (hb : 0 < b) (hm : modM g b = true) : ModL g (b + 1) (ms ++ [b]) := by
  have := h.ins hb hm ms.length
  simpa using this
theorem ModL.perm {g : List (List Int)} {b : Nat} {ms ms' : List Nat} (h : ModL g b ms) (hp : ms'.Perm ms) : ModL g b ms' := ⟨by rw [hp.length_eq]; exact h.1, fun m => (hp.mem_iff).trans (h.2 m)⟩
set_option maxRecDepth 100000 in
set_option maxHeartbeats 4000000 in
theorem implModulesOf_any {S : Nat → Prop} {v : Value} {g : List (List Int)} {w : World} (ht : Tab w) (hg : GOk g) (h8 : g.length ≤ 8) (hv : SlI S w .u32 v (natsI (netsL g))) :
    Calls Tryd.prog 20 #[v] w fun e w' => ∃ u ms, e = .returned u ∧ Own w' w.heap.size 39 1 u ms.length ((natsI ms).map (.int .u32)) ∧ ModL g (2 ^ g.length) ms ∧ Below w.heap.size w w' := by
  have hnl := netsL_len g
  have hlt := netsL_lt hg
  have hhi := hg.hi
  have hfl : firstN g.length < 2 ^ (netsL g).length := by rw [hnl]; unfold firstN; have := Nat.two_pow_pos g.length; omega
  have hp8 : 2 ^ g.length ≤ 256 := Nat.le_trans (Nat.pow_le_pow_right (by omega) h8) (by decide)
  have hpp := Nat.two_pow_pos g.length
  have hfe : firstN g.length + 1 = 2 ^ g.length := by unfold firstN; omega
  have hlen : (natsI (netsL g)).length = g.length := by rw [natsI_len, hnl]
  obtain ⟨va, vc, rfl⟩ := hv.slice
  have hall := fun (W : World) => allOf_any va g.length vc W (by omega)
  have hspl := fun (W : World) (h : Below w.heap.size w W) (m : Nat) (hm : m < 256) => splitters_any _ (netsL g) (firstN g.length) m W (ht.below h (Nat.le_refl _)) (hv.below h (Nat.le_refl _)) (by omega) hfl (by omega) hlt
  rw [hlen] at hv hspl ⊢
  have hMW := fun m (hm : m < 2 ^ g.length) => modM_word hg hm
  have h0 : 0 < w.heap.size := cell_lt (ht 0 (by omega))
  have hs0 : Own (w.alloc (.cells #[] 39)) w.heap.size 39 1 (.slice (some ⟨w.heap.size, 0, none⟩) 0 0) 0 ((natsI []).map (.int .u32)) := by
    have := World.ownsRow_lit (base := w.heap.size) (e := 39) (size := 1) w #[] 0 (Nat.le_refl _) (by unfold maxLen; omega) rfl
    simpa [Own, natsI] using this
  have hq0 : Below w.heap.size w (w.alloc (.cells #[] 39)) := (Below.refl _ _).alloc (Nat.le_refl _) _
  have HMW := Lib.hid hMW
  have HHV := Lib.hid hv
  obtain ⟨x, hx⟩ : ∃ x, x = 2 ^ g.length := ⟨_, rfl⟩
  rw [← hx] at hp8 hpp hfe ⊢
  have HX := Lib.hid hx
  clear hx hMW hnl hfl hlt hlen
  generalize firstN g.length = f at *
  go_enter Tryd.func20, Tryd.ntmps20
  go_wp2
  go_loopw [3, 4] (fun ov bv wr => ∃ (b : Nat) (ms : List Nat) (ob oc : Nat), 0 < b ∧ b ≤ x ∧ bv = .int .u32 (b : Int) ∧ ov = .slice (some ⟨ob, 0, none⟩) ms.length oc ∧ RowKit.Hid (ModL g b ms) ∧ ms.length < b ∧ Own wr w.heap.size 39 1 ov ms.length ((natsI ms).map (.int .u32)) ∧ Below w.heap.size w wr) (fun _ bv _ => 256 - (RowKit.intOf bv).toNat)
  case atStart => exact ⟨1, [], _, _, by omega, by omega, rfl, rfl, Lib.hid (ModL.start g), by simp, hs0, hq0⟩
  case round =>
    clear hs0 hq0
    obtain ⟨b, ms, ob, oc, hb0, hbb, rfl, rfl, HML, hmb, hown, hq⟩ := hrel
    have hbw : IntKind.u32.wrap ((b : Int) + 1) = (b : Int) + 1 := IntWalk.u32_in _ (by omega)
    have hob := (hown.lt ob rfl).1
    have hB := hq.size
    by_cases hlt : b < x
    case neg =>
      have hbx : b = x := by omega
      have hs := sortSets wr w.heap.size ob oc ms (ht.below hq (Nat.le_refl _)) (by omega) (fun m hm => by have := ((HML.out.2 m).1 hm).2.1; omega) (by omega) hown
      have HBX := Lib.hid hbx
      have hle : ¬ b ≤ f := by omega
      clear hbx hlt hspl
      go_wp2_with (go_at_call 36; refine (hall _).mono ?_; rintro e w' ⟨rfl, rfl⟩)
      refine hs.mono ?_
      rintro e w2 ⟨rfl, ms', hp, ho, hk⟩
      go_wp2
      go_ret
      exact ⟨_, ms', rfl, by rw [hp.length_eq]; exact ho, by rw [← HBX.out]; exact HML.out.perm hp, hk.below hq hB (fun c hc => by simp at hc; omega)⟩
    have hle : b ≤ f := by omega
    have hsp := hspl wr hq b (by omega)
    have hM := HMW.out b (by rw [← HX.out]; exact hlt)
    clear hspl
    by_cases hz : splN (netsL g) f b = 0
    case neg =>
      have HML2 := Lib.hid (HML.out.skip (by rw [hM, decide_eq_false_iff_not]; exact hz))
      clear hM
      generalize splN (netsL g) f b = z at *
      have hz1 : ((z : Int) == 0) = false := by rw [beq_eq_false_iff_ne]; omega
      have hz2 : (z == 0) = false := by rw [beq_eq_false_iff_ne]; exact hz
      go_wp2_with (go_at_call 36; refine (hall _).mono ?_; rintro e w' ⟨rfl, rfl⟩)
      refine hsp.mono ?_
      rintro e w2 ⟨rfl, hb2⟩
      have ho2 := hown.below hb2 (Nat.le_refl _)
      go_wp2
      go_roundw
      case rel => exact ⟨b + 1, ms, ob, oc, by omega, by omega, by go_num, rfl, HML2, by omega, ho2, hq.trans (hb2.mono hB)⟩
      case measure => simp [RowKit.intOf]; omega
    have HML2 := Lib.hid (HML.out.snoc hb0 (by rw [hM, decide_eq_true_eq]; exact hz))
    rw [hz] at hsp
    clear hM hz
    go_wp2_with (go_at_call 36; refine (hall _).mono ?_; rintro e w' ⟨rfl, rfl⟩)
    refine hsp.mono ?_
    rintro e w2 ⟨rfl, hb2⟩
    have ho2 := hown.below hb2 (Nat.le_refl _)
    have hq2 := hq.trans (hb2.mono hB)
    have hB2 := hq2.size
    clear hsp hown
    go_wp2_with (at_builtin; refine wpList_append1b elVsM rfl _ _ rfl ho2 rfl rfl rfl rfl (by omega) hB2 ?_; intro o' w3 ho3 hkept hmv)
    have hq3 := hkept.below hq2 hB2 (fun c h => (ho2.lt c h).1)
    obtain ⟨ob3, oc3, rfl⟩ := own_some ho3 (by omega)
    go_roundw
    case rel => exact ⟨b + 1, ms ++ [b], ob3, oc3, by omega, by omega, by go_num, by simp, HML2, by simp; omega, by simpa [natsI] using ho3, hq3⟩
    case measure => simp [RowKit.intOf]; omega
end Go.Proofs.YtbpjbjeglcphcaaDoor
