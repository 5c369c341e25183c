/- The closure of a set, by the reference and by the program. -/
import Derived.Test.YtmcaccacdbcnmaaDoorInto
namespace Go.Proofs.YtmcaccacdbcnmaaDoor
open Go.RowKit

def lenV : Value → Nat | .slice _ n _ => n | _ => 0
set_option maxHeartbeats 2000000 in
theorem l17Closure_any {S S' S2 : Nat → Prop} (v u t : Value) (g : List (List Int)) (set : List Int) (w : World) (hg : GOk g) (hr : Rise set g.length) (hv : SlR S w v g) (hu : SlI S' w .i64 u (rangeI g.length)) (ht : SlI S2 w .i64 t set) :
    Calls Tryd.prog 125 #[.agg #[v], u, t] w fun e w' => ∃ x, e = .returned x ∧ Own w' w.heap.size 2 1 x (closL g set).length ((closL g set).map (.int .i64)) ∧ Below w.heap.size w w' := by
  have hq0 : Below w.heap.size w (w.alloc (.cells #[v] 28)) := (Below.refl _ _).alloc (Nat.le_refl _) _
  obtain ⟨va, vc, rfl⟩ := hv.slice
  obtain ⟨ua, uc, rfl⟩ := hu.slice
  have hhi := hg.hi
  have hlen := rise_len hr (by omega)
  go_enter Tryd.func125, Tryd.ntmps125
  go_wp2_with fail
  refine (l1Copy_any _ _ _ (ht.below hq0 (Nat.le_refl _)) (by omega)).mono ?_
  rintro e w1 ⟨x1, rfl, hx1, hb1⟩
  have hq1 := hq0.trans (hb1.mono hq0.size)
  have c1 : w1.cell? ⟨w.heap.size, 0, none⟩ = some (.slice va g.length vc) := (hb1.cell (p := ⟨w.heap.size, 0, none⟩) (by simp)).trans (by simp [go_sem])
  go_wp2
  go_loopw [7] (fun o wr => ∃ out, Reach g set out ∧ Own wr (w.heap.size + 1) 2 1 o out.length (out.map (.int .i64)) ∧ Below w.heap.size w wr ∧ wr.cell? ⟨w.heap.size, 0, none⟩ = some (.slice va g.length vc)) (fun o _ => g.length - lenV o)
  case atStart => exact ⟨set, Reach.start hr, by simpa using hx1, hq1, c1⟩
  case round =>
    obtain ⟨out, hre, hown, hq, hbx⟩ := hrel
    have hB := hq.size
    have hcl := cell_lt hbx
    simp only at hcl
    have hol := rise_len hre.rise (by omega)
    have hni := hown.ints (by omega)
    obtain ⟨oa, oc, rfl⟩ := hni.slice
    have hneg := splitter_neg (g := g) (s := out) (l := rangeI g.length) (fun x hx => (mem_rangeI.1 hx).1)
    have hpos := splitter_pos (g := g) (s := out) (l := rangeI g.length)
    by_cases hlt : splitterI g (rangeI g.length) out < 0
    · have hltb : decide (splitterI g (rangeI g.length) out < 0) = true := by simpa using hlt
      have hd := hre.done (hneg.1 hlt)
      subst hd
      clear hneg hpos
      go_wp2_with (go_at_call 82; refine (l17Splitter_any _ _ _ _ _ _ _ (hv.below hq (Nat.le_refl _)) (hu.below hq (Nat.le_refl _)) hni (fun y hy => by have := mem_rangeI.1 hy; omega)).mono ?_; rintro e w2 ⟨rfl, hb2⟩)
      go_ret
      exact ⟨_, rfl, (hown.below hb2 (Nat.le_refl _)).weak (by omega), hq.trans (hb2.mono hB)⟩
    · have hltb : decide (splitterI g (rangeI g.length) out < 0) = false := by simpa using hlt
      have hsp := hpos hlt
      have hnm : ¬ splitterI g (rangeI g.length) out ∈ out := by
        have := hsp.2
        simp only [splitAtB, Bool.and_eq_true, Bool.not_eq_true', decide_eq_false_iff_not] at this
        exact this.1
      have HNEG := Lib.hid hneg; have HSP := Lib.hid hsp; clear hneg hpos hsp
      go_wp2_with (go_at_call 82; refine (l17Splitter_any _ _ _ _ _ _ _ (hv.below hq (Nat.le_refl _)) (hu.below hq (Nat.le_refl _)) hni (fun y hy => by have := mem_rangeI.1 hy; omega)).mono ?_; rintro e w2 ⟨rfl, hb2⟩)
      have hq2 := hq.trans (hb2.mono hB)
      have hown2 := hown.below hb2 (Nat.le_refl _)
      have hni2 := hown2.ints (by omega)
      have hbx2 : w2.cell? ⟨w.heap.size, 0, none⟩ = some (.slice va g.length vc) := (hb2.cell (p := ⟨w.heap.size, 0, none⟩) (cell_lt hbx)).trans hbx
      go_wp2_with fail
      refine (l1Into_any _ _ _ _ hni2 (by omega) (rise_sorted hre.rise) hnm).mono ?_
      rintro e w3 ⟨x3, k, rfl, hk, hk1, hk2, hown3, hb3⟩
      have hsrt := intoL_sorted (rise_sorted hre.rise) hk1 hk2
      have hr3 : Rise (intoL out k (splitterI g (rangeI g.length) out)) g.length := sorted_rise hsrt fun y hy => by
        rcases mem_intoL.1 hy with rfl | hy
        · have := mem_rangeI.1 HSP.out.1; omega
        · have := rise_ge hre.rise y hy; omega
      have hre3 := hre.step hr3 (fun y hy => mem_intoL.2 (.inr hy)) (fun y hy => by
        rcases mem_intoL.1 hy with rfl | hy
        · exact .inr HSP.out
        · exact .inl hy)
      have hl3 := rise_len hr3 (by omega)
      rw [intoL_len] at hl3
      obtain ⟨xa, xc, rfl⟩ := (hown3.ints (by omega)).slice
      go_wp2
      go_roundw
      case rel =>
        refine ⟨_, hre3, ?_, hq2.trans (hb3.mono hq2.size), ?_⟩
        · rw [intoL_len] at hown3 ⊢; exact hown3.weak (by have := hb2.size; omega)
        · exact (hb3.cell (p := ⟨w.heap.size, 0, none⟩) (cell_lt hbx2)).trans hbx2
      case measure => simp only [lenV, intoL_len]; omega
def popV (v : Value) : Nat := (bitsI (intOf v).toNat).length
set_option maxHeartbeats 2000000 in
theorem closureOf_any {S : Nat → Prop} (v : Value) (g : List (List Int)) (s : List Int) (w : World) (ht : Tab w) (hg : GOk g) (hr : Rise s g.length) (hv : SlI S w .u32 v (natsI (netsL g))) :
    Calls Tryd.prog 159 #[v, .int .u32 (firstN g.length), .int .u32 (maskL s)] w fun e w' => e = .returned (.int .u32 (maskL (closL g s) : Int)) ∧ Below w.heap.size w w' := by
  obtain ⟨va, vc, rfl⟩ := hv.slice
  have hhi := hg.hi
  have hnl := netsL_lt hg
  have hln : (netsL g).length ≤ 16 := by simpa [netsL] using hhi
  have hfl : firstN g.length < 2 ^ (netsL g).length := by
    rw [netsL_len]; unfold firstN; have := Nat.two_pow_pos g.length; omega
  have HFL := Lib.hid hfl; have HN := Lib.hid hnl; clear hfl hnl
  go_enter Tryd.func159, Tryd.ntmps159
  go_wp2
  go_loopw [2] (fun m wr => ∃ out, Reach g s out ∧ m = .int .u32 (maskL out : Int) ∧ Below w.heap.size w wr) (fun m _ => g.length - popV m)
  case atStart => exact ⟨s, Reach.start hr, rfl, Below.refl _ _⟩
  case round =>
    obtain ⟨out, hre, rfl, hq⟩ := hrel
    have hB := hq.size
    have ho2 := rise_ge hre.rise
    have ho : ∀ x ∈ out, 0 ≤ x ∧ x < 32 := fun x hx => by have := ho2 x hx; omega
    have hm := maskL_lt32 ho
    have hz := splN_zero hg hre.rise
    rw [splitter_neg (fun x hx => (mem_rangeI.1 hx).1)] at hz
    have hsl := splN_lt hg hre.rise
    by_cases h0 : splN (netsL g) (firstN g.length) (maskL out) = 0
    · have h0b : ((splN (netsL g) (firstN g.length) (maskL out) : Int) == 0) = true := by simp [h0]
      have hd := hre.done (hz.1 h0)
      have HD := Lib.hid hd; have H0 := Lib.hid h0; clear hd h0 hz
      go_wp2_with (go_at_call 174; refine (splitters_any _ _ _ _ _ (ht.below hq (Nat.le_refl _)) (hv.below hq (Nat.le_refl _)) hln HFL.out hm HN.out).mono ?_; rintro e w2 ⟨rfl, hb2⟩)
      go_ret
      exact ⟨ret_int (by rw [HD.out]), hq.trans (hb2.mono hB)⟩
    · have h0b : ((splN (netsL g) (firstN g.length) (maskL out) : Int) == 0) = false := by simpa using h0
      have hor := u32_or_nat (maskL out) (splN (netsL g) (firstN g.length) (maskL out)) hm hsl
      have hmo := more_or hg hre.rise
      have hml := more_len hre.rise (fun h => h0 (hz.2 h))
      have hre2 := hre.more
      have HZ := Lib.hid hz; have HOR := Lib.hid hor; have HMO := Lib.hid hmo; clear hz hor hmo
      go_wp2_with (go_at_call 174; refine (splitters_any _ _ _ _ _ (ht.below hq (Nat.le_refl _)) (hv.below hq (Nat.le_refl _)) hln HFL.out hm HN.out).mono ?_; rintro e w2 ⟨rfl, hb2⟩)
      have hq2 := hq.trans (hb2.mono hB)
      go_roundw
      case rel => exact ⟨moreL g out, hre2, by rw [← HMO.out]; exact congrArg (Value.int .u32) HOR.out, hq2⟩
      case measure =>
        have h1 := bitsI_maskL (rise_sorted hre.rise) ho
        have h2 := bitsI_maskL (rise_sorted hre2.rise) (fun x hx => by have := rise_ge hre2.rise x hx; omega)
        have e1 : popV (.int .u32 (maskL out : Int)) = out.length := by simp [popV, intOf, h1]
        have e2 : ∀ z : Int, z = (maskL (moreL g out) : Int) → popV (.int .u32 z) = (moreL g out).length := by rintro z rfl; simp [popV, intOf, h2]
        have e3 := e2 _ (HOR.out.trans (by rw [HMO.out]))
        rw [e1]
        first | (rw [e3]; omega) | (simp only [e3]; omega) | trace_state
end Go.Proofs.YtmcaccacdbcnmaaDoor
