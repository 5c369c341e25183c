/- The least module inside a set that holds another one: plain facts, and by both. -/
import Derived.Test.YthpbeiihlembnaaDoorClos
namespace Go.Proofs.YthpbeiihlembnaaDoor
open Go.RowKit
/-- A part of I that nothing else of I splits. -/
def IsModW (g : List (List Int)) (I M : List Int) : Prop := M.Pairwise (· < ·) ∧ (∀ x ∈ M, x ∈ I) ∧ ∀ v ∈ I, splitAtB g M v = false
open Classical in
noncomputable def closW (g : List (List Int)) (I s : List Int) : List Int := I.filter fun x => decide (∀ M, IsModW g I M → (∀ y ∈ s, y ∈ M) → x ∈ M)
theorem closW_sorted {g : List (List Int)} {I : List Int} (hI : I.Pairwise (· < ·)) (s : List Int) : (closW g I s).Pairwise (· < ·) := hI.filter _
theorem mem_closW {g : List (List Int)} {I s : List Int} {x : Int} : x ∈ closW g I s ↔ x ∈ I ∧ ∀ M, IsModW g I M → (∀ y ∈ s, y ∈ M) → x ∈ M := by simp [closW]
structure ReachW (g : List (List Int)) (I s out : List Int) : Prop where
  srt : out.Pairwise (· < ·)
  sub : ∀ x ∈ s, x ∈ out
  in_ : ∀ x ∈ out, x ∈ I
  least : ∀ M, IsModW g I M → (∀ y ∈ s, y ∈ M) → ∀ x ∈ out, x ∈ M
theorem ReachW.start {g : List (List Int)} {I s : List Int} (h : s.Pairwise (· < ·)) (hs : ∀ x ∈ s, x ∈ I) : ReachW g I s s := ⟨h, fun _ h => h, hs, fun _ _ h => h⟩
theorem ReachW.step {g : List (List Int)} {I s out : List Int} (h : ReachW g I s out) {more : List Int} (hr : more.Pairwise (· < ·)) (hsub : ∀ x ∈ out, x ∈ more)
    (hm : ∀ x ∈ more, x ∈ out ∨ (x ∈ I ∧ splitAtB g out x = true)) : ReachW g I s more :=
  ⟨hr, fun x hx => hsub x (h.sub x hx), fun x hx => by
    rcases hm x hx with h1 | ⟨h1, _⟩
    · exact h.in_ x h1
    · exact h1, fun M hM hs x hx => by
    rcases hm x hx with h1 | ⟨h1, h2⟩
    · exact h.least M hM hs x h1
    · apply Classical.byContradiction
      intro hn
      have h3 := hM.2.2 x h1
      simp only [splitAtB, Bool.and_eq_true] at h2
      have h4 := splits_mono (h.least M hM hs) h2.2
      simp [splitAtB, hn, h4] at h3⟩
theorem ReachW.done {g : List (List Int)} {I s out : List Int} (hI : I.Pairwise (· < ·)) (h : ReachW g I s out) (hn : ∀ v ∈ I, splitAtB g out v = false) : out = closW g I s := by
  refine sorted_ext h.srt (closW_sorted hI s) fun x => ?_
  rw [mem_closW]
  exact ⟨fun hx => ⟨h.in_ x hx, fun M hM hs => h.least M hM hs x hx⟩, fun hx => hx.2 out ⟨h.srt, h.in_, hn⟩ h.sub⟩
/-- The union of a set and of what splits it. -/
def moreW (g : List (List Int)) (I s : List Int) : List Int := I.filter fun x => decide (x ∈ s) || splitAtB g s x
theorem ReachW.more {g : List (List Int)} {I s out : List Int} (hI : I.Pairwise (· < ·)) (h : ReachW g I s out) : ReachW g I s (moreW g I out) := by
  refine h.step (hI.filter _) (fun x hx => ?_) (fun x hx => ?_)
  · simp only [moreW, List.mem_filter, Bool.or_eq_true, decide_eq_true_eq]
    exact ⟨h.in_ x hx, .inl hx⟩
  · simp only [moreW, List.mem_filter, Bool.or_eq_true, decide_eq_true_eq] at hx
    rcases hx.2 with h1 | h1
    · exact .inl h1
    · exact .inr ⟨hx.1, h1⟩
theorem ReachW.len {g : List (List Int)} {I s out : List Int} (hI : I.Pairwise (· < ·)) (h : ReachW g I s out) : out.length ≤ I.length := by
  have e : I.filter (fun x => decide (x ∈ out)) = out := sorted_ext (hI.filter _) h.srt fun x => by
    simp only [List.mem_filter, decide_eq_true_eq]
    exact ⟨fun h => h.2, fun hx => ⟨h.in_ x hx, hx⟩⟩
  have := List.length_filter_le (fun x => decide (x ∈ out)) I
  rwa [e] at this
theorem moreW_len {g : List (List Int)} {I s out : List Int} (hI : I.Pairwise (· < ·)) (h : ReachW g I s out) (hn : ¬ ∀ v ∈ I, splitAtB g out v = false) : out.length < (moreW g I out).length ∧ (moreW g I out).length ≤ I.length := by
  refine ⟨?_, List.length_filter_le _ _⟩
  have hr := h.more hI
  have e : (moreW g I out).filter (fun x => decide (x ∈ out)) = out := sorted_ext (hr.srt.filter _) h.srt fun x => by
    simp only [List.mem_filter, decide_eq_true_eq]
    refine ⟨fun h => h.2, fun hx => ⟨?_, hx⟩⟩
    simp only [moreW, List.mem_filter, Bool.or_eq_true, decide_eq_true_eq]
    exact ⟨h.in_ x hx, .inl hx⟩
  have h1 : ∃ x ∈ moreW g I out, ¬ x ∈ out := by
    apply Classical.byContradiction
    intro hc
    apply hn
    intro v hv
    cases hb : splitAtB g out v
    · rfl
    · exfalso
      apply hc
      refine ⟨v, ?_, fun hvo => by simp [splitAtB, hvo] at hb⟩
      simp only [moreW, List.mem_filter, Bool.or_eq_true]
      exact ⟨hv, .inr hb⟩
  obtain ⟨x, hx, hx2⟩ := h1
  have := (List.length_filter_lt_length_iff_exists (p := fun x => decide (x ∈ out))).2 ⟨x, hx, by simpa using hx2⟩
  rwa [e] at this
/-- What splits, by words. -/
theorem splits_eqW {g : List (List Int)} {I s : List Int} (hg : GOk g) (hI : Rise I g.length) (hs : Rise s g.length) :
    (bitsI (andN (maskL I) (maskL s))).filter (splW (netsL g) (maskL s)) = I.filter (splitAtB g s) := by
  have hhi := hg.hi
  have hs2 := rise_ge hs
  have hI2 := rise_ge hI
  have hm := maskL_lt32 (l := s) (fun x hx => by have := hs2 x hx; omega)
  have hmI := maskL_lt32 (l := I) (fun x hx => by have := hI2 x hx; omega)
  refine sorted_ext ((bitsI_sorted _).filter _) ((rise_sorted hI).filter _) fun x => ?_
  simp only [List.mem_filter]
  rw [mem_bits_andN hmI hm, bitsI_maskL (rise_sorted hI) (fun x hx => by have := hI2 x hx; omega), bitsI_maskL (rise_sorted hs) (fun x hx => by have := hs2 x hx; omega)]
  by_cases hx : x ∈ I
  · have hxr := hI2 x hx
    have hxn : x.toNat < g.length := by omega
    have hr : ∀ y ∈ g[x.toNat], 0 ≤ y := fun y hy => (hg.ge hxn y hy).1
    have hs0 : ∀ y ∈ s, 0 ≤ y := fun y hy => (hs2 y hy).1
    have e1 : splW (netsL g) (maskL s) x = splitsB g s x := by
      unfold splW splitsB
      rw [netsL_get hxn]
      have e : g.getD x.toNat [] = g[x.toNat] := by simp [hxn]
      rw [e]
      have d1 : decide (maskL g[x.toNat] &&& maskL s ≠ 0) = decide (0 < cntIn s g[x.toNat]) := by
        rw [decide_eq_decide, and_mask_zero hr hs0, cntIn_pos]
      have d2 : decide (maskL g[x.toNat] &&& maskL s ≠ maskL s) = decide (cntIn s g[x.toNat] < s.length) := by
        rw [decide_eq_decide, and_mask_all hr hs0, cntIn_lt]
      rw [d1, d2]
    rw [e1]
    unfold splitAtB
    by_cases hxs : x ∈ s <;> simp [hx, hxs]
  · simp [hx]
theorem splN_eqW {g : List (List Int)} {I s : List Int} (hg : GOk g) (hI : Rise I g.length) (hs : Rise s g.length) : splN (netsL g) (maskL I) (maskL s) = maskL (I.filter (splitAtB g s)) := by
  unfold splN; rw [splits_eqW hg hI hs]
theorem splN_zeroW {g : List (List Int)} {I s : List Int} (hg : GOk g) (hI : Rise I g.length) (hs : Rise s g.length) : splN (netsL g) (maskL I) (maskL s) = 0 ↔ ∀ v ∈ I, splitAtB g s v = false := by
  have hhi := hg.hi
  have hin : ∀ x ∈ I.filter (splitAtB g s), 0 ≤ x ∧ x < 32 := fun x hx => by
    have := rise_ge hI x (List.mem_filter.1 hx).1; omega
  have hb := bitsI_maskL ((rise_sorted hI).filter (splitAtB g s)) hin
  rw [splN_eqW hg hI hs, ← bitsI_nil (maskL_lt32 hin), hb, List.filter_eq_nil_iff]
  simp
theorem splN_ltW {g : List (List Int)} {I s : List Int} (hg : GOk g) (hI : Rise I g.length) (hs : Rise s g.length) : splN (netsL g) (maskL I) (maskL s) < 4294967296 := by
  have hhi := hg.hi
  rw [splN_eqW hg hI hs]
  exact maskL_lt32 fun x hx => by have := rise_ge hI x (List.mem_filter.1 hx).1; omega
theorem more_orW {g : List (List Int)} {I s out : List Int} (hg : GOk g) (hI : Rise I g.length) (h : ReachW g I s out) : maskL out ||| splN (netsL g) (maskL I) (maskL out) = maskL (moreW g I out) := by
  have hs : Rise out g.length := sorted_rise h.srt fun x hx => rise_ge hI x (h.in_ x hx)
  rw [splN_eqW hg hI hs]
  refine maskL_or (fun x hx => (rise_ge hs x hx).1) (fun x hx => ?_) (fun x hx => ?_) fun x => ?_
  · exact (rise_ge hI x (List.mem_filter.1 hx).1).1
  · exact (rise_ge hI x (List.mem_filter.1 hx).1).1
  · simp only [moreW, List.mem_filter, Bool.or_eq_true, decide_eq_true_eq]
    constructor
    · rintro ⟨h, h1 | h1⟩
      · exact .inl h1
      · exact .inr ⟨h, h1⟩
    · rintro (h1 | ⟨h1, h2⟩)
      · exact ⟨h.in_ x h1, .inl h1⟩
      · exact ⟨h1, .inr h2⟩
set_option maxHeartbeats 2000000 in
theorem l17ClosureW_any {S S' S2 : Nat → Prop} (v u t : Value) (g : List (List Int)) (I set : List Int) (w : World) (hg : GOk g) (hI : Rise I g.length) (hr : set.Pairwise (· < ·)) (hin : ∀ x ∈ set, x ∈ I) (hv : SlR S w v g) (hu : SlI S' w .i64 u I) (ht : SlI S2 w .i64 t set) :
    Calls Tryd.prog 198 #[.agg #[v], u, t] w fun e w' => ∃ x, e = .returned x ∧ Own w' w.heap.size 2 1 x (closW g I set).length ((closW g I set).map (.int .i64)) ∧ Below w.heap.size w w' := by
  have hq0 : Below w.heap.size w (w.alloc (.cells #[v] 29)) := (Below.refl _ _).alloc (Nat.le_refl _) _
  obtain ⟨va, vc, rfl⟩ := hv.slice
  obtain ⟨ua, uc, rfl⟩ := hu.slice
  have hhi := hg.hi
  have hIl := rise_len hI (by omega)
  have hIs := rise_sorted hI
  have hR0 := ReachW.start (g := g) hr hin
  have hlen := hR0.len hIs
  have HI := Lib.hid hI
  clear hI
  go_enter Tryd.func198, Tryd.ntmps198
  go_wp2_with fail
  refine (l1Copy_any _ _ _ (ht.below hq0 (Nat.le_refl _)) (by omega)).mono ?_
  rintro e w1 ⟨x1, rfl, hx1, hb1⟩
  have hq1 := hq0.trans (hb1.mono hq0.size)
  have c1 : w1.cell? ⟨w.heap.size, 0, none⟩ = some (.slice va g.length vc) := (hb1.cell (p := ⟨w.heap.size, 0, none⟩) (by simp)).trans (by simp [go_sem])
  go_wp2
  go_loopw [7] (fun o wr => ∃ out, ReachW g I set out ∧ Own wr (w.heap.size + 1) 2 1 o out.length (out.map (.int .i64)) ∧ Below w.heap.size w wr ∧ wr.cell? ⟨w.heap.size, 0, none⟩ = some (.slice va g.length vc)) (fun o _ => I.length - lenV o)
  case atStart => exact ⟨set, hR0, by simpa using hx1, hq1, c1⟩
  case round =>
    clear hR0
    obtain ⟨out, hre, hown, hq, hbx⟩ := hrel
    have hB := hq.size
    have hcl := cell_lt hbx
    simp only at hcl
    have hol := hre.len hIs
    have hni := hown.ints (by omega)
    obtain ⟨oa, oc, rfl⟩ := hni.slice
    have hneg := splitter_neg (g := g) (s := out) (l := I) (fun x hx => (rise_ge HI.out x hx).1)
    have hpos := splitter_pos (g := g) (s := out) (l := I)
    by_cases hlt : splitterI g I out < 0
    · have hltb : decide (splitterI g I out < 0) = true := by simpa using hlt
      have hd := hre.done hIs (hneg.1 hlt)
      subst hd
      clear hneg hpos
      go_wp2_with (go_at_call 224; refine (l17Splitter_any _ _ _ _ _ _ _ (hv.below hq (Nat.le_refl _)) (hu.below hq (Nat.le_refl _)) hni (fun y hy => by have := rise_ge HI.out y hy; omega)).mono ?_; rintro e w2 ⟨rfl, hb2⟩)
      go_ret
      exact ⟨_, rfl, (hown.below hb2 (Nat.le_refl _)).weak (by omega), hq.trans (hb2.mono hB)⟩
    · have hltb : decide (splitterI g I out < 0) = false := by simpa using hlt
      have hsp := hpos hlt
      have hnm : ¬ splitterI g I out ∈ out := by
        have := hsp.2
        simp only [splitAtB, Bool.and_eq_true, Bool.not_eq_true', decide_eq_false_iff_not] at this
        exact this.1
      have HNEG := Lib.hid hneg; have HSP := Lib.hid hsp; clear hneg hpos hsp
      go_wp2_with (go_at_call 224; refine (l17Splitter_any _ _ _ _ _ _ _ (hv.below hq (Nat.le_refl _)) (hu.below hq (Nat.le_refl _)) hni (fun y hy => by have := rise_ge HI.out y hy; omega)).mono ?_; rintro e w2 ⟨rfl, hb2⟩)
      have hq2 := hq.trans (hb2.mono hB)
      have hown2 := hown.below hb2 (Nat.le_refl _)
      have hni2 := hown2.ints (by omega)
      have hbx2 : w2.cell? ⟨w.heap.size, 0, none⟩ = some (.slice va g.length vc) := (hb2.cell (p := ⟨w.heap.size, 0, none⟩) (cell_lt hbx)).trans hbx
      go_wp2_with fail
      refine (l1Into_any _ _ _ _ hni2 (by omega) hre.srt hnm).mono ?_
      rintro e w3 ⟨x3, k, rfl, hk, hk1, hk2, hown3, hb3⟩
      have hsrt := intoL_sorted hre.srt hk1 hk2
      have hre3 := hre.step hsrt (fun y hy => mem_intoL.2 (.inr hy)) (fun y hy => by
        rcases mem_intoL.1 hy with rfl | hy
        · exact .inr HSP.out
        · exact .inl hy)
      have hl3 := hre3.len hIs
      rw [intoL_len] at hl3
      obtain ⟨xa, xc, rfl⟩ := (hown3.ints (by omega)).slice
      go_wp2
      go_roundw
      case rel =>
        refine ⟨_, hre3, ?_, hq2.trans (hb3.mono hq2.size), ?_⟩
        · rw [intoL_len] at hown3 ⊢; exact hown3.weak (by have := hb2.size; omega)
        · exact (hb3.cell (p := ⟨w.heap.size, 0, none⟩) (cell_lt hbx2)).trans hbx2
      case measure => simp only [lenV, intoL_len]; omega
set_option maxHeartbeats 2000000 in
theorem closureOfW_any {S : Nat → Prop} (v : Value) (g : List (List Int)) (I s : List Int) (w : World) (ht : Tab w) (hg : GOk g) (hI : Rise I g.length) (hr : s.Pairwise (· < ·)) (hin : ∀ x ∈ s, x ∈ I) (hv : SlI S w .u32 v (natsI (netsL g))) :
    Calls Tryd.prog 199 #[v, .int .u32 (maskL I), .int .u32 (maskL s)] w fun e w' => e = .returned (.int .u32 (maskL (closW g I s) : Int)) ∧ Below w.heap.size w w' := by
  obtain ⟨va, vc, rfl⟩ := hv.slice
  have hhi := hg.hi
  have hnl := netsL_lt hg
  have hln : (netsL g).length ≤ 16 := by simpa [netsL] using hhi
  have hfl : maskL I < 2 ^ (netsL g).length := by
    rw [netsL_len]; exact maskL_lt (fun x hx => by have := rise_ge hI x hx; omega)
  have hIs := rise_sorted hI
  have HI := Lib.hid hI
  have HFL := Lib.hid hfl; have HN := Lib.hid hnl; clear hfl hnl hI
  have hR0 := ReachW.start (g := g) hr hin
  go_enter Tryd.func199, Tryd.ntmps199
  go_wp2
  go_loopw [2] (fun m wr => ∃ out, ReachW g I s out ∧ m = .int .u32 (maskL out : Int) ∧ Below w.heap.size w wr) (fun m _ => I.length - popV m)
  case atStart => exact ⟨s, hR0, rfl, Below.refl _ _⟩
  case round =>
    clear hR0
    obtain ⟨out, hre, rfl, hq⟩ := hrel
    have hB := hq.size
    have hor : Rise out g.length := sorted_rise hre.srt fun x hx => rise_ge HI.out x (hre.in_ x hx)
    have ho2 := rise_ge hor
    have ho : ∀ x ∈ out, 0 ≤ x ∧ x < 32 := fun x hx => by have := ho2 x hx; omega
    have hm := maskL_lt32 ho
    have hz := splN_zeroW hg HI.out hor
    have hsl := splN_ltW hg HI.out hor
    by_cases h0 : splN (netsL g) (maskL I) (maskL out) = 0
    · have h0b : ((splN (netsL g) (maskL I) (maskL out) : Int) == 0) = true := by simp [h0]
      have hd := hre.done hIs (hz.1 h0)
      have HD := Lib.hid hd; have H0 := Lib.hid h0; clear hd h0 hz
      go_wp2_with (go_at_call 225; refine (splitters_any _ _ _ _ _ (ht.below hq (Nat.le_refl _)) (hv.below hq (Nat.le_refl _)) hln HFL.out hm HN.out).mono ?_; rintro e w2 ⟨rfl, hb2⟩)
      go_ret
      exact ⟨ret_int (by rw [HD.out]), hq.trans (hb2.mono hB)⟩
    · have h0b : ((splN (netsL g) (maskL I) (maskL out) : Int) == 0) = false := by simpa using h0
      have hoo := u32_or_nat (maskL out) (splN (netsL g) (maskL I) (maskL out)) hm hsl
      have hmo := more_orW hg HI.out hre
      have hml := moreW_len hIs hre (fun h => h0 (hz.2 h))
      have hre2 := hre.more hIs
      have HZ := Lib.hid hz; have HOR := Lib.hid hoo; have HMO := Lib.hid hmo; clear hz hoo hmo
      go_wp2_with (go_at_call 225; refine (splitters_any _ _ _ _ _ (ht.below hq (Nat.le_refl _)) (hv.below hq (Nat.le_refl _)) hln HFL.out hm HN.out).mono ?_; rintro e w2 ⟨rfl, hb2⟩)
      have hq2 := hq.trans (hb2.mono hB)
      go_roundw
      case rel => exact ⟨moreW g I out, hre2, by rw [← HMO.out]; exact congrArg (Value.int .u32) HOR.out, hq2⟩
      case measure =>
        have h1 := bitsI_maskL hre.srt ho
        have h2 := bitsI_maskL hre2.srt (fun x hx => by have := rise_ge HI.out x (hre2.in_ x hx); omega)
        have e1 : popV (.int .u32 (maskL out : Int)) = out.length := by simp [popV, intOf, h1]
        have e2 : ∀ z : Int, z = (maskL (moreW g I out) : Int) → popV (.int .u32 z) = (moreW g I out).length := by rintro z rfl; simp [popV, intOf, h2]
        have e3 := e2 _ (HOR.out.trans (by rw [HMO.out]))
        rw [e1]
        first | (rw [e3]; omega) | (simp only [e3]; omega) | trace_state
end Go.Proofs.YthpbeiihlembnaaDoor
