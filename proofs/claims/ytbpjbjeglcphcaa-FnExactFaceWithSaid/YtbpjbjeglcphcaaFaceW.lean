/- FaceWith: both; the law. -/
import Derived.Test.YtbpjbjeglcphcaaFac2
import Derived.Test.YtbpjbjeglcphcaaMask64
namespace Go.Proofs.Ytbpjbjeglcphcaa
open Go.RowKit
def coverB (s f : List Int) : Bool := decide (andN (maskL s) (maskL f) = 0)
def fwI (F : List (List Int)) (s : List Int) : Int := if F.findIdx (coverB s) < F.length then (F.findIdx (coverB s) : Int) else -1
noncomputable def faceWithI (g r : List (List Int)) (s : List Int) : Int := if aroundB g r = true ∧ setOkB g s = true then fwI (facesF g r) s else -1
theorem fwI_hit {F : List (List Int)} {s : List Int} {k : Nat} (hk : k < F.length) (hn : ∀ f ∈ F.take k, coverB s f = false) (h : coverB s F[k] = true) : fwI F s = (k : Int) := by
  have : F.findIdx (coverB s) = k := by
    rw [List.findIdx_eq hk]
    refine ⟨h, fun j hj => ?_⟩
    have := hn F[j] (List.mem_take_iff_getElem.2 ⟨j, by omega, rfl⟩)
    simpa using this
  rw [fwI, this, if_pos hk]
theorem fwI_miss {F : List (List Int)} {s : List Int} (hn : ∀ f ∈ F, coverB s f = false) : fwI F s = -1 := by
  rw [fwI, if_neg]
  rw [List.findIdx_lt_length]
  rintro ⟨f, hf, h⟩
  rw [hn f hf] at h; cases h
theorem setOk_range {g : List (List Int)} {s : List Int} (h : setOkB g s = true) : ∀ x ∈ s, 0 ≤ x ∧ x < 32 := fun x hx => by
  simp only [setOkB, Bool.and_eq_true] at h
  have hg := gokB_iff.1 h.1
  have hr := riseB_iff.1 h.2
  obtain ⟨i, hi, rfl⟩ := List.getElem_of_mem hx
  have := hr i hi hi
  have := hg.hi
  omega
theorem facesF_range {g r : List (List Int)} : ∀ f ∈ facesF g r, ∀ x ∈ f, 0 ≤ x ∧ x < 32 := fun f hf x hx => by
  unfold facesF at hf
  split at hf
  · rename_i hc
    have hr := aro_rot (around_iff.1 hc)
    obtain ⟨f', hf', rfl⟩ := List.mem_map.1 hf
    unfold natsI at hx
    obtain ⟨v, hv, rfl⟩ := List.mem_map.1 hx
    have := ((facesN_small hr).2 f' hf').2 v hv
    have := hr.le
    omega
  · cases hf
theorem mask32 {s : List Int} (h : ∀ x ∈ s, 0 ≤ x ∧ x < 32) : maskL s < 4294967296 := by
  have := maskL_lt (xs := s) (n := 32) h; simpa using this
theorem facesF_len (g r : List (List Int)) : (facesF g r).length ≤ 1048576 := by have := (facesF_small g r).1; omega
theorem faceClo_any {S S' : Nat → Prop} {b : Nat} {sv fv : Value} {s f : List Int} {w : World} (hs : SlI S w .i64 sv s) (hf : SlI S' w .i64 fv f) (hb : w.cell? ⟨b, 0, none⟩ = some sv) (h1 : ∀ x ∈ s, 0 ≤ x ∧ x < 32) (h2 : ∀ x ∈ f, 0 ≤ x ∧ x < 32) :
    Calls Try.prog 42 #[fv, .pointer (some ⟨b, 0, none⟩)] w fun e w' => e = .returned (.bool (coverB s f)) ∧ w = w' := by
  have hm1 := maskOf_any _ _ _ hs h1
  have hm2 := maskOf_any _ _ _ hf h2
  have han := u32_andNot_nat (maskL s) (maskL f) (mask32 h1) (mask32 h2)
  have HB := Lib.hid (show coverB s f = decide (andN (maskL s) (maskL f) = 0) from rfl)
  have hz : ((andN (maskL s) (maskL f) : Int) == 0) = decide (andN (maskL s) (maskL f) = 0) := by rw [Bool.eq_iff_iff, beq_iff_eq, decide_eq_true_eq]; omega
  have hz2 : ((andN (maskL s) (maskL f)) == 0) = decide (andN (maskL s) (maskL f) = 0) := by rw [Bool.eq_iff_iff, beq_iff_eq, decide_eq_true_eq]
  rw [show ((maskL s &&& (4294967295 - maskL f) : Nat) : Int) = (andN (maskL s) (maskL f) : Int) from rfl] at han
  rw [HB.out]
  generalize andN (maskL s) (maskL f) = z at *
  generalize maskL s = ms at *
  generalize maskL f = mf at *
  obtain ⟨sa, sc, rfl⟩ := hs.slice
  obtain ⟨fa, fc, rfl⟩ := hf.slice
  clear hs hf
  go_enter Try.func42, Try.ntmps42
  go_wp2_with (first | (go_at_call 43; refine hm1.mono ?_; rintro e w' ⟨rfl, rfl⟩; clear hm1) | (go_at_call 43; refine hm2.mono ?_; rintro e w' ⟨rfl, rfl⟩))
  go_ret
  exact ⟨ret_bool (by first | rfl | assumption | exact hz | exact hz2 | simp), rfl⟩
set_option maxRecDepth 100000 in
set_option maxHeartbeats 2000000 in
theorem faceIndex_any {S S' : Nat → Prop} {b : Nat} {sv v : Value} {s : List Int} {F : List (List Int)} {w : World} (hs : SlI S w .i64 sv s) (hF : SlR S' w v F) (hb : w.cell? ⟨b, 0, none⟩ = some sv) (h1 : ∀ x ∈ s, 0 ≤ x ∧ x < 32) (h2 : ∀ f ∈ F, ∀ x ∈ f, 0 ≤ x ∧ x < 32) :
    Calls Try.prog 41 #[v, .func (Fn.func 42) #[] #[.pointer (some ⟨b, 0, none⟩)]] w fun e w' => e = .returned (.int .i64 (fwI F s)) ∧ w = w' := by
  obtain ⟨va, vb, vo, vcap, vf, rfl, hl, hva, hvc⟩ := hF
  have HFC := Lib.hid hvc
  have H2 := Lib.hid h2
  clear hvc h2
  go_enter Try.func41, Try.ntmps41
  go_wp2
  go_loopw [8] (fun i wr => ∃ k : Nat, k ≤ F.length ∧ i = .int .i64 k ∧ RowKit.Hid (∀ f ∈ F.take k, coverB s f = false) ∧ wr = w) (fun i _ => F.length - (intOf i).toNat)
  case atStart => exact ⟨0, Nat.zero_le _, rfl, Lib.hid (fun x h => by simp at h), rfl⟩
  case round =>
    obtain ⟨k, hk, rfl, HN, rfl⟩ := hrel
    by_cases hlt : k < F.length
    · obtain ⟨rfl, -⟩ := hva (by omega)
      obtain ⟨hcell, hrow⟩ := HFC.out k hlt
      have hcl := faceClo_any hs hrow hb h1 (H2.out _ (List.getElem_mem hlt))
      have htk : F.take (k + 1) = F.take k ++ [F[k]] := List.take_succ_eq_append_getElem hlt
      have HY := Lib.hid (fun h : coverB s F[k] = true => fwI_hit hlt HN.out h)
      have HNO := Lib.hid (fun h : coverB s F[k] = false => show ∀ f ∈ F.take (k + 1), coverB s f = false from fun x hx => by
        rw [htk, List.mem_append, List.mem_singleton] at hx
        rcases hx with hx | rfl
        · exact HN.out x hx
        · exact h)
      generalize vf k = rk at *
      clear htk hrow
      cases hc : coverB s F[k] with
      | true =>
        rw [hc] at hcl
        have HA := Lib.hid (HY.out hc)
        clear HY HNO hc
        go_wp2_with fail
        refine hcl.mono ?_
        rintro e w' ⟨rfl, rfl⟩
        go_wp2
        go_ret
        exact ⟨ret_int HA.out.symm, rfl⟩
      | false =>
        rw [hc] at hcl
        have HA := Lib.hid (HNO.out hc)
        clear HY HNO hc
        go_wp2_with fail
        refine hcl.mono ?_
        rintro e w' ⟨rfl, rfl⟩
        go_wp2
        go_roundw
        case rel => exact ⟨k + 1, by omega, by go_num, HA, by trivial⟩
        case measure => simp [intOf]; omega
    · have HA := Lib.hid (fwI_miss (s := s) (F := F) fun x hx => HN.out x (by rw [List.take_of_length_le (by omega)]; exact hx))
      go_wp2
      go_ret
      exact ⟨ret_int HA.out.symm, rfl⟩
set_option maxRecDepth 100000 in
set_option maxHeartbeats 4000000 in
theorem implFaceWith_any {S S' S2 : Nat → Prop} {gv rv sv : Value} {g r : List (List Int)} {s : List Int} {w : World} (hvg : SlR S w gv g) (hvr : SlR S' w rv r) (hsv : SlI S2 w .i64 sv s) (hs : SmallR r 1048576) :
    Calls Try.prog 17 #[.agg #[gv], .agg #[rv], sv] w fun e w' => e = .returned (.int .i64 (faceWithI g r s)) ∧ Below w.heap.size w w' := by
  obtain ⟨ga, gc, rfl⟩ := hvg.slice
  obtain ⟨ra, rc, rfl⟩ := hvr.slice
  obtain ⟨sa, sc, rfl⟩ := hsv.slice
  have hq0 : Below w.heap.size w (((w.alloc (.cells #[.slice ga g.length gc] 30)).alloc (.cells #[.slice ra r.length rc] 32)).alloc (.cells #[.slice sa s.length sc] 37)) := (((Below.refl _ _).alloc (Nat.le_refl _) _).alloc (by simp) _).alloc (by simp; omega) _
  have hao := implAroundOk_any (hvg.below hq0 (Nat.le_refl _)) (hvr.below hq0 (Nat.le_refl _)) (fun x hx => by
    obtain ⟨i, hi, rfl⟩ := List.getElem_of_mem hx
    have := hs.2 i hi hi; omega)
  by_cases ha : aroundB g r = true
  case neg =>
    have HE := Lib.hid (show faceWithI g r s = -1 by rw [faceWithI, if_neg (fun h => ha h.1)])
    rw [Bool.not_eq_true] at ha
    rw [ha] at hao
    clear ha
    go_enter Try.func17, Try.ntmps17
    go_wp2_with fail
    refine hao.mono ?_
    rintro e w1 ⟨rfl, hb1⟩
    go_wp2
    go_ret
    exact ⟨ret_int HE.out.symm, hq0.trans (hb1.mono hq0.size)⟩
  rw [ha] at hao
  by_cases hso : setOkB g s = true
  case neg =>
    have HE := Lib.hid (show faceWithI g r s = -1 by rw [faceWithI, if_neg (fun h => hso h.2)])
    rw [Bool.not_eq_true] at hso
    clear ha
    go_enter Try.func17, Try.ntmps17
    go_wp2_with fail
    refine hao.mono ?_
    rintro e w1 ⟨rfl, hb1⟩
    have hq1 := hq0.trans (hb1.mono hq0.size)
    have hse := implSetOk_any _ _ _ _ _ (hvg.below hq1 (Nat.le_refl _)) (hsv.below hq1 (Nat.le_refl _))
    rw [hso] at hse
    have c0 : w1.cell? ⟨w.heap.size, 0, none⟩ = some (.slice ga g.length gc) := (hb1.cell (p := ⟨w.heap.size, 0, none⟩) (by simp <;> omega)).trans (by simp [go_sem])
    have c2 : w1.cell? ⟨w.heap.size + 2, 0, none⟩ = some (.slice sa s.length sc) := (hb1.cell (p := ⟨w.heap.size + 2, 0, none⟩) (by simp <;> omega)).trans (by simp [go_sem])
    clear hao hso
    go_wp2_with fail
    refine hse.mono ?_
    rintro e w2 ⟨rfl, hb2⟩
    go_wp2
    go_ret
    exact ⟨ret_int HE.out.symm, hq1.trans (hb2.mono hq1.size)⟩
  have HE := Lib.hid (show faceWithI g r s = fwI (facesF g r) s by rw [faceWithI, if_pos ⟨ha, hso⟩])
  have HR := Lib.hid (setOk_range hso)
  have HRF := Lib.hid (facesF_range (g := g) (r := r))
  have HSM := Lib.hid (facesF_small g r)
  clear ha
  go_enter Try.func17, Try.ntmps17
  go_wp2_with fail
  refine hao.mono ?_
  rintro e w1 ⟨rfl, hb1⟩
  have hq1 := hq0.trans (hb1.mono hq0.size)
  have hse := implSetOk_any _ _ _ _ _ (hvg.below hq1 (Nat.le_refl _)) (hsv.below hq1 (Nat.le_refl _))
  rw [hso] at hse
  have c0 : w1.cell? ⟨w.heap.size, 0, none⟩ = some (.slice ga g.length gc) := (hb1.cell (p := ⟨w.heap.size, 0, none⟩) (by simp <;> omega)).trans (by simp [go_sem])
  have c1 : w1.cell? ⟨w.heap.size + 1, 0, none⟩ = some (.slice ra r.length rc) := (hb1.cell (p := ⟨w.heap.size + 1, 0, none⟩) (by simp <;> omega)).trans (by simp [go_sem])
  have c2 : w1.cell? ⟨w.heap.size + 2, 0, none⟩ = some (.slice sa s.length sc) := (hb1.cell (p := ⟨w.heap.size + 2, 0, none⟩) (by simp <;> omega)).trans (by simp [go_sem])
  clear hao hso
  go_wp2_with fail
  refine hse.mono ?_
  rintro e w2 ⟨rfl, hb2⟩
  have hq2 := hq1.trans (hb2.mono hq1.size)
  have c0 := (hb2.cell (cell_lt c0)).trans c0
  have c1 := (hb2.cell (cell_lt c1)).trans c1
  have c2 := (hb2.cell (cell_lt c2)).trans c2
  have hfo := implFacesOf_any (hvg.below hq2 (Nat.le_refl _)) (hvr.below hq2 (Nat.le_refl _)) hs
  clear hse
  go_wp2_with fail
  refine hfo.mono ?_
  rintro e w3 ⟨fu, rfl, hfu, hb3⟩
  have hq3 := hq2.trans (hb3.mono hq2.size)
  have c2 := (hb3.cell (cell_lt c2)).trans c2
  have hfr := hfu.rows HSM.out
  have hix := faceIndex_any (hsv.below hq3 (Nat.le_refl _)) hfr c2 HR.out HRF.out
  obtain ⟨fa, fc, rfl⟩ := hfr.slice
  clear hfo hfu hfr
  generalize fwI (facesF g r) s = z at *
  generalize (facesF g r).length = fl at *
  go_wp2_with fail
  refine hix.mono ?_
  rintro e w4 ⟨rfl, rfl⟩
  go_wp2
  go_ret
  exact ⟨ret_int HE.out.symm, hq3⟩
set_option maxRecDepth 100000 in
set_option maxHeartbeats 4000000 in
theorem specFaceWith_any {S S' S2 : Nat → Prop} {gv rv sv : Value} {g r : List (List Int)} {s : List Int} {w : World} (hvg : SlR S w gv g) (hvr : SlR S' w rv r) (hsv : SlI S2 w .i64 sv s) :
    Calls Try.prog 15 #[.agg #[gv], .agg #[rv], sv] w fun e w' => e = .returned (.int .i64 (faceWithI g r s)) ∧ Below w.heap.size w w' := by
  obtain ⟨ga, gc, rfl⟩ := hvg.slice
  obtain ⟨ra, rc, rfl⟩ := hvr.slice
  obtain ⟨sa, sc, rfl⟩ := hsv.slice
  have hq0 : Below w.heap.size w ((w.alloc (.cells #[.slice ga g.length gc] 30)).alloc (.cells #[.slice ra r.length rc] 32)) := ((Below.refl _ _).alloc (Nat.le_refl _) _).alloc (by simp) _
  have hao := specAroundOk_any (hvg.below hq0 (Nat.le_refl _)) (hvr.below hq0 (Nat.le_refl _))
  by_cases ha : aroundB g r = true
  case neg =>
    have HE := Lib.hid (show faceWithI g r s = -1 by rw [faceWithI, if_neg (fun h => ha h.1)])
    rw [Bool.not_eq_true] at ha
    rw [ha] at hao
    clear ha
    go_enter Try.func15, Try.ntmps15
    go_wp2_with fail
    refine hao.mono ?_
    rintro e w1 ⟨rfl, hb1⟩
    go_wp2
    go_ret
    exact ⟨ret_int HE.out.symm, hq0.trans (hb1.mono hq0.size)⟩
  rw [ha] at hao
  by_cases hso : setOkB g s = true
  case neg =>
    have HE := Lib.hid (show faceWithI g r s = -1 by rw [faceWithI, if_neg (fun h => hso h.2)])
    rw [Bool.not_eq_true] at hso
    clear ha
    go_enter Try.func15, Try.ntmps15
    go_wp2_with fail
    refine hao.mono ?_
    rintro e w1 ⟨rfl, hb1⟩
    have hq1 := hq0.trans (hb1.mono hq0.size)
    have hse := specSetOk_any _ _ _ _ _ (hvg.below hq1 (Nat.le_refl _)) (hsv.below hq1 (Nat.le_refl _))
    rw [hso] at hse
    have c0 : w1.cell? ⟨w.heap.size, 0, none⟩ = some (.slice ga g.length gc) := (hb1.cell (p := ⟨w.heap.size, 0, none⟩) (by simp <;> omega)).trans (by simp [go_sem])
    clear hao hso
    go_wp2_with fail
    refine hse.mono ?_
    rintro e w2 ⟨rfl, hb2⟩
    go_wp2
    go_ret
    exact ⟨ret_int HE.out.symm, hq1.trans (hb2.mono hq1.size)⟩
  have HE := Lib.hid (show faceWithI g r s = fwI (facesF g r) s by rw [faceWithI, if_pos ⟨ha, hso⟩])
  have HR := Lib.hid (setOk_range hso)
  have HRF := Lib.hid (facesF_range (g := g) (r := r))
  have HSM := Lib.hid (facesF_small g r)
  have hP := around_iff.1 ha
  have HRT := Lib.hid (aro_rot hP)
  have HEQ := Lib.hid (aro_eq hP)
  have HL0 := Lib.hid (show 0 < (tOf r).length by rw [tOf_len, hP.len]; exact hP.gok.lo)
  have HFF := Lib.hid (show facesF g r = (facesN (tOf r)).map natsI by rw [facesF, if_pos ha])
  have HM32 := Lib.hid (mask32 (setOk_range hso))
  clear ha hP
  go_enter Try.func15, Try.ntmps15
  go_wp2_with fail
  refine hao.mono ?_
  rintro e w1 ⟨rfl, hb1⟩
  have hq1 := hq0.trans (hb1.mono hq0.size)
  have hse := specSetOk_any _ _ _ _ _ (hvg.below hq1 (Nat.le_refl _)) (hsv.below hq1 (Nat.le_refl _))
  rw [hso] at hse
  have c0 : w1.cell? ⟨w.heap.size, 0, none⟩ = some (.slice ga g.length gc) := (hb1.cell (p := ⟨w.heap.size, 0, none⟩) (by simp <;> omega)).trans (by simp [go_sem])
  have c1 : w1.cell? ⟨w.heap.size + 1, 0, none⟩ = some (.slice ra r.length rc) := (hb1.cell (p := ⟨w.heap.size + 1, 0, none⟩) (by simp <;> omega)).trans (by simp [go_sem])
  clear hao hso
  go_wp2_with fail
  refine hse.mono ?_
  rintro e w2 ⟨rfl, hb2⟩
  have hq2 := hq1.trans (hb2.mono hq1.size)
  have c1 := (hb2.cell (cell_lt c1)).trans c1
  have htr := hvr.below hq2 (Nat.le_refl _)
  rw [show SlR S' w2 (.slice ra r.length rc) r = SlR S' w2 (.slice ra r.length rc) ((tOf r).map natsI) by rw [← HEQ.out]] at htr
  have hfa := l22Faces_any HRT.out HL0.out htr
  clear hse
  go_wp2_with fail
  refine hfa.mono ?_
  rintro e w3 ⟨fu, rfl, hfu, hb3⟩
  have hq3 := hq2.trans (hb3.mono hq2.size)
  rw [← HFF.out] at hfu
  have hfr := hfu.rows HSM.out
  have hsv3 := hsv.below hq3 (Nat.le_refl _)
  clear hfa hfu htr
  generalize hFe : facesF g r = F at *
  have HFE := Lib.hid hFe
  obtain ⟨fa, fb, foff, fcap, ff, rfl, hfl, hfa, hfc⟩ := hfr
  have HFC := Lib.hid hfc
  clear hfc hFe
  go_wp2
  go_loopw [8] (fun i wr => ∃ k : Nat, k ≤ F.length ∧ i = .int .i64 k ∧ RowKit.Hid (∀ f ∈ F.take k, coverB s f = false) ∧ Drawn w3 wr) (fun i _ => F.length - (intOf i).toNat)
  case atStart => exact ⟨0, Nat.zero_le _, rfl, Lib.hid (fun x h => by simp at h), Drawn.refl _⟩
  case round =>
    obtain ⟨k, hk, rfl, HN, hqd⟩ := hrel
    obtain ⟨wi, rfl⟩ : ∃ wx : World, wx = wr := ⟨_, rfl⟩
    by_cases hlt : k < F.length
    · obtain ⟨rfl, -⟩ := hfa (by omega)
      obtain ⟨hcell, hrow⟩ := HFC.out k hlt
      have hm1 := fun n => l25Mask_any ((hsv3.drawn hqd).drewN n) HR.out
      have hm2 := fun n => l25Mask_any ((hrow.drawn hqd).drewN n) (HRF.out _ (List.getElem_mem hlt))
      have hcell := (hqd.cell _).trans hcell
      have hm32 := HM32.out
      have hmf := mask32 (HRF.out _ (List.getElem_mem hlt))
      have han := i64_andNot_nat (maskL s) (maskL F[k]) hm32 hmf
      have htk : F.take (k + 1) = F.take k ++ [F[k]] := List.take_succ_eq_append_getElem hlt
      have HY := Lib.hid (fun h : coverB s F[k] = true => fwI_hit hlt HN.out h)
      have HNO := Lib.hid (fun h : coverB s F[k] = false => show ∀ f ∈ F.take (k + 1), coverB s f = false from fun x hx => by
        rw [htk, List.mem_append, List.mem_singleton] at hx
        rcases hx with hx | rfl
        · exact HN.out x hx
        · exact h)
      have HCB := Lib.hid (show coverB s F[k] = decide (andN (maskL s) (maskL F[k]) = 0) from rfl)
      have hlti : (k : Int) < F.length := by omega
      generalize andN (maskL s) (maskL F[k]) = z at *
      generalize maskL s = ms at *
      generalize maskL F[k] = mf at *
      generalize ff k = rk at *
      clear htk hrow
      by_cases hz : z = 0
      · have HA := Lib.hid (HY.out (by rw [HCB.out]; exact decide_eq_true hz))
        have hz1 : ((z : Int) == 0) = true := by rw [beq_iff_eq]; omega
        have hz2 : (z == 0) = true := by rw [beq_iff_eq]; exact hz
        clear HY HNO HCB hz
        go_wp2
        go_quiet ((go_at_call 39; first | (with_reducible exact quiet_same (hm1 _)) | (with_reducible exact quiet_same (hm2 _)) | fail))
        go_wp2
        go_ret
        exact ⟨ret_int (HA.out.symm.trans HE.out.symm), hq3.trans (((hqd.drewN _).below w3.heap.size).mono hq3.size)⟩
      · have HA := Lib.hid (HNO.out (by rw [HCB.out]; exact decide_eq_false hz))
        have hz1 : ((z : Int) == 0) = false := by rw [beq_eq_false_iff_ne]; omega
        have hz2 : (z == 0) = false := by rw [beq_eq_false_iff_ne]; exact hz
        clear HY HNO HCB hz
        go_wp2
        go_quiet ((go_at_call 39; first | (with_reducible exact quiet_same (hm1 _)) | (with_reducible exact quiet_same (hm2 _)) | fail))
        go_wp2
        go_roundw
        case rel => exact ⟨k + 1, by omega, by go_num, HA, hqd.drewN _⟩
        case measure => simp [intOf]; omega
    · have HA := Lib.hid (fwI_miss (s := s) (F := F) fun x hx => HN.out x (by rw [List.take_of_length_le (by omega)]; exact hx))
      go_wp2
      go_ret
      exact ⟨ret_int (HA.out.symm.trans HE.out.symm), hq3.trans ((hqd.below w3.heap.size).mono hq3.size)⟩
set_option maxHeartbeats 8000000 in
theorem lawFaceWith_any {S0 S1 S2 : Nat → Prop} (v0 : Value) (g0 : List (List Int)) (v1 : Value) (rr1 : List (List Int)) (v2 : Value) (s2 : List Int) (w : World) (hv0 : SlR S0 w v0 g0) (hv1 : SlR S1 w v1 rr1) (hv2 : SlI S2 w .i64 v2 s2) :
    Calls Try.prog 4 #[.agg #[v0], .agg #[v1], v2] w fun e w' => e = .returned (.bool true) ∧ Below w.heap.size w w' := by
  obtain ⟨a0, c0, rfl⟩ := hv0.slice
  obtain ⟨a1, c1, rfl⟩ := hv1.slice
  obtain ⟨a2, c2, rfl⟩ := hv2.slice
  have q0 : Below w.heap.size w ((w.alloc (.cells #[.slice a0 g0.length c0] 24)).alloc (.cells #[.slice a1 rr1.length c1] 26)) := ((Below.refl _ _).alloc (Nat.le_refl _) _).alloc (by simp; try omega) _
  by_cases hl2 : s2.length ≤ 1048576
  case neg =>
    go_enter Try.func4, Try.ntmps4
    go_wp2
    go_ret
    exact ⟨rfl, q0⟩
  go_enter Try.func4, Try.ntmps4
  go_wp2_with fail
  refine (szGraph_any _ _ _ _ (hv0.below q0 (Nat.le_refl _)) (by omega) (by omega)).mono ?_
  rintro e w1 ⟨r1, rfl, hr1, hs1, hm1, hb1⟩
  have q1 := q0.trans (hb1.mono q0.size)
  have b0_1 : w1.cell? ⟨w.heap.size, 0, none⟩ = some (.slice a0 g0.length c0) := (hb1.cell (p := ⟨w.heap.size, 0, none⟩) (by simp <;> omega)).trans (by simp [go_sem])
  have b1_1 : w1.cell? ⟨w.heap.size + 1, 0, none⟩ = some (.slice a1 rr1.length c1) := (hb1.cell (p := ⟨w.heap.size + 1, 0, none⟩) (by simp <;> omega)).trans (by simp [go_sem])
  by_cases hneg1 : r1 < 0
  case pos =>
    go_wp2
    go_ret
    exact ⟨rfl, q1⟩
  have hsm0 : SmallR g0 1048576 := hm1 (by omega)
  go_wp2_with fail
  refine (szAround_any _ _ _ _ (hv1.below q1 (Nat.le_refl _)) (by omega) (by omega)).mono ?_
  rintro e w2 ⟨r2, rfl, hr2, hs2, hm2, hb2⟩
  have q2 := q1.trans (hb2.mono q1.size)
  have b0_2 : w2.cell? ⟨w.heap.size, 0, none⟩ = some (.slice a0 g0.length c0) := (hb2.cell (p := ⟨w.heap.size, 0, none⟩) (cell_lt b0_1)).trans b0_1
  have b1_2 : w2.cell? ⟨w.heap.size + 1, 0, none⟩ = some (.slice a1 rr1.length c1) := (hb2.cell (p := ⟨w.heap.size + 1, 0, none⟩) (cell_lt b1_1)).trans b1_1
  by_cases hneg2 : r2 < 0
  case pos =>
    go_wp2
    go_ret
    exact ⟨rfl, q2⟩
  have hsm1 : SmallR rr1 1048576 := smallR_mono (hm2 (by omega)) (by omega)
  go_wp2
  have _tt : True := trivial
  refine wp_region_held_drew (S := (fun w' => w'.cell? ⟨w.heap.size, 0, none⟩ = some (.slice a0 g0.length c0) ∧ w'.cell? ⟨w.heap.size + 1, 0, none⟩ = some (.slice a1 rr1.length c1))) (by kernel_rfl) ?_ (fun hHeld => ?_)
  · first | exact ⟨‹_›, ‹_›⟩ | assumption | (simp [*, go_sem])
  refine wpAnyH_take (i := 0) (v := ?v1) (by simp only [List.getElem?_toArray, List.getElem?_cons_zero]; exact rfl) (by kernel_rfl) (by kernel_rfl) (by kernel_rfl) (by intro _ _ _ h; exact h) (Or.inl ⟨by rfl, ?y1⟩) hHeld ?_
  case y1 => (intro w hSw; (try dsimp only at hSw); go_simp; try (with_reducible rfl))
  try simp only [Act.put, List.setIfInBounds_toArray, List.set_cons_zero, List.set_cons_succ]
  refine wpAnyH_take (i := 2) (v := ?v2) (by simp only [List.getElem?_toArray, List.getElem?_cons_succ, List.getElem?_cons_zero]; exact rfl) (by kernel_rfl) (by kernel_rfl) (by kernel_rfl) (by intro _ _ _ h; exact h) (Or.inl ⟨by rfl, ?y2⟩) hHeld ?_
  case y2 => (intro w hSw; (try dsimp only at hSw); go_simp; try (with_reducible rfl))
  try simp only [Act.put, List.setIfInBounds_toArray, List.set_cons_zero, List.set_cons_succ]
  refine wpAnyH_take (i := 4) (v := ?v3) (by simp only [List.getElem?_toArray, List.getElem?_cons_succ, List.getElem?_cons_zero]; exact rfl) (by kernel_rfl) (by kernel_rfl) (by kernel_rfl) (by intro _ _ _ h; exact h) (Or.inl ⟨by rfl, ?y3⟩) hHeld ?_
  case y3 => (intro w hSw; (try dsimp only at hSw); go_simp; try (with_reducible rfl))
  try simp only [Act.put, List.setIfInBounds_toArray, List.set_cons_zero, List.set_cons_succ]
  refine wpAnyH_ready (rs := [1]) (by kernel_rfl) (by simp) ?_
  refine AllReadyH.cons (by simp only [List.getElem?_toArray, List.getElem?_cons_succ, List.getElem?_cons_zero]; exact rfl) (fun K hK => ?_) AllReadyH.nil
  go_simp
  have q2d := q2.drew
  refine (toGraph_any _ _ _ (hv0.below q2d (Nat.le_refl _)) hsm0).mono ?_
  rintro e w3 ⟨x3, rfl, hy3, hb3⟩
  have hb3e : Below w2.heap.size w2 w3 := ⟨hb3.os, hb3.tape, hb3.output, hb3.size, hb3.block⟩
  have q3 := q2.trans (hb3e.mono q2.size)
  have b0_3 : w3.cell? ⟨w.heap.size, 0, none⟩ = some (.slice a0 g0.length c0) := (hb3e.cell (p := ⟨w.heap.size, 0, none⟩) (cell_lt b0_2)).trans b0_2
  have b1_3 : w3.cell? ⟨w.heap.size + 1, 0, none⟩ = some (.slice a1 rr1.length c1) := (hb3e.cell (p := ⟨w.heap.size + 1, 0, none⟩) (cell_lt b1_2)).trans b1_2
  have y3_3 := hy3
  try dsimp only
  refine hK.out _ _ ?h5 (fun hHeld => ?_)
  case h5 => first | exact ⟨‹_›, ‹_›⟩ | assumption | (simp [*, go_sem])
  clear hK K
  try simp only [Act.put, List.setIfInBounds_toArray, List.set_cons_zero, List.set_cons_succ]
  refine wpAnyH_ready (rs := [3]) (by kernel_rfl) (by simp) ?_
  refine AllReadyH.cons (by simp only [List.getElem?_toArray, List.getElem?_cons_succ, List.getElem?_cons_zero]; exact rfl) (fun K hK => ?_) AllReadyH.nil
  go_simp
  refine (toAround_any _ _ _ (hv1.below q3 (Nat.le_refl _)) hsm1).mono ?_
  rintro e w4 ⟨x4, rfl, hy4, hb4⟩
  have q4 := q3.trans (hb4.mono q3.size)
  have b0_4 : w4.cell? ⟨w.heap.size, 0, none⟩ = some (.slice a0 g0.length c0) := (hb4.cell (p := ⟨w.heap.size, 0, none⟩) (cell_lt b0_3)).trans b0_3
  have b1_4 : w4.cell? ⟨w.heap.size + 1, 0, none⟩ = some (.slice a1 rr1.length c1) := (hb4.cell (p := ⟨w.heap.size + 1, 0, none⟩) (cell_lt b1_3)).trans b1_3
  have y3_4 := y3_3.below hb4 (Nat.le_refl _)
  have y4_4 := hy4
  try dsimp only
  refine hK.out _ _ ?h7 (fun hHeld => ?_)
  case h7 => first | exact ⟨‹_›, ‹_›⟩ | assumption | (simp [*, go_sem])
  clear hK K
  try simp only [Act.put, List.setIfInBounds_toArray, List.set_cons_zero, List.set_cons_succ]
  refine wpAnyH_ready (rs := [5]) (by kernel_rfl) (by simp) ?_
  refine AllReadyH.cons (by simp only [List.getElem?_toArray, List.getElem?_cons_succ, List.getElem?_cons_zero]; exact rfl) (fun K hK => ?_) AllReadyH.nil
  go_simp
  refine (toInt64S_any _ _ _ (hv2.below q4 (Nat.le_refl _)) hl2).mono ?_
  rintro e w5 ⟨x5, rfl, hy5, hb5⟩
  have q5 := q4.trans (hb5.mono q4.size)
  have b0_5 : w5.cell? ⟨w.heap.size, 0, none⟩ = some (.slice a0 g0.length c0) := (hb5.cell (p := ⟨w.heap.size, 0, none⟩) (cell_lt b0_4)).trans b0_4
  have b1_5 : w5.cell? ⟨w.heap.size + 1, 0, none⟩ = some (.slice a1 rr1.length c1) := (hb5.cell (p := ⟨w.heap.size + 1, 0, none⟩) (cell_lt b1_4)).trans b1_4
  have y3_5 := y3_4.below hb5 (Nat.le_refl _)
  have y4_5 := y4_4.below hb5 (Nat.le_refl _)
  have y5_5 := Own.ints (xs := s2) hy5 (by omega)
  try dsimp only
  refine hK.out _ _ ?h9 (fun hHeld => ?_)
  case h9 => first | exact ⟨‹_›, ‹_›⟩ | assumption | (simp [*, go_sem])
  clear hK K
  try simp only [Act.put, List.setIfInBounds_toArray, List.set_cons_zero, List.set_cons_succ]
  refine wpAnyH_ready (rs := [6]) (by kernel_rfl) (by simp) ?_
  refine AllReadyH.cons (by simp only [List.getElem?_toArray, List.getElem?_cons_succ, List.getElem?_cons_zero]; exact rfl) (fun K hK => ?_) AllReadyH.nil
  go_simp
  refine (specFaceWith_any y3_5 y4_5 y5_5).mono ?_
  rintro e w6 ⟨rfl, hb6⟩
  have q6 := q5.trans (hb6.mono q5.size)
  have b0_6 : w6.cell? ⟨w.heap.size, 0, none⟩ = some (.slice a0 g0.length c0) := (hb6.cell (p := ⟨w.heap.size, 0, none⟩) (cell_lt b0_5)).trans b0_5
  have b1_6 : w6.cell? ⟨w.heap.size + 1, 0, none⟩ = some (.slice a1 rr1.length c1) := (hb6.cell (p := ⟨w.heap.size + 1, 0, none⟩) (cell_lt b1_5)).trans b1_5
  have y3_6 := y3_5.below hb6 (Nat.le_refl _)
  have y4_6 := y4_5.below hb6 (Nat.le_refl _)
  have y5_6 := y5_5.below hb6 (Nat.le_refl _)
  try dsimp only
  refine hK.out _ _ ?h11 (fun hHeld => ?_)
  case h11 => first | exact ⟨‹_›, ‹_›⟩ | assumption | (simp [*, go_sem])
  clear hK K
  try simp only [Act.put, List.setIfInBounds_toArray, List.set_cons_zero, List.set_cons_succ]
  refine wpAnyH_take (i := 7) (v := ?v12) (by simp only [List.getElem?_toArray, List.getElem?_cons_succ, List.getElem?_cons_zero]; exact rfl) (by kernel_rfl) (by kernel_rfl) (by kernel_rfl) (by intro _ _ _ h; exact h) (Or.inl ⟨by rfl, ?y12⟩) hHeld ?_
  case y12 => (intro w hSw; (try dsimp only at hSw); go_simp; try (with_reducible rfl))
  try simp only [Act.put, List.setIfInBounds_toArray, List.set_cons_zero, List.set_cons_succ]
  refine wpAnyH_done (by kernel_rfl) ?_ _
  go_wp2_with fail
  refine (toGraph_any _ _ _ (hv0.below q6 (Nat.le_refl _)) hsm0).mono ?_
  rintro e w7 ⟨x7, rfl, hy7, hb7⟩
  have q7 := q6.trans (hb7.mono q6.size)
  have b0_7 : w7.cell? ⟨w.heap.size, 0, none⟩ = some (.slice a0 g0.length c0) := (hb7.cell (p := ⟨w.heap.size, 0, none⟩) (cell_lt b0_6)).trans b0_6
  have b1_7 : w7.cell? ⟨w.heap.size + 1, 0, none⟩ = some (.slice a1 rr1.length c1) := (hb7.cell (p := ⟨w.heap.size + 1, 0, none⟩) (cell_lt b1_6)).trans b1_6
  have y3_7 := y3_6.below hb7 (Nat.le_refl _)
  have y4_7 := y4_6.below hb7 (Nat.le_refl _)
  have y5_7 := y5_6.below hb7 (Nat.le_refl _)
  have y7_7 := hy7
  obtain ⟨xa8, xc8, rfl⟩ := y7_7.slice
  have hb8 : Below w7.heap.size w7 (w7.alloc (.cells #[.slice xa8 g0.length xc8] 30)) := (Below.refl _ _).alloc (Nat.le_refl _) _
  have q8 := q7.trans (hb8.mono q7.size)
  have b0_8 := (hb8.cell (p := ⟨w.heap.size, 0, none⟩) (cell_lt b0_7)).trans b0_7
  have b1_8 := (hb8.cell (p := ⟨w.heap.size + 1, 0, none⟩) (cell_lt b1_7)).trans b1_7
  have y3_8 := y3_7.below hb8 (Nat.le_refl _)
  have y4_8 := y4_7.below hb8 (Nat.le_refl _)
  have y5_8 := y5_7.below hb8 (Nat.le_refl _)
  have y7_8 := y7_7.below hb8 (Nat.le_refl _)
  go_wp2_with fail
  refine (toAround_any _ _ _ (hv1.below q8 (Nat.le_refl _)) hsm1).mono ?_
  rintro e w9 ⟨x9, rfl, hy9, hb9⟩
  have q9 := q8.trans (hb9.mono q8.size)
  have b0_9 : w9.cell? ⟨w.heap.size, 0, none⟩ = some (.slice a0 g0.length c0) := (hb9.cell (p := ⟨w.heap.size, 0, none⟩) (by have := cell_lt b0_8; simp at this ⊢; omega)).trans b0_8
  have b1_9 : w9.cell? ⟨w.heap.size + 1, 0, none⟩ = some (.slice a1 rr1.length c1) := (hb9.cell (p := ⟨w.heap.size + 1, 0, none⟩) (by have := cell_lt b1_8; simp at this ⊢; omega)).trans b1_8
  have l8_9 : w9.cell? ⟨w7.heap.size, 0, none⟩ = some (.slice xa8 g0.length xc8) := (hb9.cell (p := ⟨w7.heap.size, 0, none⟩) (by simp)).trans (by simp [go_sem])
  have y3_9 := y3_8.below hb9 (Nat.le_refl _)
  have y4_9 := y4_8.below hb9 (Nat.le_refl _)
  have y5_9 := y5_8.below hb9 (Nat.le_refl _)
  have y7_9 := y7_8.below hb9 (Nat.le_refl _)
  have y9_9 := hy9
  obtain ⟨xa10, xc10, rfl⟩ := y9_9.slice
  have hb10 : Below w9.heap.size w9 (w9.alloc (.cells #[.slice xa10 rr1.length xc10] 32)) := (Below.refl _ _).alloc (Nat.le_refl _) _
  have q10 := q9.trans (hb10.mono q9.size)
  have b0_10 := (hb10.cell (p := ⟨w.heap.size, 0, none⟩) (cell_lt b0_9)).trans b0_9
  have b1_10 := (hb10.cell (p := ⟨w.heap.size + 1, 0, none⟩) (cell_lt b1_9)).trans b1_9
  have l8_10 := (hb10.cell (p := ⟨w7.heap.size, 0, none⟩) (cell_lt l8_9)).trans l8_9
  have y3_10 := y3_9.below hb10 (Nat.le_refl _)
  have y4_10 := y4_9.below hb10 (Nat.le_refl _)
  have y5_10 := y5_9.below hb10 (Nat.le_refl _)
  have y7_10 := y7_9.below hb10 (Nat.le_refl _)
  have y9_10 := y9_9.below hb10 (Nat.le_refl _)
  go_wp2_with fail
  refine (toInt64S_any _ _ _ (hv2.below q10 (Nat.le_refl _)) hl2).mono ?_
  rintro e w11 ⟨x11, rfl, hy11, hb11⟩
  have q11 := q10.trans (hb11.mono q10.size)
  have b0_11 : w11.cell? ⟨w.heap.size, 0, none⟩ = some (.slice a0 g0.length c0) := (hb11.cell (p := ⟨w.heap.size, 0, none⟩) (by have := cell_lt b0_10; simp at this ⊢; omega)).trans b0_10
  have b1_11 : w11.cell? ⟨w.heap.size + 1, 0, none⟩ = some (.slice a1 rr1.length c1) := (hb11.cell (p := ⟨w.heap.size + 1, 0, none⟩) (by have := cell_lt b1_10; simp at this ⊢; omega)).trans b1_10
  have l8_11 : w11.cell? ⟨w7.heap.size, 0, none⟩ = some (.slice xa8 g0.length xc8) := (hb11.cell (p := ⟨w7.heap.size, 0, none⟩) (by have := cell_lt l8_10; simp at this ⊢; omega)).trans l8_10
  have l10_11 : w11.cell? ⟨w9.heap.size, 0, none⟩ = some (.slice xa10 rr1.length xc10) := (hb11.cell (p := ⟨w9.heap.size, 0, none⟩) (by simp)).trans (by simp [go_sem])
  have y3_11 := y3_10.below hb11 (Nat.le_refl _)
  have y4_11 := y4_10.below hb11 (Nat.le_refl _)
  have y5_11 := y5_10.below hb11 (Nat.le_refl _)
  have y7_11 := y7_10.below hb11 (Nat.le_refl _)
  have y9_11 := y9_10.below hb11 (Nat.le_refl _)
  have y11_11 := Own.ints (xs := s2) hy11 (by omega)
  go_wp2_with fail
  refine (implFaceWith_any y7_11 y9_11 y11_11 hsm1).mono ?_
  rintro e w12 ⟨rfl, hb12⟩
  have q12 := q11.trans (hb12.mono q11.size)
  have b0_12 : w12.cell? ⟨w.heap.size, 0, none⟩ = some (.slice a0 g0.length c0) := (hb12.cell (p := ⟨w.heap.size, 0, none⟩) (cell_lt b0_11)).trans b0_11
  have b1_12 : w12.cell? ⟨w.heap.size + 1, 0, none⟩ = some (.slice a1 rr1.length c1) := (hb12.cell (p := ⟨w.heap.size + 1, 0, none⟩) (cell_lt b1_11)).trans b1_11
  have l8_12 : w12.cell? ⟨w7.heap.size, 0, none⟩ = some (.slice xa8 g0.length xc8) := (hb12.cell (p := ⟨w7.heap.size, 0, none⟩) (cell_lt l8_11)).trans l8_11
  have l10_12 : w12.cell? ⟨w9.heap.size, 0, none⟩ = some (.slice xa10 rr1.length xc10) := (hb12.cell (p := ⟨w9.heap.size, 0, none⟩) (cell_lt l10_11)).trans l10_11
  have y3_12 := y3_11.below hb12 (Nat.le_refl _)
  have y4_12 := y4_11.below hb12 (Nat.le_refl _)
  have y5_12 := y5_11.below hb12 (Nat.le_refl _)
  have y7_12 := y7_11.below hb12 (Nat.le_refl _)
  have y9_12 := y9_11.below hb12 (Nat.le_refl _)
  have y11_12 := y11_11.below hb12 (Nat.le_refl _)
  go_wp2
  have _tt : True := trivial
  refine wp_region_held_drew (S := (fun w' => w'.cell? ⟨w.heap.size, 0, none⟩ = some (.slice a0 g0.length c0) ∧ w'.cell? ⟨w.heap.size + 1, 0, none⟩ = some (.slice a1 rr1.length c1) ∧ w'.cell? ⟨w7.heap.size, 0, none⟩ = some (.slice xa8 g0.length xc8) ∧ w'.cell? ⟨w9.heap.size, 0, none⟩ = some (.slice xa10 rr1.length xc10))) (by kernel_rfl) ?_ (fun hHeld => ?_)
  · first | exact ⟨‹_›, ‹_›, ‹_›, ‹_›⟩ | assumption | (simp [*, go_sem])
  refine wpAnyH_take (i := 0) (v := ?v13) (by simp only [List.getElem?_toArray, List.getElem?_cons_zero]; exact rfl) (by kernel_rfl) (by kernel_rfl) (by kernel_rfl) (by intro _ _ _ h; exact h) (Or.inl ⟨by rfl, ?y13⟩) hHeld ?_
  case y13 => (intro w hSw; (try dsimp only at hSw); go_simp; try (with_reducible rfl))
  try simp only [Act.put, List.setIfInBounds_toArray, List.set_cons_zero, List.set_cons_succ]
  refine wpAnyH_take (i := 1) (v := ?v14) (by simp only [List.getElem?_toArray, List.getElem?_cons_succ, List.getElem?_cons_zero]; exact rfl) (by kernel_rfl) (by kernel_rfl) (by kernel_rfl) (by intro _ _ _ h; exact h) (Or.inl ⟨by rfl, ?y14⟩) hHeld ?_
  case y14 => (intro w hSw; (try dsimp only at hSw); go_simp; try (with_reducible rfl))
  try simp only [Act.put, List.setIfInBounds_toArray, List.set_cons_zero, List.set_cons_succ]
  refine wpAnyH_ready (rs := [2]) (by kernel_rfl) (by simp) ?_
  refine AllReadyH.cons (by simp only [List.getElem?_toArray, List.getElem?_cons_succ, List.getElem?_cons_zero]; exact rfl) (fun K hK => ?_) AllReadyH.nil
  go_simp
  have q12d := q12.drew
  refine (toGraph_any _ _ _ (hv0.below q12d (Nat.le_refl _)) hsm0).mono ?_
  rintro e w13 ⟨x13, rfl, hy13, hb13⟩
  have hb13e : Below w12.heap.size w12 w13 := ⟨hb13.os, hb13.tape, hb13.output, hb13.size, hb13.block⟩
  have q13 := q12.trans (hb13e.mono q12.size)
  have b0_13 : w13.cell? ⟨w.heap.size, 0, none⟩ = some (.slice a0 g0.length c0) := (hb13e.cell (p := ⟨w.heap.size, 0, none⟩) (cell_lt b0_12)).trans b0_12
  have b1_13 : w13.cell? ⟨w.heap.size + 1, 0, none⟩ = some (.slice a1 rr1.length c1) := (hb13e.cell (p := ⟨w.heap.size + 1, 0, none⟩) (cell_lt b1_12)).trans b1_12
  have l8_13 : w13.cell? ⟨w7.heap.size, 0, none⟩ = some (.slice xa8 g0.length xc8) := (hb13e.cell (p := ⟨w7.heap.size, 0, none⟩) (cell_lt l8_12)).trans l8_12
  have l10_13 : w13.cell? ⟨w9.heap.size, 0, none⟩ = some (.slice xa10 rr1.length xc10) := (hb13e.cell (p := ⟨w9.heap.size, 0, none⟩) (cell_lt l10_12)).trans l10_12
  have y3_13 := y3_12.below hb13e (Nat.le_refl _)
  have y4_13 := y4_12.below hb13e (Nat.le_refl _)
  have y5_13 := y5_12.below hb13e (Nat.le_refl _)
  have y7_13 := y7_12.below hb13e (Nat.le_refl _)
  have y9_13 := y9_12.below hb13e (Nat.le_refl _)
  have y11_13 := y11_12.below hb13e (Nat.le_refl _)
  have y13_13 := hy13
  try dsimp only
  refine hK.out _ _ ?h16 (fun hHeld => ?_)
  case h16 => first | exact ⟨‹_›, ‹_›, ‹_›, ‹_›⟩ | assumption | (simp [*, go_sem])
  clear hK K
  try simp only [Act.put, List.setIfInBounds_toArray, List.set_cons_zero, List.set_cons_succ]
  refine wpAnyH_ready (rs := [3]) (by kernel_rfl) (by simp) ?_
  refine AllReadyH.cons (by simp only [List.getElem?_toArray, List.getElem?_cons_succ, List.getElem?_cons_zero]; exact rfl) (fun K hK => ?_) AllReadyH.nil
  go_simp
  refine (eqGraph_any _ _ _ _ _ y7_13 y13_13).mono ?_
  rintro e w14 ⟨rfl, hb14⟩
  have q14 := q13.trans (hb14.mono q13.size)
  have b0_14 : w14.cell? ⟨w.heap.size, 0, none⟩ = some (.slice a0 g0.length c0) := (hb14.cell (p := ⟨w.heap.size, 0, none⟩) (cell_lt b0_13)).trans b0_13
  have b1_14 : w14.cell? ⟨w.heap.size + 1, 0, none⟩ = some (.slice a1 rr1.length c1) := (hb14.cell (p := ⟨w.heap.size + 1, 0, none⟩) (cell_lt b1_13)).trans b1_13
  have l8_14 : w14.cell? ⟨w7.heap.size, 0, none⟩ = some (.slice xa8 g0.length xc8) := (hb14.cell (p := ⟨w7.heap.size, 0, none⟩) (cell_lt l8_13)).trans l8_13
  have l10_14 : w14.cell? ⟨w9.heap.size, 0, none⟩ = some (.slice xa10 rr1.length xc10) := (hb14.cell (p := ⟨w9.heap.size, 0, none⟩) (cell_lt l10_13)).trans l10_13
  have y3_14 := y3_13.below hb14 (Nat.le_refl _)
  have y4_14 := y4_13.below hb14 (Nat.le_refl _)
  have y5_14 := y5_13.below hb14 (Nat.le_refl _)
  have y7_14 := y7_13.below hb14 (Nat.le_refl _)
  have y9_14 := y9_13.below hb14 (Nat.le_refl _)
  have y11_14 := y11_13.below hb14 (Nat.le_refl _)
  have y13_14 := y13_13.below hb14 (Nat.le_refl _)
  try dsimp only
  refine hK.out _ _ ?h18 (fun hHeld => ?_)
  case h18 => first | exact ⟨‹_›, ‹_›, ‹_›, ‹_›⟩ | assumption | (simp [*, go_sem])
  clear hK K
  try simp only [Act.put, List.setIfInBounds_toArray, List.set_cons_zero, List.set_cons_succ]
  refine wpAnyH_take (i := 4) (v := ?v19) (by simp only [List.getElem?_toArray, List.getElem?_cons_succ, List.getElem?_cons_zero]; exact rfl) (by kernel_rfl) (by kernel_rfl) (by kernel_rfl) (by intro _ _ _ h; exact h) (Or.inl ⟨by rfl, ?y19⟩) hHeld ?_
  case y19 => (intro w hSw; (try dsimp only at hSw); go_simp; try (with_reducible rfl))
  try simp only [Act.put, List.setIfInBounds_toArray, List.set_cons_zero, List.set_cons_succ]
  refine wpAnyH_done (by kernel_rfl) ?_ _
  go_wp2
  have _tt : True := trivial
  refine wp_region_held_drew (S := (fun w' => w'.cell? ⟨w.heap.size, 0, none⟩ = some (.slice a0 g0.length c0) ∧ w'.cell? ⟨w.heap.size + 1, 0, none⟩ = some (.slice a1 rr1.length c1) ∧ w'.cell? ⟨w7.heap.size, 0, none⟩ = some (.slice xa8 g0.length xc8) ∧ w'.cell? ⟨w9.heap.size, 0, none⟩ = some (.slice xa10 rr1.length xc10))) (by kernel_rfl) ?_ (fun hHeld => ?_)
  · first | exact ⟨‹_›, ‹_›, ‹_›, ‹_›⟩ | assumption | (simp [*, go_sem])
  refine wpAnyH_take (i := 0) (v := ?v20) (by simp only [List.getElem?_toArray, List.getElem?_cons_zero]; exact rfl) (by kernel_rfl) (by kernel_rfl) (by kernel_rfl) (by intro _ _ _ h; exact h) (Or.inl ⟨by rfl, ?y20⟩) hHeld ?_
  case y20 => (intro w hSw; (try dsimp only at hSw); go_simp; try (with_reducible rfl))
  try simp only [Act.put, List.setIfInBounds_toArray, List.set_cons_zero, List.set_cons_succ]
  refine wpAnyH_take (i := 1) (v := ?v21) (by simp only [List.getElem?_toArray, List.getElem?_cons_succ, List.getElem?_cons_zero]; exact rfl) (by kernel_rfl) (by kernel_rfl) (by kernel_rfl) (by intro _ _ _ h; exact h) (Or.inl ⟨by rfl, ?y21⟩) hHeld ?_
  case y21 => (intro w hSw; (try dsimp only at hSw); go_simp; try (with_reducible rfl))
  try simp only [Act.put, List.setIfInBounds_toArray, List.set_cons_zero, List.set_cons_succ]
  refine wpAnyH_ready (rs := [2]) (by kernel_rfl) (by simp) ?_
  refine AllReadyH.cons (by simp only [List.getElem?_toArray, List.getElem?_cons_succ, List.getElem?_cons_zero]; exact rfl) (fun K hK => ?_) AllReadyH.nil
  go_simp
  have q14d := q14.drew
  refine (toAround_any _ _ _ (hv1.below q14d (Nat.le_refl _)) hsm1).mono ?_
  rintro e w15 ⟨x15, rfl, hy15, hb15⟩
  have hb15e : Below w14.heap.size w14 w15 := ⟨hb15.os, hb15.tape, hb15.output, hb15.size, hb15.block⟩
  have q15 := q14.trans (hb15e.mono q14.size)
  have b0_15 : w15.cell? ⟨w.heap.size, 0, none⟩ = some (.slice a0 g0.length c0) := (hb15e.cell (p := ⟨w.heap.size, 0, none⟩) (cell_lt b0_14)).trans b0_14
  have b1_15 : w15.cell? ⟨w.heap.size + 1, 0, none⟩ = some (.slice a1 rr1.length c1) := (hb15e.cell (p := ⟨w.heap.size + 1, 0, none⟩) (cell_lt b1_14)).trans b1_14
  have l8_15 : w15.cell? ⟨w7.heap.size, 0, none⟩ = some (.slice xa8 g0.length xc8) := (hb15e.cell (p := ⟨w7.heap.size, 0, none⟩) (cell_lt l8_14)).trans l8_14
  have l10_15 : w15.cell? ⟨w9.heap.size, 0, none⟩ = some (.slice xa10 rr1.length xc10) := (hb15e.cell (p := ⟨w9.heap.size, 0, none⟩) (cell_lt l10_14)).trans l10_14
  have y3_15 := y3_14.below hb15e (Nat.le_refl _)
  have y4_15 := y4_14.below hb15e (Nat.le_refl _)
  have y5_15 := y5_14.below hb15e (Nat.le_refl _)
  have y7_15 := y7_14.below hb15e (Nat.le_refl _)
  have y9_15 := y9_14.below hb15e (Nat.le_refl _)
  have y11_15 := y11_14.below hb15e (Nat.le_refl _)
  have y13_15 := y13_14.below hb15e (Nat.le_refl _)
  have y15_15 := hy15
  try dsimp only
  refine hK.out _ _ ?h23 (fun hHeld => ?_)
  case h23 => first | exact ⟨‹_›, ‹_›, ‹_›, ‹_›⟩ | assumption | (simp [*, go_sem])
  clear hK K
  try simp only [Act.put, List.setIfInBounds_toArray, List.set_cons_zero, List.set_cons_succ]
  refine wpAnyH_ready (rs := [3]) (by kernel_rfl) (by simp) ?_
  refine AllReadyH.cons (by simp only [List.getElem?_toArray, List.getElem?_cons_succ, List.getElem?_cons_zero]; exact rfl) (fun K hK => ?_) AllReadyH.nil
  go_simp
  refine (eqAround_any _ _ _ _ _ y9_15 y15_15).mono ?_
  rintro e w16 ⟨rfl, hb16⟩
  have q16 := q15.trans (hb16.mono q15.size)
  have b0_16 : w16.cell? ⟨w.heap.size, 0, none⟩ = some (.slice a0 g0.length c0) := (hb16.cell (p := ⟨w.heap.size, 0, none⟩) (cell_lt b0_15)).trans b0_15
  have b1_16 : w16.cell? ⟨w.heap.size + 1, 0, none⟩ = some (.slice a1 rr1.length c1) := (hb16.cell (p := ⟨w.heap.size + 1, 0, none⟩) (cell_lt b1_15)).trans b1_15
  have l8_16 : w16.cell? ⟨w7.heap.size, 0, none⟩ = some (.slice xa8 g0.length xc8) := (hb16.cell (p := ⟨w7.heap.size, 0, none⟩) (cell_lt l8_15)).trans l8_15
  have l10_16 : w16.cell? ⟨w9.heap.size, 0, none⟩ = some (.slice xa10 rr1.length xc10) := (hb16.cell (p := ⟨w9.heap.size, 0, none⟩) (cell_lt l10_15)).trans l10_15
  have y3_16 := y3_15.below hb16 (Nat.le_refl _)
  have y4_16 := y4_15.below hb16 (Nat.le_refl _)
  have y5_16 := y5_15.below hb16 (Nat.le_refl _)
  have y7_16 := y7_15.below hb16 (Nat.le_refl _)
  have y9_16 := y9_15.below hb16 (Nat.le_refl _)
  have y11_16 := y11_15.below hb16 (Nat.le_refl _)
  have y13_16 := y13_15.below hb16 (Nat.le_refl _)
  have y15_16 := y15_15.below hb16 (Nat.le_refl _)
  try dsimp only
  refine hK.out _ _ ?h25 (fun hHeld => ?_)
  case h25 => first | exact ⟨‹_›, ‹_›, ‹_›, ‹_›⟩ | assumption | (simp [*, go_sem])
  clear hK K
  try simp only [Act.put, List.setIfInBounds_toArray, List.set_cons_zero, List.set_cons_succ]
  refine wpAnyH_take (i := 4) (v := ?v26) (by simp only [List.getElem?_toArray, List.getElem?_cons_succ, List.getElem?_cons_zero]; exact rfl) (by kernel_rfl) (by kernel_rfl) (by kernel_rfl) (by intro _ _ _ h; exact h) (Or.inl ⟨by rfl, ?y26⟩) hHeld ?_
  case y26 => (intro w hSw; (try dsimp only at hSw); go_simp; try (with_reducible rfl))
  try simp only [Act.put, List.setIfInBounds_toArray, List.set_cons_zero, List.set_cons_succ]
  refine wpAnyH_done (by kernel_rfl) ?_ _
  go_wp2_with fail
  refine (toInt64S_any _ _ _ (hv2.below q16 (Nat.le_refl _)) hl2).mono ?_
  rintro e w17 ⟨x17, rfl, hy17, hb17⟩
  have q17 := q16.trans (hb17.mono q16.size)
  have b0_17 : w17.cell? ⟨w.heap.size, 0, none⟩ = some (.slice a0 g0.length c0) := (hb17.cell (p := ⟨w.heap.size, 0, none⟩) (cell_lt b0_16)).trans b0_16
  have b1_17 : w17.cell? ⟨w.heap.size + 1, 0, none⟩ = some (.slice a1 rr1.length c1) := (hb17.cell (p := ⟨w.heap.size + 1, 0, none⟩) (cell_lt b1_16)).trans b1_16
  have l8_17 : w17.cell? ⟨w7.heap.size, 0, none⟩ = some (.slice xa8 g0.length xc8) := (hb17.cell (p := ⟨w7.heap.size, 0, none⟩) (cell_lt l8_16)).trans l8_16
  have l10_17 : w17.cell? ⟨w9.heap.size, 0, none⟩ = some (.slice xa10 rr1.length xc10) := (hb17.cell (p := ⟨w9.heap.size, 0, none⟩) (cell_lt l10_16)).trans l10_16
  have y3_17 := y3_16.below hb17 (Nat.le_refl _)
  have y4_17 := y4_16.below hb17 (Nat.le_refl _)
  have y5_17 := y5_16.below hb17 (Nat.le_refl _)
  have y7_17 := y7_16.below hb17 (Nat.le_refl _)
  have y9_17 := y9_16.below hb17 (Nat.le_refl _)
  have y11_17 := y11_16.below hb17 (Nat.le_refl _)
  have y13_17 := y13_16.below hb17 (Nat.le_refl _)
  have y15_17 := y15_16.below hb17 (Nat.le_refl _)
  have y17_17 := Own.ints (xs := s2) hy17 (by omega)
  go_wp2_with fail
  refine (eqInt64S_any _ _ _ _ _ y11_17 y17_17).mono ?_
  rintro e w18 ⟨rfl, hd18⟩
  have hb18 := hd18.below w17.heap.size
  have q18 := q17.trans (hb18.mono q17.size)
  have b0_18 : w18.cell? ⟨w.heap.size, 0, none⟩ = some (.slice a0 g0.length c0) := (hb18.cell (p := ⟨w.heap.size, 0, none⟩) (cell_lt b0_17)).trans b0_17
  have b1_18 : w18.cell? ⟨w.heap.size + 1, 0, none⟩ = some (.slice a1 rr1.length c1) := (hb18.cell (p := ⟨w.heap.size + 1, 0, none⟩) (cell_lt b1_17)).trans b1_17
  have l8_18 : w18.cell? ⟨w7.heap.size, 0, none⟩ = some (.slice xa8 g0.length xc8) := (hb18.cell (p := ⟨w7.heap.size, 0, none⟩) (cell_lt l8_17)).trans l8_17
  have l10_18 : w18.cell? ⟨w9.heap.size, 0, none⟩ = some (.slice xa10 rr1.length xc10) := (hb18.cell (p := ⟨w9.heap.size, 0, none⟩) (cell_lt l10_17)).trans l10_17
  have y3_18 := y3_17.below hb18 (Nat.le_refl _)
  have y4_18 := y4_17.below hb18 (Nat.le_refl _)
  have y5_18 := y5_17.below hb18 (Nat.le_refl _)
  have y7_18 := y7_17.below hb18 (Nat.le_refl _)
  have y9_18 := y9_17.below hb18 (Nat.le_refl _)
  have y11_18 := y11_17.below hb18 (Nat.le_refl _)
  have y13_18 := y13_17.below hb18 (Nat.le_refl _)
  have y15_18 := y15_17.below hb18 (Nat.le_refl _)
  have y17_18 := y17_17.below hb18 (Nat.le_refl _)
  go_wp2
  go_ret
  exact ⟨rfl, q18⟩
end Go.Proofs.Ytbpjbjeglcphcaa
