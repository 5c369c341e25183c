/- Ears: the program's EarsOk. -/
import Derived.Test.YtgkkgagnoeedaaaDoorEar2
namespace Go.Proofs.YtgkkgagnoeedaaaDoor
open Go.RowKit
theorem ekClo_any {m : Nat} {w : World} : Calls Tryd.prog 86 #[.int .u32 (m : Int)] w fun e w' => e = .returned (.bool (!decide (m = 0))) ∧ w = w' := by
  have hI0 : (((m : Nat) : Int) != 0) = !decide (m = 0) := by rw [Bool.eq_iff_iff, bne_iff_ne, Bool.not_eq_true', decide_eq_false_iff_not]; omega
  have hI1 : (m != 0) = !decide (m = 0) := by rw [Bool.eq_iff_iff, bne_iff_ne, Bool.not_eq_true', decide_eq_false_iff_not]
  generalize (!decide (m = 0)) = bb at *
  go_enter Tryd.func86, Tryd.ntmps86
  go_wp2
  go_ret
  exact ⟨by first | rfl | (simp [hI0, hI1]), rfl⟩
set_option maxHeartbeats 1000000 in
theorem ekIndex_any {S : Nat → Prop} {u : Value} {l : List Nat} {w : World} (hu : SlI S w .u32 u (natsI l)) :
    Calls Tryd.prog 149 #[u, .func (Fn.func 86) #[] #[]] w (IdxPS (l.any fun x => !decide (x = 0)) w) := by
  obtain ⟨ub, uo, ucap, hue, huc⟩ := hu.at_
  have hul := hu.len
  obtain ⟨ua, uc, rfl⟩ := hu.slice
  rw [natsI_len] at *
  go_enter Tryd.func149, Tryd.ntmps149
  go_wp2
  go_loopw [8] (fun i wr => ∃ k : Nat, k ≤ l.length ∧ i = .int .i64 k ∧ RowKit.Hid (∀ x ∈ l.take k, ¬ (!decide (x = 0)) = true) ∧ Drawn w wr) (fun i _ => l.length - (intOf i).toNat)
  case atStart => exact ⟨0, Nat.zero_le _, rfl, Lib.hid (fun x h => by simp at h), Drawn.refl _⟩
  case round =>
    obtain ⟨k, hk, rfl, HN, hq⟩ := hrel
    by_cases hlt : k < l.length
    · have hue := hue (by omega)
      simp only [Value.slice.injEq, true_and] at hue
      obtain ⟨rfl, rfl⟩ := hue
      have hcell := (hq.cell _).trans (huc k (by rw [natsI_len]; exact hlt))
      rw [natsI_at _ hlt] at hcell
      have hcl := ekClo_any (m := l[k]) (w := wr)
      have htk : l.take (k + 1) = l.take k ++ [l[k]] := List.take_succ_eq_append_getElem hlt
      have hmem : l[k] ∈ l := List.getElem_mem hlt
      clear huc
      cases he : (!decide (l[k] = 0)) with
      | true =>
        have HA := Lib.hid (show (l.any fun x => !decide (x = 0)) = true from List.any_eq_true.2 ⟨l[k], hmem, he⟩)
        rw [he] at hcl
        clear he htk hmem
        generalize l[k] = x at *
        go_wp2_with fail
        refine hcl.mono ?_
        rintro e w' ⟨rfl, rfl⟩
        go_wp2
        go_ret
        exact ⟨(k : Int), rfl, fun _ => by omega, (fun h => by rw [HA.out] at h; cases h), hq⟩
      | false =>
        have HA := Lib.hid (show ∀ x ∈ l.take (k + 1), ¬ (!decide (x = 0)) = true from fun x hx => by
          rw [htk, List.mem_append, List.mem_singleton] at hx
          rcases hx with hx | rfl
          · exact HN.out x hx
          · rw [he]; simp)
        rw [he] at hcl
        clear he htk hmem
        generalize l[k] = x at *
        go_wp2_with fail
        refine hcl.mono ?_
        rintro e w' ⟨rfl, rfl⟩
        go_wp2
        go_roundw
        case rel => exact ⟨k + 1, by omega, by go_num, HA, hq⟩
        case measure => simp [intOf]; omega
    · have HA := Lib.hid (show (l.any fun x => !decide (x = 0)) = false from List.any_eq_false.2 fun x hx => HN.out x (by rw [List.take_of_length_le (by omega)]; exact hx))
      go_wp2
      go_ret
      exact ⟨-1, rfl, (fun h => by rw [HA.out] at h; cases h), fun _ => by omega, hq⟩
theorem ekContains_any {S : Nat → Prop} {u : Value} {l : List Nat} {w : World} (hu : SlI S w .u32 u (natsI l)) :
    Calls Tryd.prog 85 #[u, .func (Fn.func 86) #[] #[]] w fun e w' => e = .returned (.bool (l.any fun x => !decide (x = 0))) ∧ Drawn w w' := by
  have hcl := ekIndex_any hu
  generalize (l.any fun x => !decide (x = 0)) = bb at *
  go_enter Tryd.func85, Tryd.ntmps85
  go_wp2_with fail
  refine hcl.mono ?_
  rintro e w1 ⟨r, rfl, hr1, hr2, hd⟩
  have hbb : decide ((0 : Int) ≤ r) = bb := by
    cases bb
    · have := hr2 rfl; exact decide_eq_false (by omega)
    · exact decide_eq_true (hr1 rfl)
  clear hr1 hr2
  go_wp2
  go_ret
  exact ⟨by first | rfl | (rw [hbb]) | (simp [hbb]), hd⟩
set_option maxRecDepth 100000 in
set_option maxHeartbeats 8000000 in
theorem implEarsOk_any {S S' : Nat → Prop} {gv ev : Value} {g ears : List (List Int)} {w : World} (hgv : SlR S w gv g) (hev : SlR S' w ev ears) :
    Calls Tryd.prog 30 #[.agg #[gv], ev] w fun e w' => e = .returned (.bool (earsOkB g ears)) ∧ Below w.heap.size w w' := by
  have hq0 : Below w.heap.size w (w.alloc (.cells #[gv] 27)) := (Below.refl _ _).alloc (Nat.le_refl _) _
  have hok := implGraphOk_any _ _ _ (hgv.below hq0 (Nat.le_refl _))
  obtain ⟨ga, gc, rfl⟩ := hgv.slice
  have hevl := hev.len
  by_cases hg0 : gokB g = true
  case neg =>
    have hg' : gokB g = false := by simpa using hg0
    have HE := Lib.hid (show earsOkB g ears = false by rw [earsOkB, hg']; rfl)
    obtain ⟨ea, ec, rfl⟩ := hev.slice
    rw [hg'] at hok
    rw [HE.out]
    clear hg0 hg'
    go_enter Tryd.func30, Tryd.ntmps30
    go_wp2_with (go_at_call 61; refine hok.mono ?_; rintro e w1 ⟨rfl, hb1⟩)
    go_ret
    exact ⟨rfl, hq0.trans (hb1.mono hq0.size)⟩
  have hg := gokB_iff.1 hg0
  have h16 := hg.hi
  have hlo := hg.lo
  rw [hg0] at hok
  by_cases hn0 : 0 < ears.length
  case neg =>
    obtain rfl : ears = [] := List.eq_nil_of_length_eq_zero (by omega)
    have HE := Lib.hid (show earsOkB g [] = false by rw [earsOkB]; simp)
    obtain ⟨ea, ec, rfl⟩ := hev.slice
    rw [HE.out]
    clear hg0 hn0
    go_enter Tryd.func30, Tryd.ntmps30
    go_wp2_with (go_at_call 61; refine hok.mono ?_; rintro e w1 ⟨rfl, hb1⟩)
    go_ret
    exact ⟨rfl, hq0.trans (hb1.mono hq0.size)⟩
  have HE := Lib.hid (show earsOkB g ears = match earsF g ears 0 [] with | none => false | some (m, U) => endB g m U by rw [earsOkB, hg0, decide_eq_true hn0]; rfl)
  have he0 : ((ears.length : Int) == 0) = false := by rw [beq_eq_false_iff_ne]; omega
  have he1 : (ears.length == 0) = false := by rw [beq_eq_false_iff_ne]; omega
  obtain ⟨ea, eb, eo, ecap, ef, rfl, hel, hea, hec0⟩ := hev
  obtain ⟨rfl, -⟩ := hea (by omega)
  clear hg0 hn0 hea
  go_enter Tryd.func30, Tryd.ntmps30
  go_wp2_with fail
  refine hok.mono ?_
  rintro e w1 ⟨rfl, hb1⟩
  have hq1 := hq0.trans (hb1.mono hq0.size)
  have c3 : w1.cell? ⟨w.heap.size, 0, none⟩ = some (.slice ga g.length gc) := (hb1.cell (p := ⟨w.heap.size, 0, none⟩) (by simp)).trans (by simp [go_sem])
  clear hok
  go_wp2_with fail
  refine (netsOf_any _ _ _ (hgv.below hq1 (Nat.le_refl _)) hg).mono ?_
  rintro e w2 ⟨lv, rfl, hl0, hb2⟩
  have hq2 := hq1.trans (hb2.mono hq1.size)
  have c4 := (hb2.cell (cell_lt c3)).trans c3
  have hl := hl0.weak hq1.size
  rw [← leftN_start] at hl
  have hlge := hl0.ge
  obtain ⟨lb, lc, rfl⟩ := own_some hl (by omega)
  have hsz1 : w.heap.size < w1.heap.size := cell_lt c3
  clear hl0 hb1 hb2 c3 hq0
  go_wp2
  go_loopw [6, 21] (fun s i wr => ∃ (k m : Nat) (U : List NP), k ≤ ears.length ∧ i = .int .i64 k ∧ s = .int .u32 (m : Int) ∧ Own wr w.heap.size 82 1 (.slice (some ⟨lb, 0, none⟩) g.length lc) g.length ((natsI (leftN g U)).map (.int .u32)) ∧ RowKit.Hid (EInv g m U) ∧
    RowKit.Hid (earsF g ears 0 [] = earsF g (ears.drop k) m U) ∧ RowKit.Hid ((m == 0) = decide (k = 0)) ∧ Below w.heap.size w wr ∧ wr.cell? ⟨w.heap.size, 0, none⟩ = some (.slice ga g.length gc)) (fun _ i _ => ears.length - (intOf i).toNat)
  case atStart => exact ⟨0, 0, [], Nat.zero_le _, rfl, rfl, hl, Lib.hid (EInv.start g), Lib.hid (by rw [List.drop_zero]), Lib.hid rfl, hq2, c4⟩
  case round =>
    clear hl hq2 c4 hq1
    obtain ⟨k, m, U, hk, rfl, rfl, hl, HI, HF, HZ, hq, cg⟩ := hrel
    obtain ⟨wi, rfl⟩ : ∃ wx : World, wx = wr := ⟨_, rfl⟩
    have hm2 := HI.out.mask
    have hm32 : m < 4294967296 := Nat.lt_of_lt_of_le hm2 (by have := pow_le16 h16; omega)
    by_cases hlt : k < ears.length
    case neg =>
      obtain rfl : k = ears.length := by omega
      have HR := Lib.hid (show earsOkB g ears = (decide (m = firstN g.length) && !((leftN g U).any fun x => !decide (x = 0))) by
        rw [HE.out, HF.out, List.drop_length, left_zero hg HI.out, Bool.not_not]; rfl)
      have hli := Own.ints (xs := natsI (leftN g U)) hl (by omega)
      have hcon := fun (W : World) (hd : Drawn wi W) => ekContains_any (hli.drawn hd)
      have hall := allOf_any (some ⟨lb, 0, none⟩) g.length lc
      have hfe : ((m : Int) == (firstN g.length : Int)) = decide (m = firstN g.length) := by rw [Bool.eq_iff_iff, beq_iff_eq, decide_eq_true_eq]; omega
      have hfe2 : (m == firstN g.length) = decide (m = firstN g.length) := by rw [Bool.eq_iff_iff, beq_iff_eq, decide_eq_true_eq]
      have hll : (natsI (leftN g U)).length = g.length := by rw [natsI_len, leftN_len]
      clear hli hll
      generalize (leftN g U).any (fun x => !decide (x = 0)) = bb at *
      generalize firstN g.length = fn at *
      cases hd : decide (m = fn) with
      | false =>
        have HR2 := Lib.hid (show earsOkB g ears = false by rw [HR.out, hd]; rfl)
        rw [hd] at hfe hfe2
        clear hd
        go_wp2_with (go_at_call 69; refine (hall _ (by omega)).mono ?_; rintro e w' ⟨rfl, rfl⟩)
        go_ret
        exact ⟨ret_bool HR2.out.symm, hq⟩
      | true =>
        have HR2 := Lib.hid (show earsOkB g ears = !bb by rw [HR.out, hd, Bool.true_and])
        rw [hd] at hfe hfe2
        clear hd
        go_wp2_with (first | (go_at_call 69; refine (hall _ (by omega)).mono ?_; rintro e w' ⟨rfl, rfl⟩) | (go_at_call 85; refine (hcon _ (Drawn.refl _)).mono ?_; rintro e w' ⟨rfl, hdw⟩))
        go_ret
        exact ⟨ret_bool HR2.out.symm, hq.trans (hdw.below _)⟩
    obtain ⟨hce0, hrow0⟩ := hec0 k hlt
    have hce := (hq.cell (p := ⟨eb, eo + k, none⟩) (cell_lt hce0)).trans hce0
    have hrow := hrow0.lowS.below hq (Nat.le_refl _)
    have hdr : ears.drop k = ears[k] :: ears.drop (k + 1) := List.drop_eq_getElem_cons hlt
    have HST := Lib.hid (show earsF g ears 0 [] = if earB g ears[k] m U (m == 0) = true then earsF g (ears.drop (k + 1)) (m ||| maskL ears[k]) (useU U (stepsN (natsOf ears[k]) (m == 0))) else none by rw [HF.out, hdr, earsF])
    have hk0 : ((k : Int) == 0) = (m == 0) := by rw [HZ.out, Bool.eq_iff_iff, beq_iff_eq, decide_eq_true_eq]; omega
    have hk1 : (k == 0) = (m == 0) := by rw [HZ.out, Bool.eq_iff_iff, beq_iff_eq, decide_eq_true_eq]
    have hk2 : decide (k = 0) = (m == 0) := HZ.out.symm
    have hbsz := hq.size
    have huse := fun (W : World) (hd : Below w.heap.size w W) (hl : Own W w.heap.size 82 1 (.slice (some ⟨lb, 0, none⟩) g.length lc) g.length ((natsI (leftN g U)).map (.int .u32))) => useEar_any (first := (m == 0)) (ear := ears[k]) (U := U) hg hm2 (hgv.below hd (Nat.le_refl _)) hl (hrow0.lowS.below hd (Nat.le_refl _)) (fun b hb => ⟨Nat.lt_of_lt_of_le hb hd.size, fun e => by have := (hl.lt b e).1; omega⟩)
    have hmsk := fun (W : World) (hd : Below w.heap.size w W) => maskOf_any _ _ W (hrow0.below hd (Nat.le_refl _))
    have HNX := Lib.hid (fun (h : earB g ears[k] m U (m == 0) = true) => HI.out.next hg h)
    have HEN := Lib.hid (show earB g ears[k] m U (m == 0) = true → (∀ x ∈ ears[k], 0 ≤ x ∧ x < 32) ∧ maskL ears[k] < 4294967296 from fun h => by
      simp only [earB, Bool.and_eq_true] at h
      obtain ⟨e1, -, hp⟩ := ear_nats h.1.2
      have hx : ∀ x ∈ ears[k], 0 ≤ x ∧ x < 32 := fun x hx => by
        rw [← e1] at hx
        obtain ⟨a, ha, rfl⟩ := List.mem_map.1 hx
        have := hp.1 a ha
        omega
      exact ⟨hx, maskL_lt32 hx⟩)
    clear hrow hdr HZ hrow0 HF hce0
    generalize (m == 0) = fb at *
    generalize ears[k] = ear at *
    generalize ef k = fe at *
    cases hb : earB g ear m U fb with
    | false =>
      have HR := Lib.hid (show earsOkB g ears = false by rw [HE.out, HST.out, hb]; rfl)
      rw [hb] at huse
      clear hb
      go_wp2_with fail
      refine (huse _ hq hl).mono ?_
      rintro e w5 ⟨rfl, a', ha1, ha2, -, hkp⟩
      go_wp2
      go_ret
      exact ⟨ret_bool HR.out.symm, hkp.below hq hq.size (fun b hb => by have := (hl.lt b hb).1; exact this)⟩
    | true =>
      obtain ⟨hx32, hM32⟩ := HEN.out hb
      obtain ⟨hI2, hm0, -⟩ := HNX.out hb
      have hst := HST.out
      rw [hb, if_pos rfl] at hst
      have HS2 := Lib.hid hst
      have HI2 := Lib.hid hI2
      have HM0 := Lib.hid hm0
      have hor := u32_or_nat m (maskL ear) hm32 hM32
      rw [hb] at huse
      clear hb hst hI2 hm0 HEN HNX HST
      generalize maskL ear = me at *
      go_wp2_with fail
      refine (huse _ hq hl).mono ?_
      rintro e w5 ⟨rfl, a', ha1, ha2, ha3, hkp⟩
      have ha4 := ha3 (by trivial)
      subst ha4
      have hq5 : Below w.heap.size w w5 := hkp.below hq hq.size (fun b hb => by have := (hl.lt b hb).1; exact this)
      have cg5 := (World.cell?_of_block (a := ⟨w.heap.size, 0, none⟩) (hkp.2.2.2.2 w.heap.size (cell_lt cg) (fun e => by have := hlge w.heap.size e.symm; omega))).trans cg
      clear ha3 huse
      go_wp2_with (go_at_call 75; refine (hmsk _ hq5 hx32).mono ?_; rintro e w' ⟨rfl, rfl⟩)
      go_roundw
      case rel => exact ⟨k + 1, m ||| me, _, by omega, by go_num, by first | rfl | trivial, ha2, HI2, HS2, Lib.hid (by rw [beq_eq_false_iff_ne.2 HM0.out]; exact (decide_eq_false (by omega)).symm), hq5, cg5⟩
      case measure => simp [intOf]; omega
end Go.Proofs.YtgkkgagnoeedaaaDoor
