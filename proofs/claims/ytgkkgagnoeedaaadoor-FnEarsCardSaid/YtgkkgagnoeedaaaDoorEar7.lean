/- EarsOk of the reference. -/
import Derived.Test.YtgkkgagnoeedaaaDoorEar6
namespace Go.Proofs.YtgkkgagnoeedaaaDoor
open Go.RowKit
theorem bits_firstN {n : Nat} (hn : n ≤ 16) : (bitsI (firstN n)).length = n := by
  have : bitsI (firstN n) = rangeI n := sorted_ext (bitsI_sorted _) (rangeI_sorted _) fun x => by rw [mem_bits_firstN hn, mem_rangeI]
  rw [this, rangeI_len]
theorem bits_full {m n : Nat} (hm : m < 2 ^ n) (hn : n ≤ 16) : (bitsI m).length = n ↔ m = firstN n := by
  have hf : firstN n < 4294967296 := Nat.lt_trans (firstN_lt hn) (by omega)
  constructor
  · intro h
    apply Classical.byContradiction
    intro hne
    have : ∃ i, i < n ∧ m.testBit i = false := by
      apply Classical.byContradiction
      intro hc
      refine hne (Nat.eq_of_testBit_eq fun i => ?_)
      rw [testBit_firstN]
      by_cases hi : i < n
      · cases hb : m.testBit i with
        | true => simp [hi]
        | false => exact absurd ⟨i, hi, hb⟩ hc
      · cases hb : m.testBit i with
        | true => exact absurd (bit_lt_of hm hb) hi
        | false => simp [hi]
    obtain ⟨i, hi, hb⟩ := this
    have h1 := popN_lt (a := m) (b := firstN n) (i := i) hf (fun j hj => by rw [testBit_firstN]; exact decide_eq_true (bit_lt_of hm hj)) (by rw [testBit_firstN]; exact decide_eq_true hi) hb
    have h2 := bits_firstN hn
    have h3 : popN m = (bitsI m).length := by simp [popN, bitsI]
    have h4 : popN (firstN n) = (bitsI (firstN n)).length := by simp [popN, bitsI]
    omega
  · intro h; rw [h]; exact bits_firstN hn
set_option maxRecDepth 100000 in
set_option maxHeartbeats 8000000 in
theorem specEarsOk_any {S S' : Nat → Prop} {gv ev : Value} {g ears : List (List Int)} {w : World} (hgv : SlR S w gv g) (hev : SlR S' w ev ears) :
    Calls Tryd.prog 29 #[.agg #[gv], ev] w fun e w' => e = .returned (.bool (earsOkB g ears)) ∧ Below w.heap.size w w' := by
  have hq0 : Below w.heap.size w (w.alloc (.cells #[gv] 27)) := (Below.refl _ _).alloc (Nat.le_refl _) _
  have hok := specGraphOk_any _ _ _ (hgv.below hq0 (Nat.le_refl _))
  have hevl := hev.len
  have hgb := fun (W : World) (hb : Below w.heap.size w W) => hgv.below hb (Nat.le_refl _)
  obtain ⟨ga, gc, rfl⟩ := hgv.slice
  by_cases hg0 : gokB g = true
  case neg =>
    have hg' : gokB g = false := by simpa using hg0
    have HE := Lib.hid (show earsOkB g ears = false by rw [earsOkB, hg']; rfl)
    obtain ⟨ea, ec, rfl⟩ := hev.slice
    rw [hg'] at hok
    rw [HE.out]
    clear hg0 hg'
    go_enter Tryd.func29, Tryd.ntmps29
    go_wp2_with (go_at_call 57; refine hok.mono ?_; rintro e w1 ⟨rfl, hb1⟩)
    go_ret
    exact ⟨rfl, hq0.trans (hb1.mono hq0.size)⟩
  have hg := gokB_iff.1 hg0
  have h16 := hg.hi
  have hlo := hg.lo
  rw [hg0] at hok
  by_cases hn0 : 0 < ears.length
  case neg =>
    obtain rfl : ears = [] := List.eq_nil_of_length_eq_zero (by omega)
    have HE := Lib.hid (show earsOkB g [] = false by rw [earsOkB]; simp)
    obtain ⟨ea, ec, rfl⟩ := hev.slice
    rw [HE.out]
    clear hg0 hn0
    go_enter Tryd.func29, Tryd.ntmps29
    go_wp2_with (go_at_call 57; refine hok.mono ?_; rintro e w1 ⟨rfl, hb1⟩)
    go_ret
    exact ⟨rfl, hq0.trans (hb1.mono hq0.size)⟩
  have he0 : ((ears.length : Int) == 0) = false := by rw [beq_eq_false_iff_ne]; omega
  have he1 : (ears.length == 0) = false := by rw [beq_eq_false_iff_ne]; omega
  have hends := fun (W : World) (hb : Below w.heap.size w W) => l19Ends_any hg (hgb W hb)
  have hel512 := endsN_le hg
  by_cases hmany : endsN g < ears.length
  case pos =>
    have HE := Lib.hid (ears_many hg hmany)
    have hx1 : decide ((endsN g : Int) < (ears.length : Int)) = true := decide_eq_true (by omega)
    have hx2 : decide (endsN g < ears.length) = true := decide_eq_true hmany
    obtain ⟨ea, ec, rfl⟩ := hev.slice
    rw [HE.out]
    clear hg0 hn0 hmany
    generalize endsN g = en at *
    go_enter Tryd.func29, Tryd.ntmps29
    go_wp2_with fail
    refine hok.mono ?_
    rintro e w1 ⟨rfl, hb1⟩
    have hq1 := hq0.trans (hb1.mono hq0.size)
    have c3 : w1.cell? ⟨w.heap.size, 0, none⟩ = some (.slice ga g.length gc) := (hb1.cell (p := ⟨w.heap.size, 0, none⟩) (by simp)).trans (by simp [go_sem])
    go_wp2_with fail
    refine (hends _ hq1).mono ?_
    rintro e w2 ⟨rfl, hb2⟩
    go_wp2
    go_ret
    exact ⟨rfl, hq1.trans (hb2.mono hq1.size)⟩
  have HE := Lib.hid (show earsOkB g ears = match earsF g ears 0 [] with | none => false | some (m, U) => endB g m U by rw [earsOkB, hg0, decide_eq_true hn0]; rfl)
  have hx1 : decide ((endsN g : Int) < (ears.length : Int)) = false := decide_eq_false (by omega)
  have hx2 : decide (endsN g < ears.length) = false := decide_eq_false hmany
  obtain ⟨ea, eb, eo, ecap, ef, rfl, hel, hea, hec0⟩ := hev
  obtain ⟨rfl, -⟩ := hea (by omega)
  have HEB := Lib.hid (show ∀ m U, endB g m U = (decide (m = firstN g.length) && decide (U.length = endsN g)) from fun _ _ => rfl)
  have HLE := Lib.hid (show ∀ (m : Nat) (U : List NP), EInv g m U → U.length ≤ endsN g from fun _ _ h => h.le hg)
  clear hg0 hn0 hea hmany
  generalize endsN g = en at *
  go_enter Tryd.func29, Tryd.ntmps29
  go_wp2_with fail
  refine hok.mono ?_
  rintro e w1 ⟨rfl, hb1⟩
  have hq1 := hq0.trans (hb1.mono hq0.size)
  have c3 : w1.cell? ⟨w.heap.size, 0, none⟩ = some (.slice ga g.length gc) := (hb1.cell (p := ⟨w.heap.size, 0, none⟩) (by simp)).trans (by simp [go_sem])
  go_wp2_with fail
  refine (hends _ hq1).mono ?_
  rintro e w2 ⟨rfl, hb2⟩
  have hq2 := hq1.trans (hb2.mono hq1.size)
  have c4 := (hb2.cell (cell_lt c3)).trans c3
  have hsz2 : w.heap.size + 1 ≤ w2.heap.size := cell_lt c4
  have hba : Below w2.heap.size w2 ((w2.alloc (.cells #[] 2)).alloc (.cells #[] 51)) := ((Below.refl _ _).alloc (Nat.le_refl _) _).alloc (by simp) _
  have hm0 : OwnB ((w2.alloc (.cells #[] 2)).alloc (.cells #[] 51)) (w.heap.size + 1) 2 (.slice (some ⟨w2.heap.size, 0, none⟩) 0 0) 0 := by
    have h := World.ownsRow_lit (base := w.heap.size + 1) (e := 2) (size := 1) w2 #[] 0 hsz2 (by unfold maxLen; omega) rfl
    have h2 : Own (w2.alloc (.cells #[] 2)) (w.heap.size + 1) 2 1 (.slice (some ⟨w2.heap.size, 0, none⟩) 0 0) 0 [] := by simpa [Own] using h
    have e0 : bitsI 0 = [] := by simp [bitsI, bitsN]
    unfold OwnB; rw [e0]; exact h2.alloc _
  have hu0 := OwnS.empty (w2.alloc (.cells #[] 2)) (w.heap.size + 1) 51 (by simp; omega)
  have hq3 := hq2.trans (hba.mono hq2.size)
  have c5 := (hba.cell (cell_lt c4)).trans c4
  rw [show (w2.alloc (.cells #[] 2)).heap.size = w2.heap.size + 1 by simp] at hu0
  clear hok hba hb1 hb2 c3 c4 hq1 hq2 hq0
  go_wp2
  go_loopw [5, 6, 7] (fun mv uv i wr => ∃ (k m : Nat) (U : List NP), k ≤ ears.length ∧ i = .int .i64 k ∧ OwnB wr (w.heap.size + 1) 2 mv m ∧ OwnS wr (w.heap.size + 1) 51 uv (rowsP U) ∧ RowKit.Hid (EInv g m U) ∧
    RowKit.Hid (earsF g ears 0 [] = earsF g (ears.drop k) m U) ∧ Below w.heap.size w wr ∧ wr.cell? ⟨w.heap.size, 0, none⟩ = some (.slice ga g.length gc)) (fun _ _ i _ => ears.length - (intOf i).toNat)
  case atStart => exact ⟨0, 0, [], Nat.zero_le _, rfl, hm0, by simpa [rowsP] using hu0, Lib.hid (EInv.start g), Lib.hid (by rw [List.drop_zero]), hq3, c5⟩
  case round =>
    clear hm0 hu0 hq3 c5
    obtain ⟨k, m, U, hk, rfl, hmv, huv, HI, HF, hq, cg⟩ := hrel
    obtain ⟨wi, rfl⟩ : ∃ wx : World, wx = wr := ⟨_, rfl⟩
    have hm2 := HI.out.mask
    have hm16 : m < 65536 := Nat.lt_of_lt_of_le hm2 (by have := pow_le16 h16; omega)
    have hUl := HLE.out _ _ HI.out
    have hBw := hq.size
    have hmvi := hmv.ints
    have huvi := huv.rows (by rw [rowsP_len]; omega)
    obtain ⟨ma, mc, rfl⟩ := hmv.isSlice
    obtain ⟨ua, uc, rfl⟩ := huv.isSlice
    simp only [rowsP_len] at huv huvi ⊢
    by_cases hlt : k < ears.length
    case neg =>
      obtain rfl : k = ears.length := by omega
      have HR := Lib.hid (show earsOkB g ears = (decide (m = firstN g.length) && decide (U.length = en)) by
        rw [HE.out, HF.out, List.drop_length]; exact HEB.out _ _)
      have hbl := bits_full hm2 h16
      have hf1 : (((bitsI m).length : Int) == (g.length : Int)) = decide (m = firstN g.length) := by rw [Bool.eq_iff_iff, beq_iff_eq, decide_eq_true_eq, ← hbl]; omega
      have hf2 : ((bitsI m).length == g.length) = decide (m = firstN g.length) := by rw [Bool.eq_iff_iff, beq_iff_eq, decide_eq_true_eq, ← hbl]
      have hf3 : ((U.length : Int) == (en : Int)) = decide (U.length = en) := by rw [Bool.eq_iff_iff, beq_iff_eq, decide_eq_true_eq]; omega
      have hf4 : (U.length == en) = decide (U.length = en) := by rw [Bool.eq_iff_iff, beq_iff_eq, decide_eq_true_eq]
      have hen := hends _ hq
      clear hbl hmvi huvi
      generalize decide (U.length = en) = d2 at *
      cases hd : decide (m = firstN g.length) with
      | false =>
        have HR2 := Lib.hid (show earsOkB g ears = false by rw [HR.out, hd]; rfl)
        rw [hd] at hf1 hf2
        clear hd
        go_wp2
        go_ret
        exact ⟨ret_bool HR2.out.symm, hq⟩
      | true =>
        have HR2 := Lib.hid (show earsOkB g ears = d2 by rw [HR.out, hd, Bool.true_and])
        rw [hd] at hf1 hf2
        clear hd
        go_wp2_with (go_at_call 65; refine hen.mono ?_; rintro e w2 ⟨rfl, hb2⟩)
        go_ret
        exact ⟨ret_bool HR2.out.symm, hq.trans (hb2.mono hq.size)⟩
    obtain ⟨hce0, hrow0⟩ := hec0 k hlt
    have hce := (hq.cell (p := ⟨eb, eo + k, none⟩) (cell_lt hce0)).trans hce0
    have hdr : ears.drop k = ears[k] :: ears.drop (k + 1) := List.drop_eq_getElem_cons hlt
    have HST := Lib.hid (show earsF g ears 0 [] = if earB g ears[k] m U (m == 0) = true then earsF g (ears.drop (k + 1)) (m ||| maskL ears[k]) (useU U (stepsN (natsOf ears[k]) (m == 0))) else none by rw [HF.out, hdr, earsF])
    have hear := fun (W : World) (hb : Below w.heap.size w W) (hd : Below wi.heap.size wi W) => l19Ear_any hg hm2 (hgb W hb) (hrow0.below hb (Nat.le_refl _)) (hmvi.below hd (Nat.le_refl _)) (huvi.below hd (Nat.le_refl _))
    have HNX := Lib.hid (fun (h : earB g ears[k] m U (m == 0) = true) => HI.out.next hg h)
    have HEN := Lib.hid (show earB g ears[k] m U (m == 0) = true → natsI (natsOf ears[k]) = ears[k] ∧ 1 ≤ (natsOf ears[k]).length ∧ (∀ a ∈ natsOf ears[k], a < 16) ∧ (natsOf ears[k]).length ≤ 32 from fun h => by
      simp only [earB, Bool.and_eq_true, decide_eq_true_eq] at h
      obtain ⟨e1, e2, hp⟩ := ear_nats h.1.2
      have hl : (natsOf ears[k]).length ≤ g.length := by
        have := (nodup_sub (E := List.range g.length) hp.2 (fun x hx => List.mem_range.2 (hp.1 x hx))).1
        rw [List.length_range] at this; exact this
      have h2 := h.1.1
      refine ⟨e1, by rw [e2]; split at h2 <;> omega, fun a ha => by have := hp.1 a ha; omega, by omega⟩)
    have hrowq := hrow0.lowS
    obtain ⟨fa, fc, hfe⟩ := hrow0.slice
    rw [hfe] at hce hrowq hrow0 hear
    clear hdr HF hce0 hmvi huvi hfe
    cases hb : earB g ears[k] m U (m == 0) with
    | false =>
      have HR := Lib.hid (show earsOkB g ears = false by rw [HE.out, HST.out, hb]; rfl)
      rw [hb] at hear
      clear hb
      generalize ears[k] = ear at *
      go_wp2
      refine wp_region_held_drew (S := (fun w' => w'.cell? ⟨w.heap.size, 0, none⟩ = some (.slice ga g.length gc) ∧ w'.cell? ⟨eb, eo + k, none⟩ = some (.slice fa ear.length fc))) (by kernel_rfl) ?_ (fun hHeld => ?_)
      · first | exact ⟨‹_›, ‹_›⟩ | assumption | (simp [*, go_sem])
      have hqd := hq.drew
      have hdd := (Below.refl wi.heap.size wi).drew
      generalize wi.drew = wd at hqd hdd hHeld ⊢
      have hHeld2 := hHeld
      obtain ⟨d0, d1⟩ := hHeld2
      refine wpAnyH_take (i := 0) (v := ?v1) (by simp only [List.getElem?_toArray, List.getElem?_cons_zero]; exact rfl) (by kernel_rfl) (by kernel_rfl) (by kernel_rfl) (by intro _ _ _ h; exact h) (Or.inl ⟨by rfl, ?y1⟩) hHeld ?_
      case y1 => (intro w hSw; (try dsimp only at hSw); go_simp; try (with_reducible rfl))
      try simp only [Act.put, List.setIfInBounds_toArray, List.set_cons_zero, List.set_cons_succ]
      refine wpAnyH_take (i := 1) (v := ?v2) (by simp only [List.getElem?_toArray, List.getElem?_cons_succ, List.getElem?_cons_zero]; exact rfl) (by kernel_rfl) (by kernel_rfl) (by kernel_rfl) (by intro _ _ _ h; exact h) (Or.inl ⟨by rfl, ?y2⟩) hHeld ?_
      case y2 => (intro w hSw; (try dsimp only at hSw); go_simp; try (with_reducible rfl))
      try simp only [Act.put, List.setIfInBounds_toArray, List.set_cons_zero, List.set_cons_succ]
      refine wpAnyH_take (i := 2) (v := ?v3) (by simp only [List.getElem?_toArray, List.getElem?_cons_succ, List.getElem?_cons_zero]; exact rfl) (by kernel_rfl) (by kernel_rfl) (by kernel_rfl) (by intro _ _ _ h; exact h) (Or.inl ⟨by rfl, ?y3⟩) hHeld ?_
      case y3 => (intro w hSw; (try dsimp only at hSw); go_simp; try (with_reducible rfl))
      try simp only [Act.put, List.setIfInBounds_toArray, List.set_cons_zero, List.set_cons_succ]
      refine wpAnyH_take (i := 3) (v := ?v4) (by simp only [List.getElem?_toArray, List.getElem?_cons_succ, List.getElem?_cons_zero]; exact rfl) (by kernel_rfl) (by kernel_rfl) (by kernel_rfl) (by intro _ _ _ h; exact h) (Or.inl ⟨by rfl, ?y4⟩) hHeld ?_
      case y4 => (intro w hSw; (try dsimp only at hSw); go_simp; try (with_reducible rfl))
      try simp only [Act.put, List.setIfInBounds_toArray, List.set_cons_zero, List.set_cons_succ]
      refine wpAnyH_take (i := 4) (v := ?v5) (by simp only [List.getElem?_toArray, List.getElem?_cons_succ, List.getElem?_cons_zero]; exact rfl) (by kernel_rfl) (by kernel_rfl) (by kernel_rfl) (by intro _ _ _ h; exact h) (Or.inl ⟨by rfl, ?y5⟩) hHeld ?_
      case y5 => (intro w hSw; (try dsimp only at hSw); go_simp; try (with_reducible rfl))
      try simp only [Act.put, List.setIfInBounds_toArray, List.set_cons_zero, List.set_cons_succ]
      refine wpAnyH_take (i := 5) (v := ?v6) (by simp only [List.getElem?_toArray, List.getElem?_cons_succ, List.getElem?_cons_zero]; exact rfl) (by kernel_rfl) (by kernel_rfl) (by kernel_rfl) (by intro _ _ _ h; exact h) (Or.inl ⟨by rfl, ?y6⟩) hHeld ?_
      case y6 => (intro w hSw; (try dsimp only at hSw); go_simp; try (with_reducible rfl))
      try simp only [Act.put, List.setIfInBounds_toArray, List.set_cons_zero, List.set_cons_succ]
      refine wpAnyH_take (i := 6) (v := ?v7) (by simp only [List.getElem?_toArray, List.getElem?_cons_succ, List.getElem?_cons_zero]; exact rfl) (by kernel_rfl) (by kernel_rfl) (by kernel_rfl) (by intro _ _ _ h; exact h) (Or.inl ⟨by rfl, ?y7⟩) hHeld ?_
      case y7 => (intro w hSw; (try dsimp only at hSw); go_simp; try (with_reducible rfl))
      try simp only [Act.put, List.setIfInBounds_toArray, List.set_cons_zero, List.set_cons_succ]
      refine wpAnyH_ready (rs := [7]) (by kernel_rfl) (by simp) ?_
      refine AllReadyH.cons (by simp only [List.getElem?_toArray, List.getElem?_cons_succ, List.getElem?_cons_zero]; exact rfl) (fun K hK => ?_) AllReadyH.nil
      go_simp
      (with_reducible refine (hear _ hqd hdd).mono ?_)
      rintro e wn ⟨rfl, hbn⟩
      have hqn := hqd.trans (hbn.mono hqd.size)
      have d0 := (hbn.cell (cell_lt d0)).trans d0
      have d1 := (hbn.cell (cell_lt d1)).trans d1
      try dsimp only
      refine hK.out _ _ ?h9 (fun hHeld => ?_)
      case h9 => first | exact ⟨‹_›, ‹_›⟩ | assumption | (simp [*, go_sem])
      clear hK K
      try simp only [Act.put, List.setIfInBounds_toArray, List.set_cons_zero, List.set_cons_succ]
      refine wpAnyH_take (i := 8) (v := ?v10) (by simp only [List.getElem?_toArray, List.getElem?_cons_succ, List.getElem?_cons_zero]; exact rfl) (by kernel_rfl) (by kernel_rfl) (by kernel_rfl) (by intro _ _ _ h; exact h) (Or.inl ⟨by rfl, ?y10⟩) hHeld ?_
      case y10 => (intro w hSw; (try dsimp only at hSw); go_simp; try (with_reducible rfl))
      try simp only [Act.put, List.setIfInBounds_toArray, List.set_cons_zero, List.set_cons_succ]
      refine wpAnyH_done (by kernel_rfl) ?_ _
      go_wp2
      go_ret
      exact ⟨ret_bool HR.out.symm, hqn⟩
    | true =>
      obtain ⟨e1, hp1, hp16, hp32⟩ := HEN.out hb
      obtain ⟨hI2, -, -⟩ := HNX.out hb
      have hst := HST.out
      rw [hb, if_pos rfl] at hst
      have HS2 := Lib.hid hst
      have HI2 := Lib.hid hI2
      rw [hb] at hear
      clear hb hst hI2 HEN HNX HST
      have huse := fun (W : World) (hb : Below w.heap.size w W) (hB : w.heap.size + 1 ≤ W.heap.size) (hmv : OwnB W (w.heap.size + 1) 2 (.slice ma (bitsI m).length mc) m) (huv : OwnS W (w.heap.size + 1) 51 (.slice ua U.length uc) (rowsP U)) => l19Use_any (p := natsOf ears[k]) (by rw [e1]; exact hrow0.below hb (Nat.le_refl _)) hp1 hp16 hp32 hm16 hmv huv (by omega) hB
      rw [e1] at huse
      clear e1 hp1 hp16 hp32
      generalize stepsN (natsOf ears[k]) (m == 0) = ST at *
      generalize ears[k] = ear at *
      go_wp2
      refine wp_region_held_drew (S := (fun w' => w'.cell? ⟨w.heap.size, 0, none⟩ = some (.slice ga g.length gc) ∧ w'.cell? ⟨eb, eo + k, none⟩ = some (.slice fa ear.length fc))) (by kernel_rfl) ?_ (fun hHeld => ?_)
      · first | exact ⟨‹_›, ‹_›⟩ | assumption | (simp [*, go_sem])
      have hqd := hq.drew
      have hdd := (Below.refl wi.heap.size wi).drew
      generalize wi.drew = wd at hqd hdd hHeld ⊢
      have hHeld2 := hHeld
      obtain ⟨d0, d1⟩ := hHeld2
      refine wpAnyH_take (i := 0) (v := ?v11) (by simp only [List.getElem?_toArray, List.getElem?_cons_zero]; exact rfl) (by kernel_rfl) (by kernel_rfl) (by kernel_rfl) (by intro _ _ _ h; exact h) (Or.inl ⟨by rfl, ?y11⟩) hHeld ?_
      case y11 => (intro w hSw; (try dsimp only at hSw); go_simp; try (with_reducible rfl))
      try simp only [Act.put, List.setIfInBounds_toArray, List.set_cons_zero, List.set_cons_succ]
      refine wpAnyH_take (i := 1) (v := ?v12) (by simp only [List.getElem?_toArray, List.getElem?_cons_succ, List.getElem?_cons_zero]; exact rfl) (by kernel_rfl) (by kernel_rfl) (by kernel_rfl) (by intro _ _ _ h; exact h) (Or.inl ⟨by rfl, ?y12⟩) hHeld ?_
      case y12 => (intro w hSw; (try dsimp only at hSw); go_simp; try (with_reducible rfl))
      try simp only [Act.put, List.setIfInBounds_toArray, List.set_cons_zero, List.set_cons_succ]
      refine wpAnyH_take (i := 2) (v := ?v13) (by simp only [List.getElem?_toArray, List.getElem?_cons_succ, List.getElem?_cons_zero]; exact rfl) (by kernel_rfl) (by kernel_rfl) (by kernel_rfl) (by intro _ _ _ h; exact h) (Or.inl ⟨by rfl, ?y13⟩) hHeld ?_
      case y13 => (intro w hSw; (try dsimp only at hSw); go_simp; try (with_reducible rfl))
      try simp only [Act.put, List.setIfInBounds_toArray, List.set_cons_zero, List.set_cons_succ]
      refine wpAnyH_take (i := 3) (v := ?v14) (by simp only [List.getElem?_toArray, List.getElem?_cons_succ, List.getElem?_cons_zero]; exact rfl) (by kernel_rfl) (by kernel_rfl) (by kernel_rfl) (by intro _ _ _ h; exact h) (Or.inl ⟨by rfl, ?y14⟩) hHeld ?_
      case y14 => (intro w hSw; (try dsimp only at hSw); go_simp; try (with_reducible rfl))
      try simp only [Act.put, List.setIfInBounds_toArray, List.set_cons_zero, List.set_cons_succ]
      refine wpAnyH_take (i := 4) (v := ?v15) (by simp only [List.getElem?_toArray, List.getElem?_cons_succ, List.getElem?_cons_zero]; exact rfl) (by kernel_rfl) (by kernel_rfl) (by kernel_rfl) (by intro _ _ _ h; exact h) (Or.inl ⟨by rfl, ?y15⟩) hHeld ?_
      case y15 => (intro w hSw; (try dsimp only at hSw); go_simp; try (with_reducible rfl))
      try simp only [Act.put, List.setIfInBounds_toArray, List.set_cons_zero, List.set_cons_succ]
      refine wpAnyH_take (i := 5) (v := ?v16) (by simp only [List.getElem?_toArray, List.getElem?_cons_succ, List.getElem?_cons_zero]; exact rfl) (by kernel_rfl) (by kernel_rfl) (by kernel_rfl) (by intro _ _ _ h; exact h) (Or.inl ⟨by rfl, ?y16⟩) hHeld ?_
      case y16 => (intro w hSw; (try dsimp only at hSw); go_simp; try (with_reducible rfl))
      try simp only [Act.put, List.setIfInBounds_toArray, List.set_cons_zero, List.set_cons_succ]
      refine wpAnyH_take (i := 6) (v := ?v17) (by simp only [List.getElem?_toArray, List.getElem?_cons_succ, List.getElem?_cons_zero]; exact rfl) (by kernel_rfl) (by kernel_rfl) (by kernel_rfl) (by intro _ _ _ h; exact h) (Or.inl ⟨by rfl, ?y17⟩) hHeld ?_
      case y17 => (intro w hSw; (try dsimp only at hSw); go_simp; try (with_reducible rfl))
      try simp only [Act.put, List.setIfInBounds_toArray, List.set_cons_zero, List.set_cons_succ]
      refine wpAnyH_ready (rs := [7]) (by kernel_rfl) (by simp) ?_
      refine AllReadyH.cons (by simp only [List.getElem?_toArray, List.getElem?_cons_succ, List.getElem?_cons_zero]; exact rfl) (fun K hK => ?_) AllReadyH.nil
      go_simp
      (with_reducible refine (hear _ hqd hdd).mono ?_)
      rintro e wn ⟨rfl, hbn⟩
      have hqn := hqd.trans (hbn.mono hqd.size)
      have d0 := (hbn.cell (cell_lt d0)).trans d0
      have d1 := (hbn.cell (cell_lt d1)).trans d1
      try dsimp only
      refine hK.out _ _ ?h19 (fun hHeld => ?_)
      case h19 => first | exact ⟨‹_›, ‹_›⟩ | assumption | (simp [*, go_sem])
      clear hK K
      try simp only [Act.put, List.setIfInBounds_toArray, List.set_cons_zero, List.set_cons_succ]
      refine wpAnyH_take (i := 8) (v := ?v20) (by simp only [List.getElem?_toArray, List.getElem?_cons_succ, List.getElem?_cons_zero]; exact rfl) (by kernel_rfl) (by kernel_rfl) (by kernel_rfl) (by intro _ _ _ h; exact h) (Or.inl ⟨by rfl, ?y20⟩) hHeld ?_
      case y20 => (intro w hSw; (try dsimp only at hSw); go_simp; try (with_reducible rfl))
      try simp only [Act.put, List.setIfInBounds_toArray, List.set_cons_zero, List.set_cons_succ]
      refine wpAnyH_done (by kernel_rfl) ?_ _
      have hdn := hdd.trans (hbn.mono hdd.size)
      have hmvn := hmv.below hdn (Nat.le_refl _)
      have huvn := huv.below hdn (Nat.le_refl _)
      clear hear hmv huv
      go_wp2_with fail
      refine (huse _ hqn (cell_lt d0) hmvn huvn).mono ?_
      rintro e w5 ⟨mv', uv', rfl, hmv', huv', hb5⟩
      have d5 := (hb5.cell (p := ⟨w.heap.size, 0, none⟩) (by simp)).trans d0
      go_wp2
      go_roundw
      case rel => exact ⟨k + 1, _, _, by omega, by go_num, hmv', huv', HI2, HS2, hqn.trans (hb5.mono (by omega)), d5⟩
      case measure => simp [intOf]; omega
end Go.Proofs.YtgkkgagnoeedaaaDoor
