/- The program's faces with the numbers of the sides. -/
import Derived.Test.YtdbanndcdbikmaaGreatDoorFac
import Derived.Test.YtdbanndcdbikmaaGreatDoorFacM
namespace Go.Proofs.YtdbanndcdbikmaaGreatDoor
open Go.RowKit Go.Maps
/-- The map holds just the sides of D, each with its number. -/
structure KMapV (M : DataW Unit) (D : List Dart) (nf : Dart → Nat) : Prop extends KMap M D where
  at_ : ∀ p q, p < 1024 → q < 1024 → (p, q) ∈ D → ∀ z, M.atKey (litD p q) z = .lit (.int .i64 (nf (p, q) : Int))
theorem KMapV.start : KMapV (.map []) [] (fun _ => 0) := ⟨KMap.start, fun p q _ _ h => by simp at h⟩
theorem KMapV.put {M : DataW Unit} {D : List Dart} {nf : Dart → Nat} (h : KMapV M D nf) {p q : Nat} (hp : p < 1024) (hq : q < 1024) (N : Nat) : KMapV (M.put (litD p q) (.lit (.int .i64 (N : Int)))) (D ++ [(p, q)]) (updN nf (p, q) N) :=
  ⟨h.toKMap.put hp hq _, fun p' q' hp' hq' hm z => by
    by_cases e : p' = p ∧ q' = q
    · obtain ⟨rfl, rfl⟩ := e
      rw [atKey_put_same h.is (keyIs hp hq), updN_at]
    · have hne : litD p' q' ≠ litD p q := fun h => e (litD_inj hp' hq' hp hq h)
      have hne2 : (p', q') ≠ (p, q) := fun h => e (by simpa using h)
      rw [atKey_put_other hne, updN_o N hne2]
      rcases List.mem_append.1 hm with hm | hm
      · exact h.at_ p' q' hp' hq' hm z
      · simp only [List.mem_singleton] at hm; exact absurd hm hne2⟩
/-- The numbers that the map gives. -/
structure NumM (t : List (List Nat)) (M : DataW Unit) (nf : Dart → Nat) : Prop where
  at_ : ∀ p q, IsD t (p, q) → ∀ z, M.atKey (litD p q) z = .lit (.int .i64 (nf (p, q) : Int))
  same : ∀ x y, IsD t x → IsD t y → (nf x = nf y ↔ Leads t x y)
theorem NumM.of {t : List (List Nat)} (h : RotN t) {F : List (List Nat)} {D : List Dart} (hF : facesTo t (dartsN t) = (F, D)) {M : DataW Unit} {nf : Dart → Nat} (hk : KMapV M D nf) (hn : NumOk t F.length D nf) : NumM t M nf :=
  have hall : ∀ x, IsD t x → x ∈ D := fun x hx => by have := facesTo_all h hx; rw [hF] at this; exact this
  ⟨fun p q hx z => hk.at_ p q (by have := (hx.lt h).1; have := h.le; simp only at *; omega) (by have := (hx.lt h).2; have := h.le; simp only at *; omega) (hall _ hx) z,
   fun x y hx hy => hn.same x (hall x hx) y (hall y hy)⟩
set_option maxRecDepth 100000 in
set_option maxHeartbeats 16000000 in
theorem facesV_any {S : Nat → Prop} {tv : Value} {t : List (List Nat)} {w : World} (ht : RotN t) (hv : SlR S w tv (t.map natsI)) :
    Calls Tryz.prog 29 #[tv] w fun e w' => ∃ u mb cnt M nf, e = .returned (.tuple #[u, .map (some mb)]) ∧ OwnR w' w.heap.size w'.heap.size 57 3 u ((facesN t).map natsI) ∧ w'.ownsMap Tryz.prog 100 (plainElem Tryz.prog 3) mb cnt M ∧ RowKit.Hid (NumM t M nf) ∧ w.heap.size ≤ mb ∧ Below w.heap.size w w' := by
  have hq0 : Below w.heap.size w ((w.alloc (.cells #[] 57)).alloc (.map #[] 0)) := ((Below.refl _ _).alloc (Nat.le_refl _) _).alloc (by simp) _
  have hmm := @run_makeMap Tryz.prog
  have hM0 : ((w.alloc (.cells #[] 57)).alloc (.map #[] 0)).ownsMap Tryz.prog 100 (plainElem Tryz.prog 3) (w.heap.size + 1) 0 (.map [] : DataW Unit) := by
    have := World.ownsMap_made (H := Unit) (w.alloc (.cells #[] 57)) Tryz.prog 100 (plainElem Tryz.prog 3)
    simpa using this
  have hR0 : OwnR ((w.alloc (.cells #[] 57)).alloc (.map #[] 0)) w.heap.size ((w.alloc (.cells #[] 57)).alloc (.map #[] 0)).heap.size 57 3 (.slice (some ⟨w.heap.size, 0, none⟩) 0 0) [] := by
    refine ⟨[], rfl, ?_, fun b hb => by simp [Value.ownBlock] at hb; simp; omega, ApartL.nil, fun i hi => by simp at hi⟩
    have := World.ownsRow_lit (base := w.heap.size) (e := 57) (size := 1) w #[] 0 (Nat.le_refl _) (by unfold maxLen; omega) rfl
    exact Own.alloc (by simpa [Own] using this) _
  have hvS := hv
  obtain ⟨ra, rb, roff, rcap, rf, rfl, hrl, hra, hrc⟩ := hv
  rw [List.length_map] at *
  have h16 := ht.le
  have HRC := Lib.hid hrc
  have HT := Lib.hid ht
  have HVS := Lib.hid (fun (W : World) (hb : Below w.heap.size w W) => hvS.below hb (Nat.le_refl _))
  clear hrc hvS
  go_enter Tryz.func29, Tryz.ntmps29
  go_wp2
  go_loopw [20, 4] (fun iv ov wr => ∃ (u : Nat) (F : List (List Nat)) (D : List Dart) (M : DataW Unit) (cnt : Nat) (nf : Dart → Nat), u ≤ t.length ∧ iv = .int .i64 u ∧ RowKit.Hid (facesTo t (dartsAt t u 0) = (F, D)) ∧ OwnR wr w.heap.size wr.heap.size 57 3 ov (F.map natsI) ∧ wr.ownsMap Tryz.prog 100 (plainElem Tryz.prog 3) (w.heap.size + 1) cnt M ∧ RowKit.Hid (KMapV M D nf ∧ NumOk t F.length D nf) ∧ cnt ≤ D.length ∧ Below w.heap.size w wr) (fun iv _ _ => t.length - (intOf iv).toNat)
  case atStart => exact ⟨0, [], [], _, 0, fun _ => 0, Nat.zero_le _, rfl, Lib.hid (by rw [dartsAt_zero]; rfl), hR0, hM0, Lib.hid ⟨KMapV.start, NumOk.start t⟩, by simp, hq0⟩
  case round =>
    clear hR0 hM0 hq0 hmm
    obtain ⟨u, F, D, M, cnt, nf, hu, rfl, HF, hR, hM, HK, hcnt, hq⟩ := hrel
    obtain ⟨wi, rfl⟩ : ∃ wx : World, wx = wr := ⟨_, rfl⟩
    by_cases hlt : u < t.length
    case neg =>
      obtain rfl : u = t.length := by omega
      have HNM := Lib.hid (show NumM t M nf from NumM.of HT.out (by rw [← dartsAt_all]; exact HF.out) HK.out.1 HK.out.2)
      have HE := Lib.hid (show F = facesN t by unfold facesN; rw [← dartsAt_all, HF.out])
      go_wp2
      go_ret2
      exact ⟨_, _, cnt, M, nf, rfl, by rw [← HE.out]; exact hR, hM, HNM, Nat.le_succ _, hq⟩
    have hul : u < (t.map natsI).length := by rw [List.length_map]; exact hlt
    obtain ⟨k1, r1⟩ := HRC.out u hul
    have e : (t.map natsI)[u] = natsI (t.getD u []) := by simp [hlt]
    rw [e] at r1
    have k1 := (hq.cell (cell_lt k1)).trans k1
    have r1 := r1.below hq (Nat.le_refl _)
    obtain ⟨rowa, rowc, hre⟩ := r1.slice
    rw [hre] at k1 r1
    have hx20 : (natsI (t.getD u [])).length ≤ 1048576 := by have := rot_row HT.out u; rw [natsI_len]; omega
    have hlti : (u : Int) < t.length := by omega
    obtain ⟨rfl, -⟩ := hra (by omega)
    have hbv : Below wi.heap.size wi (wi.alloc (.cells #[.slice rowa (natsI (t.getD u [])).length rowc] 57)) := (Below.refl _ _).alloc (Nat.le_refl _) _
    have hso := sortedOfI_any (w := wi.alloc (.cells #[.slice rowa (natsI (t.getD u [])).length rowc] 57)) (Bs := wi.heap.size) hx20 (r1.below hbv (Nat.le_refl _)) (by simp [go_sem])
    have hs0 : (wi.alloc (.cells #[.slice rowa (natsI (t.getD u [])).length rowc] 57)).heap.size = wi.heap.size + 1 := by simp
    rw [hs0, sorted_row HT.out, natsI_len, ← row_len HT.out] at hso
    rw [natsI_len, ← row_len HT.out] at k1 r1 hbv
    have HS0 := Lib.hid hs0
    clear hre e hs0 hx20 r1
    have hsl : (rowD t u).length ≤ 16 := by rw [row_len HT.out]; exact rot_row HT.out u
    have hmem := fun k (hk : k < (rowD t u).length) => (mem_rowD (u := u) HT.out).1 (List.getElem_mem hk)
    have HMEM := Lib.hid hmem
    have HROW := Lib.hid (fun k (hk : k < (rowD t u).length) => dartsAt_snoc t (u := u) (k := k) hk)
    have HEND := Lib.hid (dartsAt_row t (u := u) (k := (rowD t u).length) (Nat.le_refl _))
    generalize rowD t u = s at *
    clear hmem
    go_wp2_with (first | (go_at_call 66; refine (valuesI_any _ _ _ _).mono ?_; rintro e w' ⟨rfl, rfl⟩))
    refine hso.mono ?_
    rintro e w3 ⟨us, rfl, hus, hb3⟩
    clear hso
    have hb3 : Below wi.heap.size wi w3 := hbv.trans (hb3.mono (by omega))
    have hq3 := hq.trans (hb3.mono hq.size)
    have hR3 := (hR.below hb3 (Nat.le_refl _)).weaken (C1 := w3.heap.size) (Nat.le_refl _) hb3.size
    have hM3 := mapB hM hb3
    have hwis := hq.size
    have hus3 : Own w3 w.heap.size 3 1 us s.length ((natsI s).map (.int .i64)) := hus.weak (by omega)
    obtain ⟨usa, usc, rfl⟩ := hus.isSlice
    have HF3 := Lib.hid (show facesTo t (dartsAt t u 0) = (F, D) from HF.out)
    clear hus hbv hb3 hR hM hq k1 HS0
    go_wp2
    go_loopw [29, 4] (fun iv ov wr => ∃ (k : Nat) (F : List (List Nat)) (D : List Dart) (M : DataW Unit) (cnt : Nat) (nf : Dart → Nat), k ≤ s.length ∧ iv = .int .i64 k ∧ RowKit.Hid (facesTo t (dartsAt t u k) = (F, D)) ∧ OwnR wr w.heap.size wr.heap.size 57 3 ov (F.map natsI) ∧ wr.ownsMap Tryz.prog 100 (plainElem Tryz.prog 3) (w.heap.size + 1) cnt M ∧ RowKit.Hid (KMapV M D nf ∧ NumOk t F.length D nf) ∧ cnt ≤ D.length ∧ Own wr w.heap.size 3 1 (.slice usa s.length usc) s.length ((natsI s).map (.int .i64)) ∧ Below w.heap.size w wr) (fun iv _ _ => s.length - (intOf iv).toNat)
    case atStart => exact ⟨0, F, D, M, cnt, nf, Nat.zero_le _, rfl, HF3, hR3, hM3, HK, hcnt, hus3, hq3⟩
    case round =>
      clear hR3 hM3 hus3 hq3 HF3 hcnt HK HF M F D cnt nf
      obtain ⟨k, F, D, M, cnt, nf, hk, rfl, HF, hR, hM, HK, hcnt, hus, hq⟩ := hrel
      obtain ⟨wi, rfl⟩ : ∃ wx : World, wx = wr := ⟨_, rfl⟩
      by_cases hks : k < s.length
      case neg =>
        obtain rfl : k = s.length := by omega
        have HF2 := Lib.hid (show facesTo t (dartsAt t (u + 1) 0) = (F, D) by rw [← HEND.out]; exact HF.out)
        go_wp2
        go_roundw
        case rel => exact ⟨u + 1, F, D, M, cnt, nf, by omega, by go_num, HF2, hR, hM, HK, hcnt, hq⟩
        case measure => simp [intOf]; omega
      have hvm := HMEM.out k hks
      have HRK := Lib.hid (HROW.out k hks)
      obtain ⟨sb, so, sc, hse, hsc⟩ := (Own.ints (xs := natsI s) hus (by omega)).at_
      have hse := hse (by rw [natsI_len]; omega)
      rw [natsI_len] at hse
      simp only [Value.slice.injEq] at hse
      obtain ⟨rfl, -, rfl⟩ := hse
      have hck := hsc k (by rw [natsI_len]; exact hks)
      rw [natsI_get] at hck
      generalize s[k] = v at *
      have hxD : IsD t (u, v) := hvm
      have hvl : v < t.length := (hxD.lt HT.out).2
      have hkey := keyD (p := u) (q := v) (by omega) (by omega)
      have hhas := HK.out.1.has u v (by omega) (by omega)
      have hksi : (k : Int) < s.length := by omega
      clear hsc hvm
      by_cases hin : (u, v) ∈ D
      case pos =>
        rw [decide_eq_true hin] at hhas
        have HF2 := Lib.hid (show facesTo t (dartsAt t u (k + 1)) = (F, D) by rw [HRK.out, facesTo_snoc, HF.out, fstep, if_pos hin])
        go_wp2_with (at_lookup; refine wpList_lookup_own_ok_int _ rfl _ _ 52 rfl 100 3 .i64 keyArr Tryz.underlying52 Tryz.underlying3 (zeroIntF _) (w.heap.size + 1) cnt M rfl hM _ _ rfl hkey ?_; intro c hat hwc; rw [hhas]; clear hat)
        go_roundw
        case rel => exact ⟨k + 1, F, D, M, cnt, nf, by omega, by go_num, HF2, hR, hM, HK, hcnt, hus, hq⟩
        case measure => simp [intOf]; omega
      rw [decide_eq_false hin] at hhas
      have hFI : FInv t F D := by
        have := facesTo_inv HT.out (dartsAt_isD HT.out (u := u) (k := k))
        rw [HF.out] at this; exact this
      have hFl : F.length ≤ 256 + k := by
        have := facesAt_le HT.out (u := u) (k := k) hu
        rw [HF.out] at this; exact this
      have HFI := Lib.hid hFI
      have hb00 : Below wi.heap.size wi ((wi.alloc (.cells #[] 3)).alloc (.cells #[.int .i64 (u : Int), .int .i64 (v : Int)] 100)) := ((Below.refl _ _).alloc (Nat.le_refl _) _).alloc (by simp) _
      have hM00 := mapB hM hb00
      have hf00 : Own ((wi.alloc (.cells #[] 3)).alloc (.cells #[.int .i64 (u : Int), .int .i64 (v : Int)] 100)) wi.heap.size 3 1 (.slice (some ⟨wi.heap.size, 0, none⟩) 0 0) ([] : List Nat).length ((natsI []).map (.int .i64)) := by
        have := World.ownsRow_lit (base := wi.heap.size) (e := 3) (size := 1) wi #[] 0 (Nat.le_refl _) (by unfold maxLen; omega) rfl
        exact Own.alloc (by simpa [Own, natsI] using this) _
      have hx00 := own2_new (wi.alloc (.cells #[] 3)) wi.heap.size 100 (.int .i64 (u : Int)) (.int .i64 (v : Int)) (by simp)
      rw [show (wi.alloc (.cells #[] 3)).heap.size = wi.heap.size + 1 by simp] at hx00
      have hmbl := hM.lt
      clear hFI
      go_wp2_with (at_lookup; refine wpList_lookup_own_ok_int _ rfl _ _ 52 rfl 100 3 .i64 keyArr Tryz.underlying52 Tryz.underlying3 (zeroIntF _) (w.heap.size + 1) cnt M rfl hM _ _ rfl hkey ?_; intro c hat hwc; rw [hhas]; clear hat)
      go_loopw [12, 13] (fun fv xv wr => ∃ (D' : List Dart) (p q : Nat) (f : List Nat) (M' : DataW Unit) (cnt' xb : Nat) (nf' : Dart → Nat), xv = .pointer (some ⟨xb, 0, none⟩) ∧ RowKit.Hid (trW t D' (p, q) f = trW t D (u, v) []) ∧ RowKit.Hid (IsD t (p, q)) ∧ Own wr wi.heap.size 3 1 fv f.length ((natsI f).map (.int .i64)) ∧ Own wr wi.heap.size 100 2 (.slice (some ⟨xb, 0, none⟩) 1 1) 1 [.int .i64 (p : Int), .int .i64 (q : Int)] ∧ wr.ownsMap Tryz.prog 100 (plainElem Tryz.prog 3) (w.heap.size + 1) cnt' M' ∧ RowKit.Hid (KMapV M' D' nf' ∧ NumP t F.length D nf (u, v) D' (p, q) nf') ∧ cnt' ≤ D'.length ∧ RowKit.Hid ((∀ y ∈ D', IsD t y) ∧ D'.Nodup) ∧ D'.length = D.length + f.length ∧ KeptBut wi wr (some (w.heap.size + 1))) (fun fv _ _ => 257 - lenV fv)
      case atStart => exact ⟨D, u, v, [], M, cnt, _, nf, rfl, Lib.hid rfl, Lib.hid hxD, hf00, hx00, hM00, Lib.hid ⟨HK.out.1, NumP.start HK.out.2 (u, v)⟩, hcnt, Lib.hid ⟨HFI.out.all, HFI.out.nd⟩, by simp, keptBF hb00⟩
      case round =>
        clear hM00 hf00 hx00 hb00
        obtain ⟨D', p, q, f, M', cnt', xb, nf', rfl, HW, HX, hfv, hxo, hMj, HK', hcnt', HI, hDl, hkj⟩ := hrel
        obtain ⟨wj, rfl⟩ : ∃ wx : World, wx = wr := ⟨_, rfl⟩
        have hpq := HX.out.lt HT.out
        have h256 := len_le_sq HT.out HI.out.1 HI.out.2
        have hp16 : p < 16 := by have := hpq.1; simp only at this; omega
        have hq16 : q < t.length := hpq.2
        have hkeyj := keyD (p := p) (q := q) (by omega) (by omega)
        have hhasj := HK'.out.1.has p q (by omega) (by omega)
        obtain ⟨x0, x1, y0, y1, hxb, hxl⟩ := own2_cell hxo
        obtain ⟨fa, fc, rfl⟩ := hfv.isSlice
        clear hpq
        by_cases hinj : (p, q) ∈ D'
        case pos =>
          rw [decide_eq_true hinj] at hhasj
          have HF2 := Lib.hid (show facesTo t (dartsAt t u (k + 1)) = (F ++ [f], D') by
            rw [HRK.out, facesTo_snoc, HF.out, fstep, if_neg hin, ← HW.out, trW_in hinj])
          have HKD := Lib.hid (show KMapV M' D' nf' ∧ NumOk t (F ++ [f]).length D' nf' from ⟨HK'.out.1, by rw [List.length_append]; exact NumP.done HT.out HK.out.2 HK'.out.2 hin hxD hinj⟩)
          have hRj := hR.keptMap hM hkj
          have husj := hus.kept hkj (fun b hb e => own_ne_map hus hM (by rw [hb, e]))
          have hqj : Below w.heap.size w wj := hkj.below hq hq.size (fun b e => by simp at e; omega)
          have hwis := hq.size
          have hfge := fun b hb => (hfv.lt b hb).1
          obtain ⟨vs, hvl, hown, hbC, hap, hrows⟩ := hRj
          rw [List.length_map] at hvl hown
          have hjs := hkj.2.2.2.1
          obtain ⟨oa, oc, rfl⟩ := hown.isSlice
          clear hR hinj hxo y0 y1
          go_wp2_with (first | (at_lookup; refine wpList_lookup_own_ok_int _ rfl _ _ 52 rfl 100 3 .i64 keyArr Tryz.underlying52 Tryz.underlying3 (zeroIntF _) (w.heap.size + 1) cnt' M' rfl hMj _ _ rfl hkeyj ?_; intro c hat hwc; rw [hhasj]; clear hat) | (at_builtin; refine wpList_append1 elFaces rfl _ _ rfl hown rfl (by first | rfl | simp) rfl (by omega) (by omega) ?_; intro o5 w5 hown5 hkept hmv))
          have hR5 : OwnR w5 w.heap.size w5.heap.size 57 3 o5 (F.map natsI ++ [natsI f]) := ownR_snoc (by rw [List.length_map]; exact hvl) hjs hap hrows hbC (by rw [List.length_map]; exact hown5) (by rw [natsI_len]; exact hfv.weak hwis) hfge hkept (by
            rcases hmv with h | h
            · exact .inl h
            · exact .inr ⟨_, h, by simp⟩)
          have hM5 := mapK hMj hkept (own_ne_map hown hMj)
          have hus5 := husj.kept hkept (fun b hb e => own_type husj hown (by decide) b hb e)
          have hq5 := hkept.below hqj hqj.size (fun c h => (hown.lt c h).1)
          go_roundw
          case rel => exact ⟨k + 1, F ++ [f], D', M', cnt', nf', by omega, by go_num, HF2, by rw [List.map_append]; exact hR5, hM5, HKD, hcnt', hus5, hq5⟩
          case measure => simp [intOf]; omega
        rw [decide_eq_false hinj] at hhasj
        have HW2 := Lib.hid (show trW t (D' ++ [(p, q)]) (succD t (p, q)) (f ++ [p]) = trW t D (u, v) [] by rw [← trW_step HT.out HX.out hinj]; exact HW.out)
        have HX2 := Lib.hid (succ_isD HT.out HX.out)
        have HK2 := Lib.hid (show KMapV (M'.put (litD p q) (.lit (.int .i64 (F.length : Int)))) (D' ++ [(p, q)]) (updN nf' (p, q) F.length) ∧ NumP t F.length D nf (u, v) (D' ++ [(p, q)]) (q, nextIn (t.getD q []) p) (updN nf' (p, q) F.length) from ⟨HK'.out.1.put (by omega) (by omega) _, HK'.out.2.step hinj⟩)
        have HI2 := Lib.hid (show (∀ y ∈ D' ++ [(p, q)], IsD t y) ∧ (D' ++ [(p, q)]).Nodup from ⟨fun z hz => by
          rcases List.mem_append.1 hz with hz | hz
          · exact HI.out.1 z hz
          · simp only [List.mem_singleton] at hz; rw [hz]; exact HX.out, by
          rw [List.nodup_append]
          exact ⟨HI.out.2, by simp, fun a ha b hb => by simp only [List.mem_singleton] at hb; subst hb; exact fun e => hinj (e ▸ ha)⟩⟩)
        have hm1 : p ∈ t.getD q [] := (HT.out.sym p q HX.out).2
        have hD2 : (D' ++ [(p, q)]).length = D.length + (f.length + 1) := by rw [List.length_append]; simp only [List.length_singleton]; omega
        have h256b := len_le_sq HT.out HI2.out.1 HI2.out.2
        obtain ⟨oa, oc, rfl⟩ := hR.isSlice
        rw [List.length_map]
        have hcm : cnt' < maxLen := by unfold maxLen; omega
        clear hinj
        go_wp2_with (first | (at_lookup; refine wpList_lookup_own_ok_int _ rfl _ _ 52 rfl 100 3 .i64 keyArr Tryz.underlying52 Tryz.underlying3 (zeroIntF _) (w.heap.size + 1) cnt' M' rfl hMj _ _ rfl hkeyj ?_; intro c hat hwc; rw [hhasj]; clear hat) | (at_mapUpdate; refine wpList_mapUpdate_own _ rfl _ _ _ 52 rfl 100 3 keyArr Tryz.underlying52 _ (w.heap.size + 1) cnt' M' rfl hMj hcm _ _ _ rfl rfl hkeyj _ [] (plainElem_int Tryz.underlying3 (WalkArith.wf_i64 (by omega))) ?_; intro w3 hM3 hgrow3; have hk3 : KeptBut wj w3 (some (w.heap.size + 1)) := KeptBut.of_grown hgrow3; have hfv3 := hfv.kept hk3 (fun b hb e => own_ne_map hfv hMj (by rw [hb, e])); have hxo3 := hxo.kept hk3 (fun b hb e => own_ne_map hxo hMj (by rw [hb, e])); have hkj3 := keptT hkj hk3; obtain ⟨z0, z1, -, -, -, -⟩ := own2_cell hxo3; have hjs3 := hkj3.2.2.2.1; clear hgrow3 hk3 hfv hxo hkj hMj x0 x1 y0 y1) | (at_builtin; refine wpList_append1 elInt rfl _ _ rfl hfv3 rfl rfl rfl (by omega) hjs3 ?_; intro v' w5 hfv5 hkept hmv; have hxo5 := hxo3.kept hkept (fun b hb e => own_type hxo3 hfv3 (by decide) b hb e); have hM5 := mapK hM3 hkept (own_ne_map hfv3 hM3); have hkj5 := keptN hkj3 hkept (fun b e => (hfv3.lt b e).1); obtain ⟨v0, v1, -, -, -, -⟩ := own2_cell hxo5; have hjs5 := hkj5.2.2.2.1; clear hfv3 hxo3 hkj3 hM3 hkept z0 z1))
        have hba : Below w5.heap.size w5 (w5.alloc (.cells #[.int .i64 (p : Int), .int .i64 (q : Int)] 100)) := (Below.refl _ _).alloc (Nat.le_refl _) _
        have hxn := own2_new w5 wi.heap.size 100 (.int .i64 (p : Int)) (.int .i64 (q : Int)) hjs5
        have hfv6 := hfv5.below hba (Nat.le_refl _)
        have hM6 := mapB hM5 hba
        have hkj6 := keptN (r2 := none) hkj5 (keptBF hba) (fun b e => by cases e)
        have hnl : wi.heap.size ≤ w5.heap.size := hjs5
        generalize hW6 : (w5.alloc (.cells #[.int .i64 (p : Int), .int .i64 (q : Int)] 100)) = w6 at *
        clear hW6 hba hfv5 hM5 hkj5 hxo5 v0 v1 hmv
        generalize w5.heap.size = nb at *
        obtain ⟨n0, n1, -, -, -, -⟩ := own2_cell hxn
        have haf := fun (W : World) (hb : Below w.heap.size w W) => tAfter_any (HVS.out W hb) (rot_row HT.out) hm1 hq16
        have HW3 := Lib.hid (show trW t (D' ++ [(p, q)]) (q, nextIn (t.getD q []) p) (f ++ [p]) = trW t D (u, v) [] from HW2.out)
        have HX3 := Lib.hid (show IsD t (q, nextIn (t.getD q []) p) from HX2.out)
        generalize nextIn (t.getD q []) p = z at *
        clear HW2 HX2
        obtain ⟨fa5, fc5, rfl⟩ := hfv6.isSlice
        have hq6 : Below w.heap.size w w6 := hkj6.below hq hq.size (fun b e => by simp at e; omega)
        go_wp2
        refine wp_region_late (S := (fun w' => w'.cell? ⟨nb, 0, none⟩ = some (.int .i64 (p : Int)) ∧ w'.cell? ⟨nb, 1, none⟩ = some (.int .i64 (q : Int)))) (late := [9]) (by kernel_rfl) ?_ (fun hHeld => ?_)
        · first | exact ⟨‹_›, ‹_›⟩ | assumption | (simp [*, go_sem])
        have hqd := (Drawn.refl w6).drew
        generalize w6.drew = wd at hqd hHeld ⊢
        refine wpLate_take (i := 0) (v := ?v1) (by simp only [List.getElem?_toArray, List.getElem?_cons_zero]; exact rfl) (by kernel_rfl) (by kernel_rfl) (by kernel_rfl) (by intro _ _ _ h; exact h) (Or.inl ⟨by rfl, ?y1⟩) ?_
        case y1 => (intro w _; go_simp; try (with_reducible rfl))
        try simp only [Act.put, List.setIfInBounds_toArray, List.set_cons_zero, List.set_cons_succ]
        refine wpLate_load (i := 1) (v := ?v2) (by simp only [List.getElem?_toArray, List.getElem?_cons_succ, List.getElem?_cons_zero]; exact rfl) (by kernel_rfl) (by kernel_rfl) (by kernel_rfl) (by kernel_rfl) (by intro _ _ _ h; exact h) (Or.inl ⟨by rfl, ?y2⟩) hHeld ?_
        case y2 => (intro w hSw; (try dsimp only at hSw); go_simp; try (with_reducible rfl))
        try simp only [Act.put, List.setIfInBounds_toArray, List.set_cons_zero, List.set_cons_succ]
        refine wpLate_take (i := 2) (v := ?v3) (by simp only [List.getElem?_toArray, List.getElem?_cons_succ, List.getElem?_cons_zero]; exact rfl) (by kernel_rfl) (by kernel_rfl) (by kernel_rfl) (by intro _ _ _ h; exact h) (Or.inl ⟨by rfl, ?y3⟩) ?_
        case y3 => (intro w _; go_simp; try (with_reducible rfl))
        try simp only [Act.put, List.setIfInBounds_toArray, List.set_cons_zero, List.set_cons_succ]
        refine wpLate_take (i := 3) (v := ?v4) (by simp only [List.getElem?_toArray, List.getElem?_cons_succ, List.getElem?_cons_zero]; exact rfl) (by kernel_rfl) (by kernel_rfl) (by kernel_rfl) (by intro _ _ _ h; exact h) (Or.inl ⟨by rfl, ?y4⟩) ?_
        case y4 => (intro w _; go_simp; try (with_reducible rfl))
        try simp only [Act.put, List.setIfInBounds_toArray, List.set_cons_zero, List.set_cons_succ]
        refine wpLate_load (i := 4) (v := ?v5) (by simp only [List.getElem?_toArray, List.getElem?_cons_succ, List.getElem?_cons_zero]; exact rfl) (by kernel_rfl) (by kernel_rfl) (by kernel_rfl) (by kernel_rfl) (by intro _ _ _ h; exact h) (Or.inl ⟨by rfl, ?y5⟩) hHeld ?_
        case y5 => (intro w hSw; (try dsimp only at hSw); go_simp; try (with_reducible rfl))
        try simp only [Act.put, List.setIfInBounds_toArray, List.set_cons_zero, List.set_cons_succ]
        refine wpLate_take (i := 5) (v := ?v6) (by simp only [List.getElem?_toArray, List.getElem?_cons_succ, List.getElem?_cons_zero]; exact rfl) (by kernel_rfl) (by kernel_rfl) (by kernel_rfl) (by intro _ _ _ h; exact h) (Or.inl ⟨by rfl, ?y6⟩) ?_
        case y6 => (intro w _; go_simp; try (with_reducible rfl))
        try simp only [Act.put, List.setIfInBounds_toArray, List.set_cons_zero, List.set_cons_succ]
        refine wpLate_load (i := 6) (v := ?v7) (by simp only [List.getElem?_toArray, List.getElem?_cons_succ, List.getElem?_cons_zero]; exact rfl) (by kernel_rfl) (by kernel_rfl) (by kernel_rfl) (by kernel_rfl) (by intro _ _ _ h; exact h) (Or.inl ⟨by rfl, ?y7⟩) hHeld ?_
        case y7 => (intro w hSw; (try dsimp only at hSw); go_simp; try (with_reducible rfl))
        try simp only [Act.put, List.setIfInBounds_toArray, List.set_cons_zero, List.set_cons_succ]
        refine wpLate_one (i := 7) (by kernel_rfl) (by simp only [List.getElem?_toArray, List.getElem?_cons_succ, List.getElem?_cons_zero]; exact rfl) (by kernel_rfl) (fun K hK => ?_)
        go_simp
        refine (haf _ (hq6.trans ((hqd.below w6.heap.size).mono hq6.size))).mono ?_
        rintro e wn ⟨rfl, hdn⟩
        replace hqd := hqd.trans hdn
        have hHeld : (fun w' => w'.cell? ⟨nb, 0, none⟩ = some (.int .i64 (p : Int)) ∧ w'.cell? ⟨nb, 1, none⟩ = some (.int .i64 (q : Int))) wn := ⟨(hdn.cell _).trans hHeld.1, (hdn.cell _).trans hHeld.2⟩
        obtain ⟨wd, rfl⟩ : ∃ wx : World, wx = wn := ⟨_, rfl⟩
        try dsimp only
        refine hK.out _ _ ?h9 (fun hHeld => ?_)
        case h9 => first | exact ⟨‹_›, ‹_›⟩ | assumption | (simp [*, go_sem])
        clear hK K
        try simp only [Act.put, List.setIfInBounds_toArray, List.set_cons_zero, List.set_cons_succ]
        refine wpLate_take (i := 8) (v := ?v10) (by simp only [List.getElem?_toArray, List.getElem?_cons_succ, List.getElem?_cons_zero]; exact rfl) (by kernel_rfl) (by kernel_rfl) (by kernel_rfl) (by intro _ _ _ h; exact h) (Or.inl ⟨by rfl, ?y10⟩) ?_
        case y10 => (intro w _; go_simp; try (with_reducible rfl))
        try simp only [Act.put, List.setIfInBounds_toArray, List.set_cons_zero, List.set_cons_succ]
        refine wpLate_late (i := 9) (by kernel_rfl) (by simp only [List.getElem?_toArray, List.getElem?_cons_succ, List.getElem?_cons_zero]; exact rfl) (by kernel_rfl) (fun K hK => ?_)
        have hxd := hxn.drawn hqd
        obtain ⟨k0, k1, f0, f1, -, -⟩ := own2_cell hxd
        go_simp
        try dsimp only
        refine hK.out _ _ ?_
        clear hK K
        try simp only [Act.put, List.setIfInBounds_toArray, List.set_cons_zero, List.set_cons_succ]
        refine wpLate_done (by kernel_rfl) ?_ _
        have hxe := own2_set hxd (.int .i64 (q : Int)) (.int .i64 (z : Int))
        have hke : KeptBut wd ((wd.setCell ⟨nb, 0, none⟩ (.int .i64 (q : Int))).setCell ⟨nb, 1, none⟩ (.int .i64 (z : Int))) (some nb) := ⟨rfl, rfl, rfl, by simp, fun b _ hne => (Below.heap_setCell _ _ _ _ (by simp; intro e; exact hne (by rw [e]))).trans (Below.heap_setCell _ _ _ _ (by simp; intro e; exact hne (by rw [e])))⟩
        have hfe := (hfv6.drawn hqd).kept hke (fun b hb e => own_type (hfv6.drawn hqd) hxd (by decide) b hb (by rw [← e]; rfl))
        have hMe := mapK (mapB hM6 (hqd.below _)) hke (fun e => by have h1 : nb = w.heap.size + 1 := (by simpa using e); omega)
        have hkjd := keptN (r2 := none) hkj6 (keptBF (hqd.below _)) (fun b e => by cases e)
        have hkje := keptN hkjd hke (fun b e => by have h1 : nb = b := (by simpa using e); omega)
        go_wp2
        go_roundw
        case rel => exact ⟨D' ++ [(p, q)], q, z, f ++ [p], _, cnt' + 1, nb, _, rfl, HW3, HX3, by rw [List.length_append, natsI_append, List.map_append]; exact hfe, hxe, hMe, HK2, by rw [List.length_append]; simp; omega, HI2, by rw [List.length_append, List.length_append]; simp; omega, hkje⟩
        case measure => simp [lenV]; omega
end Go.Proofs.YtdbanndcdbikmaaGreatDoor
