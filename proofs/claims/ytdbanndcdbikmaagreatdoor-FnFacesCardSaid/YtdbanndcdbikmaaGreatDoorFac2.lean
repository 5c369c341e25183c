/- The reference's faces. -/
import Derived.Test.YtdbanndcdbikmaaGreatDoorDistM
import Derived.Test.YtdbanndcdbikmaaGreatDoorVals
import Derived.Test.YtdbanndcdbikmaaGreatDoorLoopL
import Derived.Test.YtdbanndcdbikmaaGreatDoorMark4
import Derived.Test.YtdbanndcdbikmaaGreatDoorFac
namespace Go.Proofs.YtdbanndcdbikmaaGreatDoor
open Go.RowKit
theorem facesN_small {t : List (List Nat)} (h : RotN t) : (facesN t).length ≤ 256 ∧ ∀ f ∈ facesN t, f.length ≤ 256 ∧ ∀ v ∈ f, v < t.length := by
  refine ⟨?_, fun f hf => ?_⟩
  · have := facesAt_le h (u := t.length) (k := 0) (Nat.le_refl _)
    rw [dartsAt_all] at this
    exact this
  · exact (facesTo_inv h (L := dartsN t) (fun x hx => (mem_dartsN h).1 hx)).small f hf
def seenV (n : Nat) (D : List Dart) : Nat → Value := fun i => .bool (decide ((i / n, i % n) ∈ D))
def seenL (n : Nat) (D : List Dart) : List Value := (List.range (n * n)).map (seenV n D)
theorem idx_split {n p q : Nat} (hq : q < n) : (p * n + q) / n = p ∧ (p * n + q) % n = q := by
  have hn : 0 < n := by omega
  constructor
  · rw [Nat.mul_comm, Nat.mul_add_div hn, Nat.div_eq_of_lt hq]; omega
  · rw [Nat.mul_comm, Nat.mul_add_mod, Nat.mod_eq_of_lt hq]
theorem idx_lt {n p q : Nat} (hp : p < n) (hq : q < n) : p * n + q < n * n := by
  have : (p + 1) * n ≤ n * n := Nat.mul_le_mul_right n hp
  rw [Nat.succ_mul] at this
  omega
theorem seenL_get {n p q : Nat} {D : List Dart} (hp : p < n) (hq : q < n) : (seenL n D)[p * n + q]? = some (.bool (decide ((p, q) ∈ D))) := by
  have h := idx_lt hp hq
  obtain ⟨h1, h2⟩ := idx_split (p := p) hq
  simp [seenL, seenV, h, h1, h2]
theorem seenL_set {n p q : Nat} {D : List Dart} (hp : p < n) (hq : q < n) : (seenL n D).set (p * n + q) (.bool true) = seenL n (D ++ [(p, q)]) := by
  apply List.ext_getElem (by simp [seenL])
  intro i h1 h2
  rw [List.getElem_set]
  have hi : i < n * n := by simpa [seenL] using h2
  simp only [seenL, seenV, List.getElem_map, List.getElem_range]
  by_cases e : p * n + q = i
  · subst e
    obtain ⟨h1, h2⟩ := idx_split (p := p) hq
    rw [if_pos rfl, h1, h2]
    simp
  · rw [if_neg e]
    have hne : (i / n, i % n) ≠ (p, q) := fun h => by
      simp only [Prod.mk.injEq] at h
      have := Nat.div_add_mod i n
      rw [h.1, h.2, Nat.mul_comm] at this
      exact e this
    congr 1
    rw [decide_eq_decide]
    simp only [List.mem_append, List.mem_singleton, hne, or_false]
theorem seenL_start (n : Nat) : List.replicate (n * n) (Value.bool false) = seenL n [] := by
  unfold seenL seenV
  apply List.ext_getElem (by simp)
  intro i h1 h2
  simp
theorem OwnR.keptOther {w w' : World} {B C B' sb n : Nat} {cap : Nat} {EO EI E : TypeId} {u : Value} {g : List (List Int)} {xs : List Value} (h : OwnR w B C EO EI u g) (hs : Own w B' E 1 (.slice (some ⟨sb, 0, none⟩) n cap) n xs) (h1 : EO ≠ E) (h2 : EI ≠ E) (hk : KeptBut w w' (some sb)) : OwnR w' B C EO EI u g := by
  obtain ⟨vs, a1, a2, a3, hap, a4⟩ := h
  exact ⟨vs, a1, a2.kept hk (fun b hb e => own_type a2 hs h1 b hb (by rw [← e]; rfl)), a3, hap, fun i hi hi2 => ⟨(a4 i hi hi2).1.kept hk (fun b hb e => own_type (a4 i hi hi2).1 hs h2 b hb (by rw [← e]; rfl)), (a4 i hi hi2).2⟩⟩
theorem elMarksF : Elem Tryz.prog 102 4 1 1 (.bool false) := ⟨Tryz.underlying102, by kernel_rfl, rfl, by omega, by omega⟩
set_option maxHeartbeats 2000000 in
theorem l22Behind_any {S : Nat → Prop} {v : Value} {l : List Nat} {u : Nat} {w : World} (hv : SlI S w .i64 v (natsI l)) (h16 : l.length ≤ 16) (hu : u ∈ l) :
    Calls Tryz.prog 68 #[v, .int .i64 (u : Int)] w fun e w' => e = .returned (.int .i64 (nextIn l u : Int)) ∧ w = w' := by
  have hi := List.idxOf_lt_length_of_mem hu
  have HN := Lib.hid (show nextIn l u = l.getD ((l.idxOf u + 1) % l.length) 0 from rfl)
  obtain ⟨la, lb, lo, lc, rfl, hll, hla, hlc⟩ := hv
  rw [natsI_len] at *
  have hc : ∀ k (hk : k < l.length), w.cell? ⟨lb, lo + k, none⟩ = some (.int .i64 (l[k] : Int)) := fun k hk => by
    have := hlc k (by rw [natsI_len]; exact hk)
    rw [natsI_get] at this; exact this
  obtain ⟨rfl, -⟩ := hla (by omega)
  have HC := Lib.hid hc
  clear hlc hc hla
  go_enter Tryz.func68, Tryz.ntmps68
  go_wp2
  go_loop [5] (fun i => ∃ k : Nat, k ≤ l.idxOf u ∧ i = .int .i64 k) (fun i => l.length - (intOf i).toNat)
  case atStart => exact ⟨0, Nat.zero_le _, rfl⟩
  case round =>
    obtain ⟨k, hk, rfl⟩ := hrel
    have hkl : k < l.length := by omega
    have hck := HC.out k hkl
    by_cases he : l[k] = u
    · have hkx : k = l.idxOf u := by
        have h1 : l.idxOf u ≤ k := by
          apply Nat.le_of_not_lt
          intro hlt
          have := List.not_of_lt_findIdx (xs := l) (p := (· == u)) (i := k) hlt
          simp [he] at this
        omega
      have hb : ((l[k] : Int) == (u : Int)) = true := by rw [beq_iff_eq, he]
      have hm : (k + 1) % l.length < l.length := Nat.mod_lt _ (by omega)
      have hcm := HC.out _ hm
      have hz : l[(k + 1) % l.length] = nextIn l u := by rw [HN.out, ← hkx]; simp [hm]
      rw [hz] at hcm
      have hmod : Int.tmod ((k : Int) + 1) (l.length : Int) = (((k + 1) % l.length : Nat) : Int) := by
        rw [show ((k : Int) + 1) = ((k + 1 : Nat) : Int) by omega]
        rfl
      have hl0 : l.length ≠ 0 := by omega
      generalize (k + 1) % l.length = m at *
      generalize hze : nextIn l u = z at *
      have HZ := Lib.hid hze
      clear hze
      generalize l[k] = y at *
      have hmi : (m : Int) < l.length := by omega
      clear hz hkx he hi hk
      go_wp2
      go_ret
      exact ⟨ret_int (by rw [HZ.out]), rfl⟩
    · have hb : ((l[k] : Int) == (u : Int)) = false := by rw [beq_eq_false_iff_ne]; omega
      have hb2 : (l[k] == u) = false := by rw [beq_eq_false_iff_ne]; exact he
      have hk2 : k + 1 ≤ l.idxOf u := by
        apply Nat.lt_of_le_of_ne hk
        intro e
        subst e
        exact he (List.getElem_idxOf hi)
      generalize l[k] = y at *
      clear he
      go_wp2
      go_round
      case rel => exact ⟨k + 1, hk2, by go_num⟩
      case measure => simp [intOf]; omega
set_option maxRecDepth 100000 in
set_option maxHeartbeats 16000000 in
theorem l22Faces_any {S : Nat → Prop} {tv : Value} {t : List (List Nat)} {w : World} (ht : RotN t) (h0 : 0 < t.length) (hv : SlR S w tv (t.map natsI)) :
    Calls Tryz.prog 31 #[tv] w fun e w' => ∃ u, e = .returned u ∧ OwnR w' w.heap.size w'.heap.size 36 2 u ((facesN t).map natsI) ∧ Below w.heap.size w w' := by
  obtain ⟨ra, rb, roff, rcap, rf, rfl, hrl, hra, hrc⟩ := hv
  rw [List.length_map] at *
  have h16 := ht.le
  have hnn : (t.length : Int) * (t.length : Int) = ((t.length * t.length : Nat) : Int) := (Int.natCast_mul _ _).symm
  have hN256 : t.length * t.length ≤ 256 := by have := Nat.mul_le_mul h16 h16; omega
  have hNl := fun p q (hp : p < t.length) (hq : q < t.length) => idx_lt (n := t.length) hp hq
  have hmk := run_make_row' (P := Tryz.prog) 102 4 (.bool false) 1 elMarksF.ht elMarksF.hi rfl .i64 .i64 (t.length * t.length) (by omega) (by omega)
  have HNL := Lib.hid hNl
  have hsn0 := Own.made w w.heap.size 4 (.bool false) (t.length * t.length) (Nat.le_refl _) (by omega)
  rw [seenL_start] at hsn0
  have hSGET := fun D p q (hp : p < t.length) (hq : q < t.length) => seenL_get (n := t.length) (D := D) hp hq
  have hSSET := fun D p q (hp : p < t.length) (hq : q < t.length) => seenL_set (n := t.length) (D := D) hp hq
  have HSGET := Lib.hid hSGET
  have HSSET := Lib.hid hSSET
  clear hNl hSGET hSSET
  generalize t.length * t.length = N at *
  have hq0 : Below w.heap.size w ((w.alloc (.cells (madeCells #[Value.bool false] N) 4)).alloc (.cells #[] 36)) := ((Below.refl _ _).alloc (Nat.le_refl _) _).alloc (by simp) _
  have hsn1 : Own ((w.alloc (.cells (madeCells #[Value.bool false] N) 4)).alloc (.cells #[] 36)) w.heap.size 4 1 (.slice (some ⟨w.heap.size, 0, none⟩) N N) N (seenL t.length []) := hsn0.alloc _
  have hR0 : OwnR ((w.alloc (.cells (madeCells #[Value.bool false] N) 4)).alloc (.cells #[] 36)) w.heap.size ((w.alloc (.cells (madeCells #[Value.bool false] N) 4)).alloc (.cells #[] 36)).heap.size 36 2 (.slice (some ⟨w.heap.size + 1, 0, none⟩) 0 0) [] := by
    refine ⟨[], rfl, ?_, fun b hb => by simp [Value.ownBlock] at hb; simp; omega, ApartL.nil, fun i hi => by simp at hi⟩
    have := World.ownsRow_lit (base := w.heap.size) (e := 36) (size := 1) (w.alloc (.cells (madeCells #[Value.bool false] N) 4)) #[] 0 (by simp) (by unfold maxLen; omega) rfl
    simpa [Own] using this
  have HRC := Lib.hid hrc
  have HT := Lib.hid ht
  clear hrc hsn0
  go_enter Tryz.func31, Tryz.ntmps31
  go_wp2
  clear hmk
  go_loopw [6, 5] (fun iv ov wr => ∃ (u : Nat) (F : List (List Nat)) (D : List Dart), u ≤ t.length ∧ iv = .int .i64 u ∧ RowKit.Hid (facesTo t (dartsTo t u 0) = (F, D)) ∧ OwnR wr w.heap.size wr.heap.size 36 2 ov (F.map natsI) ∧ Own wr w.heap.size 4 1 (.slice (some ⟨w.heap.size, 0, none⟩) N N) N (seenL t.length D) ∧ Below w.heap.size w wr) (fun iv _ _ => t.length - (intOf iv).toNat)
  case atStart => exact ⟨0, [], [], Nat.zero_le _, rfl, Lib.hid (by rw [dartsTo_zero]; rfl), hR0, hsn1, hq0⟩
  case round =>
    clear hR0 hsn1 hq0
    obtain ⟨u, F, D, hu, rfl, HF, hR, hsn, hq⟩ := hrel
    obtain ⟨wi, rfl⟩ : ∃ wx : World, wx = wr := ⟨_, rfl⟩
    by_cases hlt : u < t.length
    case neg =>
      obtain rfl : u = t.length := by omega
      have HE := Lib.hid (show F = facesN t by unfold facesN; rw [← dartsTo_all, HF.out])
      go_wp2
      go_ret
      exact ⟨_, rfl, by rw [← HE.out]; exact hR, hq⟩
    have hul : u < (t.map natsI).length := by rw [List.length_map]; exact hlt
    obtain ⟨k1, r1⟩ := HRC.out u hul
    have e : (t.map natsI)[u] = natsI (t.getD u []) := by simp [hlt]
    rw [e] at r1
    obtain ⟨row, hrowe⟩ : ∃ row, row = t.getD u [] := ⟨_, rfl⟩
    rw [← hrowe] at r1
    obtain ⟨rowa, rowc, hre⟩ := r1.slice
    rw [hre] at k1 r1
    have HROWE := Lib.hid hrowe
    have hlti : (u : Int) < t.length := by omega
    obtain ⟨rfl, -⟩ := hra (by omega)
    have hmul : (u : Int) * (t.length : Int) = ((u * t.length : Nat) : Int) := (Int.natCast_mul _ _).symm
    have HMV := Lib.hid (fun v : Nat => show (((v : Int) ∈ natsI row) ↔ v ∈ t.getD u []) by
      rw [HROWE.out]
      unfold natsI
      rw [List.mem_map]
      exact ⟨fun ⟨x, hx, e⟩ => by have : x = v := by omega
                                  rw [← this]; exact hx, fun h => ⟨v, h, rfl⟩⟩)
    have hul2 : u * t.length ≤ 256 := by have := Nat.mul_le_mul (Nat.le_of_lt hlt) (Nat.le_refl t.length); have := Nat.mul_le_mul h16 h16; omega
    have HUM := Lib.hid (show u * t.length = u * t.length from rfl)
    obtain ⟨um, hum⟩ : ∃ um, um = u * t.length := ⟨_, rfl⟩
    rw [← hum] at hmul hul2
    have HUM2 := Lib.hid hum
    clear e hre hum HUM hrowe hul
    go_wp2
    go_loopw [7, 5] (fun iv ov wr => ∃ (v : Nat) (F : List (List Nat)) (D : List Dart), v ≤ t.length ∧ iv = .int .i64 v ∧ RowKit.Hid (facesTo t (dartsTo t u v) = (F, D)) ∧ OwnR wr w.heap.size wr.heap.size 36 2 ov (F.map natsI) ∧ Own wr w.heap.size 4 1 (.slice (some ⟨w.heap.size, 0, none⟩) N N) N (seenL t.length D) ∧ Below w.heap.size w wr) (fun iv _ _ => t.length - (intOf iv).toNat)
    case atStart => exact ⟨0, F, D, Nat.zero_le _, rfl, HF, hR, hsn, hq⟩
    case round =>
      clear hR hsn hq HF F D
      obtain ⟨v, F, D, hvl, rfl, HF, hR, hsn, hq⟩ := hrel
      obtain ⟨wi, rfl⟩ : ∃ wx : World, wx = wr := ⟨_, rfl⟩
      by_cases hvt : v < t.length
      case neg =>
        obtain rfl : v = t.length := by omega
        have HF2 := Lib.hid (show facesTo t (dartsTo t (u + 1) 0) = (F, D) by rw [dartsTo_row]; exact HF.out)
        go_wp2
        go_roundw
        case rel => exact ⟨u + 1, F, D, by omega, by go_num, HF2, hR, hsn, hq⟩
        case measure => simp [intOf]; omega
      have k1 := (hq.cell (cell_lt k1)).trans k1
      have r1 := r1.below hq (Nat.le_refl _)
      have hha := l1Has_any _ _ (v : Int) _ r1
      have hNu := HNL.out u v hlt hvt
      rw [← HUM2.out] at hNu
      have hsc : wi.cell? ⟨w.heap.size, um + v, none⟩ = some (.bool (decide ((u, v) ∈ D))) := by
        have := World.ownsRow.cellAt hsn (um + v) (by omega)
        rw [this, HUM2.out]
        exact HSGET.out D u v hlt hvt
      by_cases hm : v ∈ t.getD u []
      case neg =>
        rw [decide_eq_false (fun h => hm ((HMV.out v).1 h))] at hha
        have HF2 := Lib.hid (show facesTo t (dartsTo t u (v + 1)) = (F, D) by rw [dartsTo_no hm]; exact HF.out)
        clear hm
        go_wp2_with (go_at_call 41; refine hha.mono ?_; rintro e w' ⟨rfl, rfl⟩)
        go_roundw
        case rel => exact ⟨v + 1, F, D, by omega, by go_num, HF2, hR, hsn, hq⟩
        case measure => simp [intOf]; omega
      rw [decide_eq_true ((HMV.out v).2 hm)] at hha
      have HYES := Lib.hid (dartsTo_yes hm)
      have hxD : IsD t (u, v) := hm
      clear hm
      by_cases hin : (u, v) ∈ D
      case pos =>
        rw [decide_eq_true hin] at hsc
        have HF2 := Lib.hid (show facesTo t (dartsTo t u (v + 1)) = (F, D) by rw [HYES.out, facesTo_snoc, HF.out, fstep, if_pos hin])
        go_wp2_with (go_at_call 41; refine hha.mono ?_; rintro e w' ⟨rfl, rfl⟩)
        go_roundw
        case rel => exact ⟨v + 1, F, D, by omega, by go_num, HF2, hR, hsn, hq⟩
        case measure => simp [intOf]; omega
      rw [decide_eq_false hin] at hsc
      have hFI : FInv t F D := by
        have := facesTo_inv HT.out (dartsTo_isD HT.out (u := u) (v := v))
        rw [HF.out] at this; exact this
      have hFl : F.length ≤ 256 + v := by
        have := facesTo_le HT.out (u := u) (v := v) hu
        rw [HF.out] at this; exact this
      have HFI := Lib.hid hFI
      have hb00 : Below wi.heap.size wi (wi.alloc (.cells #[] 2)) := (Below.refl _ _).alloc (Nat.le_refl _) _
      have hsn00 := hsn.below hb00 (Nat.le_refl _)
      have hf00 : Own (wi.alloc (.cells #[] 2)) wi.heap.size 2 1 (.slice (some ⟨wi.heap.size, 0, none⟩) 0 0) ([] : List Nat).length ((natsI []).map (.int .i64)) := by
        have := World.ownsRow_lit (base := wi.heap.size) (e := 2) (size := 1) wi #[] 0 (Nat.le_refl _) (by unfold maxLen; omega) rfl
        simpa [Own, natsI] using this
      have hsbl : w.heap.size < wi.heap.size := (hsn.lt _ rfl).2
      clear hFI
      go_wp2_with (go_at_call 41; refine hha.mono ?_; rintro e w' ⟨rfl, rfl⟩)
      go_loopw [8, 9, 10] (fun fv pv qv wr => ∃ (D' : List Dart) (p q : Nat) (f : List Nat), pv = .int .i64 p ∧ qv = .int .i64 q ∧ RowKit.Hid (trW t D' (p, q) f = trW t D (u, v) []) ∧ RowKit.Hid (IsD t (p, q)) ∧ Own wr wi.heap.size 2 1 fv f.length ((natsI f).map (.int .i64)) ∧ Own wr w.heap.size 4 1 (.slice (some ⟨w.heap.size, 0, none⟩) N N) N (seenL t.length D') ∧ RowKit.Hid ((∀ y ∈ D', IsD t y) ∧ D'.Nodup) ∧ D'.length = D.length + f.length ∧ KeptBut wi wr (some w.heap.size)) (fun fv _ _ _ => 257 - lenV fv)
      case atStart => exact ⟨D, u, v, [], rfl, rfl, Lib.hid rfl, Lib.hid hxD, hf00, hsn00, Lib.hid ⟨HFI.out.all, HFI.out.nd⟩, by simp, keptBF hb00⟩
      case round =>
        clear hf00 hsn00 hb00 hsc
        obtain ⟨D', p, q, f, rfl, rfl, HW, HX, hfv, hsj, HI, hDl, hkj⟩ := hrel
        obtain ⟨wj, rfl⟩ : ∃ wx : World, wx = wr := ⟨_, rfl⟩
        have hpq := HX.out.lt HT.out
        have h256 := len_le_sq HT.out HI.out.1 HI.out.2
        have hp16 : p < t.length := hpq.1
        have hq16 : q < t.length := hpq.2
        have hmp : (p : Int) * (t.length : Int) = ((p * t.length : Nat) : Int) := (Int.natCast_mul _ _).symm
        have hNp := HNL.out p q hp16 hq16
        obtain ⟨pm, hpm⟩ : ∃ pm, pm = p * t.length := ⟨_, rfl⟩
        have hsc : wj.cell? ⟨w.heap.size, pm + q, none⟩ = some (.bool (decide ((p, q) ∈ D'))) := by
          have := World.ownsRow.cellAt hsj (pm + q) (by rw [hpm]; omega)
          rw [this, hpm]
          exact HSGET.out D' p q hp16 hq16
        have hsf := World.ownsRow.frozenAt hsj (pm + q)
        have hst := (World.ownsRow.stored hsj (pm + q) (.bool true)).1
        rw [hpm, HSSET.out D' p q hp16 hq16, ← hpm] at hst
        have hst : Own (wj.setCell ⟨w.heap.size, pm + q, none⟩ (.bool true)) w.heap.size 4 1 (.slice (some ⟨w.heap.size, 0, none⟩) N N) N (seenL t.length (D' ++ [(p, q)])) := hst
        rw [← hpm] at hmp hNp
        obtain ⟨fa, fc, rfl⟩ := hfv.isSlice
        have hpmi : (pm : Int) + (q : Int) < N := by omega
        clear hpq hpm
        by_cases hinj : (p, q) ∈ D'
        case pos =>
          rw [decide_eq_true hinj] at hsc
          have HF2 := Lib.hid (show facesTo t (dartsTo t u (v + 1)) = (F ++ [f], D') by
            rw [HYES.out, facesTo_snoc, HF.out, fstep, if_neg hin, ← HW.out, trW_in hinj])
          have hRj := hR.keptOther hsn (by decide) (by decide) hkj
          have hqj : Below w.heap.size w wj := hkj.below hq hq.size (fun b e => by simp at e; omega)
          have hwis := hq.size
          have hfge := fun b hb => (hfv.lt b hb).1
          obtain ⟨vs, hvsl, hown, hbC, hap, hrows⟩ := hRj
          rw [List.length_map] at hvsl hown
          have hjs := hkj.2.2.2.1
          obtain ⟨oa, oc, rfl⟩ := hown.isSlice
          clear hR hinj hst hsf
          go_wp2_with (at_builtin; refine wpList_append1 elRows rfl _ _ rfl hown rfl (by first | rfl | simp) rfl (by omega) (by omega) ?_; intro o5 w5 hown5 hkept hmv)
          have hR5 : OwnR w5 w.heap.size w5.heap.size 36 2 o5 (F.map natsI ++ [natsI f]) := ownR_snoc (by rw [List.length_map]; exact hvsl) hjs hap hrows hbC (by rw [List.length_map]; exact hown5) (by rw [natsI_len]; exact hfv.weak hwis) hfge hkept (by
            rcases hmv with h | h
            · exact .inl h
            · exact .inr ⟨_, h, by simp⟩)
          have hs5 := hsj.kept hkept (fun b hb e => own_type hsj hown (by decide) b hb e)
          have hq5 := hkept.below hqj hqj.size (fun c h => (hown.lt c h).1)
          go_roundw
          case rel => exact ⟨v + 1, F ++ [f], D', by omega, by go_num, HF2, by rw [List.map_append]; exact hR5, hs5, hq5⟩
          case measure => simp [intOf]; omega
        rw [decide_eq_false hinj] at hsc
        have HW2 := Lib.hid (show trW t (D' ++ [(p, q)]) (succD t (p, q)) (f ++ [p]) = trW t D (u, v) [] by rw [← trW_step HT.out HX.out hinj]; exact HW.out)
        have HX2 := Lib.hid (succ_isD HT.out HX.out)
        have HI2 := Lib.hid (show (∀ y ∈ D' ++ [(p, q)], IsD t y) ∧ (D' ++ [(p, q)]).Nodup from ⟨fun z hz => by
          rcases List.mem_append.1 hz with hz | hz
          · exact HI.out.1 z hz
          · simp only [List.mem_singleton] at hz; rw [hz]; exact HX.out, by
          rw [List.nodup_append]
          exact ⟨HI.out.2, by simp, fun a ha b hb => by simp only [List.mem_singleton] at hb; subst hb; exact fun e => hinj (e ▸ ha)⟩⟩)
        have hm1 : p ∈ t.getD q [] := (HT.out.sym p q HX.out).2
        have hD2 : (D' ++ [(p, q)]).length = D.length + (f.length + 1) := by rw [List.length_append]; simp only [List.length_singleton]; omega
        have h256b := len_le_sq HT.out HI2.out.1 HI2.out.2
        have hks : KeptBut wj (wj.setCell ⟨w.heap.size, pm + q, none⟩ (.bool true)) (some w.heap.size) := ⟨rfl, rfl, rfl, by simp, fun b _ hne => Below.heap_setCell _ _ _ _ (by simp; intro e; exact hne (by rw [e]))⟩
        have hfs := hfv.kept hks (fun b hb e => by have := (hfv.lt b hb).1; have h1 : w.heap.size = b := (by simpa using e); omega)
        have hkjs := keptT hkj hks
        have hjs := hkjs.2.2.2.1
        have hqs : Below w.heap.size w (wj.setCell ⟨w.heap.size, pm + q, none⟩ (.bool true)) := hkjs.below hq hq.size (fun b e => by simp at e; omega)
        have hqlm : q < (t.map natsI).length := by rw [List.length_map]; exact hq16
        obtain ⟨q1, rq⟩ := HRC.out q hqlm
        have eq : (t.map natsI)[q] = natsI (t.getD q []) := by simp [hq16]
        rw [eq] at rq
        have hrq16 := rot_row HT.out q
        have HBH := Lib.hid (fun (W : World) (hb : Below w.heap.size w W) => l22Behind_any (rq.below hb (Nat.le_refl _)) hrq16 hm1)
        have HW3 := Lib.hid (show trW t (D' ++ [(p, q)]) (q, nextIn (t.getD q []) p) (f ++ [p]) = trW t D (u, v) [] from HW2.out)
        have HX3 := Lib.hid (show IsD t (q, nextIn (t.getD q []) p) from HX2.out)
        generalize nextIn (t.getD q []) p = z at *
        generalize rf q = rqv at *
        have HQ1 := Lib.hid q1
        clear hinj HW2 HX2 eq rq q1
        have hqil : (q : Int) < t.length := by omega
        have hrb : rb < w.heap.size := cell_lt HQ1.out
        go_wp2_with (first | (at_builtin; refine wpList_append1b elI64 rfl _ _ rfl hfs rfl (by first | rfl | simp) rfl rfl (by omega) hjs ?_; intro v' w5 hfv5 hkept hmv; have hkj5 := keptN hkjs hkept (fun b e => (hfs.lt b e).1); have hst5 := hst.kept hkept (fun b hb e => own_type hst hfs (by decide) b hb e); have hq5 : Below w.heap.size w w5 := hkj5.below hq hq.size (fun b e => by simp at e; omega); have q5 := (hq5.cell (cell_lt HQ1.out)).trans HQ1.out) | (go_at_call 68; refine (HBH.out _ hq5).mono ?_; rintro e w' ⟨rfl, rfl⟩))
        obtain ⟨fa5, fc5, rfl⟩ := hfv5.isSlice
        go_roundw
        case rel => exact ⟨D' ++ [(p, q)], q, z, f ++ [p], rfl, rfl, HW3, HX3, by rw [List.length_append, natsI_append, List.map_append]; exact hfv5, hst5, HI2, by rw [List.length_append, List.length_append]; simp; omega, hkj5⟩
        case measure => simp [lenV]; omega
end Go.Proofs.YtdbanndcdbikmaaGreatDoor
