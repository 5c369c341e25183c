/- The program's faces. -/
import Derived.Test.YtdbanndcdbikmaaGreatDoorTns
import Derived.Test.YtdbanndcdbikmaaGreatDoorVals
import Derived.DeepKeys4
import Derived.Maps.OwnSet
namespace Go.Proofs.YtdbanndcdbikmaaGreatDoor
open Go.RowKit Go.Maps
/-- A map's block holds no cells. -/
theorem own_ne_map {w : World} {B mb cnt : Nat} {E : TypeId} {s n : Nat} {v : Value} {xs : List Value} {P : Program} {k : TypeId} {R : Value → Option (DataW Unit × List MemPlace)} {D : DataW Unit} (h : Own w B E s v n xs) (hm : w.ownsMap P k R mb cnt D) : v.ownBlock ≠ some mb := fun e => by
  obtain ⟨es, clock, hb, -⟩ := hm
  rcases h.2 with ⟨hv, -⟩ | ⟨g, cap, cur, hv, -, hg, -⟩
  · rw [hv] at e; simp [Value.ownBlock] at e
  · rw [hv] at e
    simp [Value.ownBlock] at e
    subst e
    rw [hb] at hg
    simp at hg
theorem keptBF {w w' : World} {r : Option Nat} (hb : Below w.heap.size w w') : KeptBut w w' r := ⟨hb.os, hb.tape, hb.output, hb.size, fun k hk _ => hb.block k hk⟩
theorem keptT {w w1 w2 : World} {r : Option Nat} (h : KeptBut w w1 r) (k : KeptBut w1 w2 r) : KeptBut w w2 r :=
  ⟨k.1.trans h.1, k.2.1.trans h.2.1, k.2.2.1.trans h.2.2.1, Nat.le_trans h.2.2.2.1 k.2.2.2.1, fun b hb hne => (k.2.2.2.2 b (Nat.lt_of_lt_of_le hb h.2.2.2.1) hne).trans (h.2.2.2.2 b hb hne)⟩
/-- Nothing old is touched where the block is new. -/
theorem keptN {w w1 w2 : World} {r r2 : Option Nat} (h : KeptBut w w1 r) (k : KeptBut w1 w2 r2) (hr : ∀ b, r2 = some b → w.heap.size ≤ b) : KeptBut w w2 r :=
  ⟨k.1.trans h.1, k.2.1.trans h.2.1, k.2.2.1.trans h.2.2.1, Nat.le_trans h.2.2.2.1 k.2.2.2.1, fun b hb hne => (k.2.2.2.2 b (Nat.lt_of_lt_of_le hb h.2.2.2.1) (fun e => by have := hr b e.symm; omega)).trans (h.2.2.2.2 b hb hne)⟩
theorem mapB {w w' : World} {mb cnt : Nat} {P : Program} {k : TypeId} {R : Value → Option (DataW Unit × List MemPlace)} {D : DataW Unit} (h : w.ownsMap P k R mb cnt D) (hb : Below w.heap.size w w') : w'.ownsMap P k R mb cnt D :=
  h.kept (row := none) ⟨hb.os, hb.tape, hb.output, hb.size, fun k hk _ => hb.block k hk⟩ (by simp)
theorem mapK {w w' : World} {mb cnt : Nat} {r : Option Nat} {P : Program} {k : TypeId} {R : Value → Option (DataW Unit × List MemPlace)} {D : DataW Unit} (h : w.ownsMap P k R mb cnt D) (hk : KeptBut w w' r) (hr : r ≠ some mb) : w'.ownsMap P k R mb cnt D :=
  h.kept (row := r) ⟨hk.1, hk.2.1, hk.2.2.1, hk.2.2.2.1, hk.2.2.2.2⟩ (fun e => hr e.symm)
theorem own2_set {w : World} {B : Nat} {E : TypeId} {b : Nat} {v v2 : Value} (h : Own w B E 2 (.slice (some ⟨b, 0, none⟩) 1 1) 1 [v, v2]) (u u2 : Value) : Own ((w.setCell ⟨b, 0, none⟩ u).setCell ⟨b, 1, none⟩ u2) B E 2 (.slice (some ⟨b, 0, none⟩) 1 1) 1 [u, u2] := by
  have h1 := (World.ownsRow.stored h 0 u).1
  have h2 := (World.ownsRow.stored h1 1 u2).1
  unfold Own
  simpa using h2
theorem own2_cell {w : World} {B : Nat} {E : TypeId} {b : Nat} {v v2 : Value} (h : Own w B E 2 (.slice (some ⟨b, 0, none⟩) 1 1) 1 [v, v2]) : w.cell? ⟨b, 0, none⟩ = some v ∧ w.cell? ⟨b, 1, none⟩ = some v2 ∧ w.frozen? ⟨b, 0, none⟩ = false ∧ w.frozen? ⟨b, 1, none⟩ = false ∧ B ≤ b ∧ b < w.heap.size :=
  ⟨World.ownsRow.cellAt h 0 (by omega), World.ownsRow.cellAt h 1 (by omega), World.ownsRow.frozenAt h 0, World.ownsRow.frozenAt h 1, (h.lt b rfl).1, (h.lt b rfl).2⟩
theorem own2_new (w : World) (B : Nat) (E : TypeId) (v v2 : Value) (hB : B ≤ w.heap.size) : Own (w.alloc (.cells #[v, v2] E)) B E 2 (.slice (some ⟨w.heap.size, 0, none⟩) 1 1) 1 [v, v2] :=
  World.ownsRow_lit (base := B) (e := E) (size := 2) w #[v, v2] 1 hB (by unfold maxLen; omega) rfl
theorem OwnR.keptMap {w w' : World} {B C mb cnt : Nat} {EO EI : TypeId} {u : Value} {g : List (List Int)} {P : Program} {k : TypeId} {R : Value → Option (DataW Unit × List MemPlace)} {D : DataW Unit} (h : OwnR w B C EO EI u g) (hm : w.ownsMap P k R mb cnt D) (hk : KeptBut w w' (some mb)) : OwnR w' B C EO EI u g := by
  obtain ⟨vs, h1, h2, h3, hap, h4⟩ := h
  exact ⟨vs, h1, h2.kept hk (fun b hb e => own_ne_map h2 hm (by rw [hb, e])), h3, hap, fun i hi hi2 => ⟨(h4 i hi hi2).1.kept hk (fun b hb e => own_ne_map (h4 i hi hi2).1 hm (by rw [hb, e])), (h4 i hi hi2).2⟩⟩
theorem sorted_row {t : List (List Nat)} (h : RotN t) (u : Nat) : (natsI (t.getD u [])).mergeSort (fun x y => decide (x ≤ y)) = natsI (rowD t u) := by
  have h1 : ((natsI (t.getD u [])).mergeSort (fun x y => decide (x ≤ y))).Pairwise (· ≤ ·) := by
    have := List.pairwise_mergeSort (le := fun x y : Int => decide (x ≤ y)) (fun a b c h1 h2 => by simp at *; omega) (fun a b => by simp; omega) (natsI (t.getD u []))
    exact this.imp fun h => of_decide_eq_true h
  have hp := List.mergeSort_perm (natsI (t.getD u [])) (fun x y => decide (x ≤ y))
  have hn : (natsI (t.getD u [])).Nodup := by
    unfold natsI
    rw [List.Nodup, List.pairwise_map]
    exact (h.nd u).imp fun h e => h (by omega)
  have hs : ((natsI (t.getD u [])).mergeSort (fun x y => decide (x ≤ y))).Pairwise (· < ·) :=
    (List.pairwise_and_iff.2 ⟨h1, hp.nodup_iff.2 hn⟩).imp fun h => by omega
  refine sorted_ext hs ?_ (fun x => ?_)
  · unfold natsI rowD
    rw [List.pairwise_map]
    exact (List.pairwise_lt_range.filter _).imp (fun h => by omega)
  · rw [hp.mem_iff]
    unfold natsI
    simp only [List.mem_map]
    constructor
    · rintro ⟨v, hv, rfl⟩; exact ⟨v, (mem_rowD h).2 hv, rfl⟩
    · rintro ⟨v, hv, rfl⟩; exact ⟨v, (mem_rowD h).1 hv, rfl⟩
theorem arrLaid : laidOutB Tryz.prog = true := by kernel_rfl
theorem arrRow : (100 : TypeId) < Tryz.prog.types.size := of_decide_eq_true (by kernel_rfl)
theorem arrLaw : WideMaps.KeyLaw Tryz.prog 100 := deep_law_laid arrLaid (m := 2) (by omega) arrRow (by kernel_rfl) (by rw [Tryz.underlying100])
theorem keyArr : Keyed Tryz.prog 100 := Keyed.of_law arrLaw
/-- A side as a key. -/
theorem keyD_ex (p q : Nat) (hp : p < 1024) (hq : q < 1024) : ∃ l, keyOf Tryz.prog 100 (.agg #[.int .i64 (p : Int), .int .i64 (q : Int)]) = some l := by
  have hk : Tryz.prog.keyType 100 = true := by kernel_rfl
  have h1 : (Lit.int .i64 (p : Int)).wf = true := WalkArith.wf_i64 (by omega)
  have h2 : (Lit.int .i64 (q : Int)).wf = true := WalkArith.wf_i64 (by omega)
  have hc : Tryz.prog.cellsOf 100 = 2 := by kernel_rfl
  have hci : Tryz.prog.cellsOf 3 = 1 := by kernel_rfl
  obtain ⟨m, hm⟩ : ∃ m, Tryz.prog.types.size = m + 1 := Nat.exists_eq_succ_of_ne_zero (fun h => by have := arrRow; rw [h] at this; exact absurd this (Nat.not_lt_zero _))
  rw [keyOf, Tryz.underlying100]
  simp only [hk, hm, Value.formed, Tryz.underlying100, hc, Program.keyLits, hci]
  simp [Tryz.underlying3, h1, h2, hci, Value.cells, Program.keyLits]
theorem keyD_ex2 (p q : Nat) : ∃ l, p < 1024 → q < 1024 → keyOf Tryz.prog 100 (.agg #[.int .i64 (p : Int), .int .i64 (q : Int)]) = some l := by
  by_cases h : p < 1024 ∧ q < 1024
  · obtain ⟨l, hl⟩ := keyD_ex p q h.1 h.2
    exact ⟨l, fun _ _ => hl⟩
  · exact ⟨.bool true, fun h1 h2 => absurd ⟨h1, h2⟩ h⟩
noncomputable def litD (p q : Nat) : Lit := Classical.choose (keyD_ex2 p q)
theorem keyD {p q : Nat} (hp : p < 1024) (hq : q < 1024) : keyOf Tryz.prog 100 (.agg #[.int .i64 (p : Int), .int .i64 (q : Int)]) = some (litD p q) := Classical.choose_spec (keyD_ex2 p q) hp hq
theorem litD_inj {p q p' q' : Nat} (hp : p < 1024) (hq : q < 1024) (hp' : p' < 1024) (hq' : q' < 1024) (h : litD p q = litD p' q') : p = p' ∧ q = q' := by
  have h1 := keyD hp hq
  have h2 := keyD hp' hq'
  rw [h] at h1
  have := keyArr.inj h1 h2
  simp only [Value.agg.injEq, Array.mk.injEq, List.cons.injEq, Value.int.injEq, and_true, true_and] at this
  omega
theorem keyIs {p q : Nat} (hp : p < 1024) (hq : q < 1024) : WideAt.IsKeyLit (litD p q) := @Keyed.key Tryz.prog 100 keyArr _ _ (keyD hp hq)
/-- The map holds just the sides of D. -/
structure KMap (M : DataW Unit) (D : List Dart) : Prop where
  is : IsMap M
  has : ∀ p q, p < 1024 → q < 1024 → Maps.has M (litD p q) = decide ((p, q) ∈ D)
theorem KMap.start : KMap (.map []) [] := ⟨⟨_, rfl⟩, fun p q _ _ => by simp [Maps.has]⟩
theorem KMap.put {M : DataW Unit} {D : List Dart} (h : KMap M D) {p q : Nat} (hp : p < 1024) (hq : q < 1024) (d : DataW Unit) : KMap (M.put (litD p q) d) (D ++ [(p, q)]) :=
  ⟨h.is.put _ _, fun p' q' hp' hq' => by
    by_cases e : p' = p ∧ q' = q
    · obtain ⟨rfl, rfl⟩ := e
      rw [has_put_same h.is (keyIs hp hq)]
      simp
    · have hne : litD p' q' ≠ litD p q := fun h => e (litD_inj hp' hq' hp hq h)
      rw [has_put_other hne, h.has p' q' hp' hq', decide_eq_decide]
      simp only [List.mem_append, List.mem_singleton, Prod.mk.injEq, e, or_false]⟩
theorem zeroIntF (w : World) : (zeroValue 3).run Tryz.prog w = .ok (.int .i64 0) w := by kernel_rfl
theorem elFaces : Elem Tryz.prog 51 57 1 24 (.slice none 0 0) := ⟨Tryz.underlying51, by kernel_rfl, rfl, by omega, by omega⟩
set_option maxRecDepth 100000 in
set_option maxHeartbeats 16000000 in
theorem faces_any {S : Nat → Prop} {tv : Value} {t : List (List Nat)} {w : World} (ht : RotN t) (hv : SlR S w tv (t.map natsI)) :
    Calls Tryz.prog 29 #[tv] w fun e w' => ∃ u mb, e = .returned (.tuple #[u, .map (some mb)]) ∧ OwnR w' w.heap.size w'.heap.size 57 3 u ((facesN t).map natsI) ∧ Below w.heap.size w w' := by
  have hq0 : Below w.heap.size w ((w.alloc (.cells #[] 57)).alloc (.map #[] 0)) := ((Below.refl _ _).alloc (Nat.le_refl _) _).alloc (by simp) _
  have hmm := @run_makeMap Tryz.prog
  have hM0 : ((w.alloc (.cells #[] 57)).alloc (.map #[] 0)).ownsMap Tryz.prog 100 (plainElem Tryz.prog 3) (w.heap.size + 1) 0 (.map [] : DataW Unit) := by
    have := World.ownsMap_made (H := Unit) (w.alloc (.cells #[] 57)) Tryz.prog 100 (plainElem Tryz.prog 3)
    simpa using this
  have hR0 : OwnR ((w.alloc (.cells #[] 57)).alloc (.map #[] 0)) w.heap.size ((w.alloc (.cells #[] 57)).alloc (.map #[] 0)).heap.size 57 3 (.slice (some ⟨w.heap.size, 0, none⟩) 0 0) [] := by
    refine ⟨[], rfl, ?_, fun b hb => by simp [Value.ownBlock] at hb; simp; omega, ApartL.nil, fun i hi => by simp at hi⟩
    have := World.ownsRow_lit (base := w.heap.size) (e := 57) (size := 1) w #[] 0 (Nat.le_refl _) (by unfold maxLen; omega) rfl
    exact Own.alloc (by simpa [Own] using this) _
  have hvS := hv
  obtain ⟨ra, rb, roff, rcap, rf, rfl, hrl, hra, hrc⟩ := hv
  rw [List.length_map] at *
  have h16 := ht.le
  have HRC := Lib.hid hrc
  have HT := Lib.hid ht
  have HVS := Lib.hid (fun (W : World) (hb : Below w.heap.size w W) => hvS.below hb (Nat.le_refl _))
  clear hrc hvS
  go_enter Tryz.func29, Tryz.ntmps29
  go_wp2
  go_loopw [20, 4] (fun iv ov wr => ∃ (u : Nat) (F : List (List Nat)) (D : List Dart) (M : DataW Unit) (cnt : Nat), u ≤ t.length ∧ iv = .int .i64 u ∧ RowKit.Hid (facesTo t (dartsAt t u 0) = (F, D)) ∧ OwnR wr w.heap.size wr.heap.size 57 3 ov (F.map natsI) ∧ wr.ownsMap Tryz.prog 100 (plainElem Tryz.prog 3) (w.heap.size + 1) cnt M ∧ RowKit.Hid (KMap M D) ∧ cnt ≤ D.length ∧ Below w.heap.size w wr) (fun iv _ _ => t.length - (intOf iv).toNat)
  case atStart => exact ⟨0, [], [], _, 0, Nat.zero_le _, rfl, Lib.hid (by rw [dartsAt_zero]; rfl), hR0, hM0, Lib.hid KMap.start, by simp, hq0⟩
  case round =>
    clear hR0 hM0 hq0 hmm
    obtain ⟨u, F, D, M, cnt, hu, rfl, HF, hR, hM, HK, hcnt, hq⟩ := hrel
    obtain ⟨wi, rfl⟩ : ∃ wx : World, wx = wr := ⟨_, rfl⟩
    by_cases hlt : u < t.length
    case neg =>
      obtain rfl : u = t.length := by omega
      have HE := Lib.hid (show F = facesN t by unfold facesN; rw [← dartsAt_all, HF.out])
      go_wp2
      go_ret2
      exact ⟨_, _, rfl, by rw [← HE.out]; exact hR, hq⟩
    have hul : u < (t.map natsI).length := by rw [List.length_map]; exact hlt
    obtain ⟨k1, r1⟩ := HRC.out u hul
    have e : (t.map natsI)[u] = natsI (t.getD u []) := by simp [hlt]
    rw [e] at r1
    have k1 := (hq.cell (cell_lt k1)).trans k1
    have r1 := r1.below hq (Nat.le_refl _)
    obtain ⟨rowa, rowc, hre⟩ := r1.slice
    rw [hre] at k1 r1
    have hx20 : (natsI (t.getD u [])).length ≤ 1048576 := by have := rot_row HT.out u; rw [natsI_len]; omega
    have hlti : (u : Int) < t.length := by omega
    obtain ⟨rfl, -⟩ := hra (by omega)
    have hbv : Below wi.heap.size wi (wi.alloc (.cells #[.slice rowa (natsI (t.getD u [])).length rowc] 57)) := (Below.refl _ _).alloc (Nat.le_refl _) _
    have hso := sortedOfI_any (w := wi.alloc (.cells #[.slice rowa (natsI (t.getD u [])).length rowc] 57)) (Bs := wi.heap.size) hx20 (r1.below hbv (Nat.le_refl _)) (by simp [go_sem])
    have hs0 : (wi.alloc (.cells #[.slice rowa (natsI (t.getD u [])).length rowc] 57)).heap.size = wi.heap.size + 1 := by simp
    rw [hs0, sorted_row HT.out, natsI_len, ← row_len HT.out] at hso
    rw [natsI_len, ← row_len HT.out] at k1 r1 hbv
    have HS0 := Lib.hid hs0
    clear hre e hs0 hx20 r1
    have hsl : (rowD t u).length ≤ 16 := by rw [row_len HT.out]; exact rot_row HT.out u
    have hmem := fun k (hk : k < (rowD t u).length) => (mem_rowD (u := u) HT.out).1 (List.getElem_mem hk)
    have HMEM := Lib.hid hmem
    have HROW := Lib.hid (fun k (hk : k < (rowD t u).length) => dartsAt_snoc t (u := u) (k := k) hk)
    have HEND := Lib.hid (dartsAt_row t (u := u) (k := (rowD t u).length) (Nat.le_refl _))
    generalize rowD t u = s at *
    clear hmem
    go_wp2_with (first | (go_at_call 66; refine (valuesI_any _ _ _ _).mono ?_; rintro e w' ⟨rfl, rfl⟩))
    refine hso.mono ?_
    rintro e w3 ⟨us, rfl, hus, hb3⟩
    clear hso
    have hb3 : Below wi.heap.size wi w3 := hbv.trans (hb3.mono (by omega))
    have hq3 := hq.trans (hb3.mono hq.size)
    have hR3 := (hR.below hb3 (Nat.le_refl _)).weaken (C1 := w3.heap.size) (Nat.le_refl _) hb3.size
    have hM3 := mapB hM hb3
    have hwis := hq.size
    have hus3 : Own w3 w.heap.size 3 1 us s.length ((natsI s).map (.int .i64)) := hus.weak (by omega)
    obtain ⟨usa, usc, rfl⟩ := hus.isSlice
    have HF3 := Lib.hid (show facesTo t (dartsAt t u 0) = (F, D) from HF.out)
    clear hus hbv hb3 hR hM hq k1 HS0
    go_wp2
    go_loopw [29, 4] (fun iv ov wr => ∃ (k : Nat) (F : List (List Nat)) (D : List Dart) (M : DataW Unit) (cnt : Nat), k ≤ s.length ∧ iv = .int .i64 k ∧ RowKit.Hid (facesTo t (dartsAt t u k) = (F, D)) ∧ OwnR wr w.heap.size wr.heap.size 57 3 ov (F.map natsI) ∧ wr.ownsMap Tryz.prog 100 (plainElem Tryz.prog 3) (w.heap.size + 1) cnt M ∧ RowKit.Hid (KMap M D) ∧ cnt ≤ D.length ∧ Own wr w.heap.size 3 1 (.slice usa s.length usc) s.length ((natsI s).map (.int .i64)) ∧ Below w.heap.size w wr) (fun iv _ _ => s.length - (intOf iv).toNat)
    case atStart => exact ⟨0, F, D, M, cnt, Nat.zero_le _, rfl, HF3, hR3, hM3, HK, hcnt, hus3, hq3⟩
    case round =>
      clear hR3 hM3 hus3 hq3 HF3 hcnt HK HF M F D cnt
      obtain ⟨k, F, D, M, cnt, hk, rfl, HF, hR, hM, HK, hcnt, hus, hq⟩ := hrel
      obtain ⟨wi, rfl⟩ : ∃ wx : World, wx = wr := ⟨_, rfl⟩
      by_cases hks : k < s.length
      case neg =>
        obtain rfl : k = s.length := by omega
        have HF2 := Lib.hid (show facesTo t (dartsAt t (u + 1) 0) = (F, D) by rw [← HEND.out]; exact HF.out)
        go_wp2
        go_roundw
        case rel => exact ⟨u + 1, F, D, M, cnt, by omega, by go_num, HF2, hR, hM, HK, hcnt, hq⟩
        case measure => simp [intOf]; omega
      have hvm := HMEM.out k hks
      have HRK := Lib.hid (HROW.out k hks)
      obtain ⟨sb, so, sc, hse, hsc⟩ := (Own.ints (xs := natsI s) hus (by omega)).at_
      have hse := hse (by rw [natsI_len]; omega)
      rw [natsI_len] at hse
      simp only [Value.slice.injEq] at hse
      obtain ⟨rfl, -, rfl⟩ := hse
      have hck := hsc k (by rw [natsI_len]; exact hks)
      rw [natsI_get] at hck
      generalize s[k] = v at *
      have hxD : IsD t (u, v) := hvm
      have hvl : v < t.length := (hxD.lt HT.out).2
      have hkey := keyD (p := u) (q := v) (by omega) (by omega)
      have hhas := HK.out.has u v (by omega) (by omega)
      have hksi : (k : Int) < s.length := by omega
      clear hsc hvm
      by_cases hin : (u, v) ∈ D
      case pos =>
        rw [decide_eq_true hin] at hhas
        have HF2 := Lib.hid (show facesTo t (dartsAt t u (k + 1)) = (F, D) by rw [HRK.out, facesTo_snoc, HF.out, fstep, if_pos hin])
        go_wp2_with (at_lookup; refine wpList_lookup_own_ok_int _ rfl _ _ 52 rfl 100 3 .i64 keyArr Tryz.underlying52 Tryz.underlying3 (zeroIntF _) (w.heap.size + 1) cnt M rfl hM _ _ rfl hkey ?_; intro c hat hwc; rw [hhas]; clear hat)
        go_roundw
        case rel => exact ⟨k + 1, F, D, M, cnt, by omega, by go_num, HF2, hR, hM, HK, hcnt, hus, hq⟩
        case measure => simp [intOf]; omega
      rw [decide_eq_false hin] at hhas
      have hFI : FInv t F D := by
        have := facesTo_inv HT.out (dartsAt_isD HT.out (u := u) (k := k))
        rw [HF.out] at this; exact this
      have hFl : F.length ≤ 256 + k := by
        have := facesAt_le HT.out (u := u) (k := k) hu
        rw [HF.out] at this; exact this
      have HFI := Lib.hid hFI
      have hb00 : Below wi.heap.size wi ((wi.alloc (.cells #[] 3)).alloc (.cells #[.int .i64 (u : Int), .int .i64 (v : Int)] 100)) := ((Below.refl _ _).alloc (Nat.le_refl _) _).alloc (by simp) _
      have hM00 := mapB hM hb00
      have hf00 : Own ((wi.alloc (.cells #[] 3)).alloc (.cells #[.int .i64 (u : Int), .int .i64 (v : Int)] 100)) wi.heap.size 3 1 (.slice (some ⟨wi.heap.size, 0, none⟩) 0 0) ([] : List Nat).length ((natsI []).map (.int .i64)) := by
        have := World.ownsRow_lit (base := wi.heap.size) (e := 3) (size := 1) wi #[] 0 (Nat.le_refl _) (by unfold maxLen; omega) rfl
        exact Own.alloc (by simpa [Own, natsI] using this) _
      have hx00 := own2_new (wi.alloc (.cells #[] 3)) wi.heap.size 100 (.int .i64 (u : Int)) (.int .i64 (v : Int)) (by simp)
      rw [show (wi.alloc (.cells #[] 3)).heap.size = wi.heap.size + 1 by simp] at hx00
      have hmbl := hM.lt
      clear hFI
      go_wp2_with (at_lookup; refine wpList_lookup_own_ok_int _ rfl _ _ 52 rfl 100 3 .i64 keyArr Tryz.underlying52 Tryz.underlying3 (zeroIntF _) (w.heap.size + 1) cnt M rfl hM _ _ rfl hkey ?_; intro c hat hwc; rw [hhas]; clear hat)
      go_loopw [12, 13] (fun fv xv wr => ∃ (D' : List Dart) (p q : Nat) (f : List Nat) (M' : DataW Unit) (cnt' xb : Nat), xv = .pointer (some ⟨xb, 0, none⟩) ∧ RowKit.Hid (trW t D' (p, q) f = trW t D (u, v) []) ∧ RowKit.Hid (IsD t (p, q)) ∧ Own wr wi.heap.size 3 1 fv f.length ((natsI f).map (.int .i64)) ∧ Own wr wi.heap.size 100 2 (.slice (some ⟨xb, 0, none⟩) 1 1) 1 [.int .i64 (p : Int), .int .i64 (q : Int)] ∧ wr.ownsMap Tryz.prog 100 (plainElem Tryz.prog 3) (w.heap.size + 1) cnt' M' ∧ RowKit.Hid (KMap M' D') ∧ cnt' ≤ D'.length ∧ RowKit.Hid ((∀ y ∈ D', IsD t y) ∧ D'.Nodup) ∧ D'.length = D.length + f.length ∧ KeptBut wi wr (some (w.heap.size + 1))) (fun fv _ _ => 257 - lenV fv)
      case atStart => exact ⟨D, u, v, [], M, cnt, _, rfl, Lib.hid rfl, Lib.hid hxD, hf00, hx00, hM00, HK, hcnt, Lib.hid ⟨HFI.out.all, HFI.out.nd⟩, by simp, keptBF hb00⟩
      case round =>
        clear hM00 hf00 hx00 hb00
        obtain ⟨D', p, q, f, M', cnt', xb, rfl, HW, HX, hfv, hxo, hMj, HK', hcnt', HI, hDl, hkj⟩ := hrel
        obtain ⟨wj, rfl⟩ : ∃ wx : World, wx = wr := ⟨_, rfl⟩
        have hpq := HX.out.lt HT.out
        have h256 := len_le_sq HT.out HI.out.1 HI.out.2
        have hp16 : p < 16 := by have := hpq.1; simp only at this; omega
        have hq16 : q < t.length := hpq.2
        have hkeyj := keyD (p := p) (q := q) (by omega) (by omega)
        have hhasj := HK'.out.has p q (by omega) (by omega)
        obtain ⟨x0, x1, y0, y1, hxb, hxl⟩ := own2_cell hxo
        obtain ⟨fa, fc, rfl⟩ := hfv.isSlice
        clear hpq
        by_cases hinj : (p, q) ∈ D'
        case pos =>
          rw [decide_eq_true hinj] at hhasj
          have HF2 := Lib.hid (show facesTo t (dartsAt t u (k + 1)) = (F ++ [f], D') by
            rw [HRK.out, facesTo_snoc, HF.out, fstep, if_neg hin, ← HW.out, trW_in hinj])
          have hRj := hR.keptMap hM hkj
          have husj := hus.kept hkj (fun b hb e => own_ne_map hus hM (by rw [hb, e]))
          have hqj : Below w.heap.size w wj := hkj.below hq hq.size (fun b e => by simp at e; omega)
          have hwis := hq.size
          have hfge := fun b hb => (hfv.lt b hb).1
          obtain ⟨vs, hvl, hown, hbC, hap, hrows⟩ := hRj
          rw [List.length_map] at hvl hown
          have hjs := hkj.2.2.2.1
          obtain ⟨oa, oc, rfl⟩ := hown.isSlice
          clear hR hinj hxo y0 y1
          go_wp2_with (first | (at_lookup; refine wpList_lookup_own_ok_int _ rfl _ _ 52 rfl 100 3 .i64 keyArr Tryz.underlying52 Tryz.underlying3 (zeroIntF _) (w.heap.size + 1) cnt' M' rfl hMj _ _ rfl hkeyj ?_; intro c hat hwc; rw [hhasj]; clear hat) | (at_builtin; refine wpList_append1 elFaces rfl _ _ rfl hown rfl (by first | rfl | simp) rfl (by omega) (by omega) ?_; intro o5 w5 hown5 hkept hmv))
          have hR5 : OwnR w5 w.heap.size w5.heap.size 57 3 o5 (F.map natsI ++ [natsI f]) := ownR_snoc (by rw [List.length_map]; exact hvl) hjs hap hrows hbC (by rw [List.length_map]; exact hown5) (by rw [natsI_len]; exact hfv.weak hwis) hfge hkept (by
            rcases hmv with h | h
            · exact .inl h
            · exact .inr ⟨_, h, by simp⟩)
          have hM5 := mapK hMj hkept (own_ne_map hown hMj)
          have hus5 := husj.kept hkept (fun b hb e => own_type husj hown (by decide) b hb e)
          have hq5 := hkept.below hqj hqj.size (fun c h => (hown.lt c h).1)
          go_roundw
          case rel => exact ⟨k + 1, F ++ [f], D', M', cnt', by omega, by go_num, HF2, by rw [List.map_append]; exact hR5, hM5, HK', hcnt', hus5, hq5⟩
          case measure => simp [intOf]; omega
        rw [decide_eq_false hinj] at hhasj
        have HW2 := Lib.hid (show trW t (D' ++ [(p, q)]) (succD t (p, q)) (f ++ [p]) = trW t D (u, v) [] by rw [← trW_step HT.out HX.out hinj]; exact HW.out)
        have HX2 := Lib.hid (succ_isD HT.out HX.out)
        have HK2 := Lib.hid (HK'.out.put (p := p) (q := q) (by omega) (by omega) (.lit (.int .i64 (F.length : Int))))
        have HI2 := Lib.hid (show (∀ y ∈ D' ++ [(p, q)], IsD t y) ∧ (D' ++ [(p, q)]).Nodup from ⟨fun z hz => by
          rcases List.mem_append.1 hz with hz | hz
          · exact HI.out.1 z hz
          · simp only [List.mem_singleton] at hz; rw [hz]; exact HX.out, by
          rw [List.nodup_append]
          exact ⟨HI.out.2, by simp, fun a ha b hb => by simp only [List.mem_singleton] at hb; subst hb; exact fun e => hinj (e ▸ ha)⟩⟩)
        have hm1 : p ∈ t.getD q [] := (HT.out.sym p q HX.out).2
        have hD2 : (D' ++ [(p, q)]).length = D.length + (f.length + 1) := by rw [List.length_append]; simp only [List.length_singleton]; omega
        have h256b := len_le_sq HT.out HI2.out.1 HI2.out.2
        obtain ⟨oa, oc, rfl⟩ := hR.isSlice
        rw [List.length_map]
        have hcm : cnt' < maxLen := by unfold maxLen; omega
        clear hinj
        go_wp2_with (first | (at_lookup; refine wpList_lookup_own_ok_int _ rfl _ _ 52 rfl 100 3 .i64 keyArr Tryz.underlying52 Tryz.underlying3 (zeroIntF _) (w.heap.size + 1) cnt' M' rfl hMj _ _ rfl hkeyj ?_; intro c hat hwc; rw [hhasj]; clear hat) | (at_mapUpdate; refine wpList_mapUpdate_own _ rfl _ _ _ 52 rfl 100 3 keyArr Tryz.underlying52 _ (w.heap.size + 1) cnt' M' rfl hMj hcm _ _ _ rfl rfl hkeyj _ [] (plainElem_int Tryz.underlying3 (WalkArith.wf_i64 (by omega))) ?_; intro w3 hM3 hgrow3; have hk3 : KeptBut wj w3 (some (w.heap.size + 1)) := KeptBut.of_grown hgrow3; have hfv3 := hfv.kept hk3 (fun b hb e => own_ne_map hfv hMj (by rw [hb, e])); have hxo3 := hxo.kept hk3 (fun b hb e => own_ne_map hxo hMj (by rw [hb, e])); have hkj3 := keptT hkj hk3; obtain ⟨z0, z1, -, -, -, -⟩ := own2_cell hxo3; have hjs3 := hkj3.2.2.2.1; clear hgrow3 hk3 hfv hxo hkj hMj x0 x1 y0 y1) | (at_builtin; refine wpList_append1 elInt rfl _ _ rfl hfv3 rfl rfl rfl (by omega) hjs3 ?_; intro v' w5 hfv5 hkept hmv; have hxo5 := hxo3.kept hkept (fun b hb e => own_type hxo3 hfv3 (by decide) b hb e); have hM5 := mapK hM3 hkept (own_ne_map hfv3 hM3); have hkj5 := keptN hkj3 hkept (fun b e => (hfv3.lt b e).1); obtain ⟨v0, v1, -, -, -, -⟩ := own2_cell hxo5; have hjs5 := hkj5.2.2.2.1; clear hfv3 hxo3 hkj3 hM3 hkept z0 z1))
        have hba : Below w5.heap.size w5 (w5.alloc (.cells #[.int .i64 (p : Int), .int .i64 (q : Int)] 100)) := (Below.refl _ _).alloc (Nat.le_refl _) _
        have hxn := own2_new w5 wi.heap.size 100 (.int .i64 (p : Int)) (.int .i64 (q : Int)) hjs5
        have hfv6 := hfv5.below hba (Nat.le_refl _)
        have hM6 := mapB hM5 hba
        have hkj6 := keptN (r2 := none) hkj5 (keptBF hba) (fun b e => by cases e)
        have hnl : wi.heap.size ≤ w5.heap.size := hjs5
        generalize hW6 : (w5.alloc (.cells #[.int .i64 (p : Int), .int .i64 (q : Int)] 100)) = w6 at *
        clear hW6 hba hfv5 hM5 hkj5 hxo5 v0 v1 hmv
        generalize w5.heap.size = nb at *
        obtain ⟨n0, n1, -, -, -, -⟩ := own2_cell hxn
        have haf := fun (W : World) (hb : Below w.heap.size w W) => tAfter_any (HVS.out W hb) (rot_row HT.out) hm1 hq16
        have HW3 := Lib.hid (show trW t (D' ++ [(p, q)]) (q, nextIn (t.getD q []) p) (f ++ [p]) = trW t D (u, v) [] from HW2.out)
        have HX3 := Lib.hid (show IsD t (q, nextIn (t.getD q []) p) from HX2.out)
        generalize nextIn (t.getD q []) p = z at *
        clear HW2 HX2
        obtain ⟨fa5, fc5, rfl⟩ := hfv6.isSlice
        have hq6 : Below w.heap.size w w6 := hkj6.below hq hq.size (fun b e => by simp at e; omega)
        go_wp2
        refine wp_region_late (S := (fun w' => w'.cell? ⟨nb, 0, none⟩ = some (.int .i64 (p : Int)) ∧ w'.cell? ⟨nb, 1, none⟩ = some (.int .i64 (q : Int)))) (late := [9]) (by kernel_rfl) ?_ (fun hHeld => ?_)
        · first | exact ⟨‹_›, ‹_›⟩ | assumption | (simp [*, go_sem])
        have hqd := (Drawn.refl w6).drew
        generalize w6.drew = wd at hqd hHeld ⊢
        refine wpLate_take (i := 0) (v := ?v1) (by simp only [List.getElem?_toArray, List.getElem?_cons_zero]; exact rfl) (by kernel_rfl) (by kernel_rfl) (by kernel_rfl) (by intro _ _ _ h; exact h) (Or.inl ⟨by rfl, ?y1⟩) ?_
        case y1 => (intro w _; go_simp; try (with_reducible rfl))
        try simp only [Act.put, List.setIfInBounds_toArray, List.set_cons_zero, List.set_cons_succ]
        refine wpLate_load (i := 1) (v := ?v2) (by simp only [List.getElem?_toArray, List.getElem?_cons_succ, List.getElem?_cons_zero]; exact rfl) (by kernel_rfl) (by kernel_rfl) (by kernel_rfl) (by kernel_rfl) (by intro _ _ _ h; exact h) (Or.inl ⟨by rfl, ?y2⟩) hHeld ?_
        case y2 => (intro w hSw; (try dsimp only at hSw); go_simp; try (with_reducible rfl))
        try simp only [Act.put, List.setIfInBounds_toArray, List.set_cons_zero, List.set_cons_succ]
        refine wpLate_take (i := 2) (v := ?v3) (by simp only [List.getElem?_toArray, List.getElem?_cons_succ, List.getElem?_cons_zero]; exact rfl) (by kernel_rfl) (by kernel_rfl) (by kernel_rfl) (by intro _ _ _ h; exact h) (Or.inl ⟨by rfl, ?y3⟩) ?_
        case y3 => (intro w _; go_simp; try (with_reducible rfl))
        try simp only [Act.put, List.setIfInBounds_toArray, List.set_cons_zero, List.set_cons_succ]
        refine wpLate_take (i := 3) (v := ?v4) (by simp only [List.getElem?_toArray, List.getElem?_cons_succ, List.getElem?_cons_zero]; exact rfl) (by kernel_rfl) (by kernel_rfl) (by kernel_rfl) (by intro _ _ _ h; exact h) (Or.inl ⟨by rfl, ?y4⟩) ?_
        case y4 => (intro w _; go_simp; try (with_reducible rfl))
        try simp only [Act.put, List.setIfInBounds_toArray, List.set_cons_zero, List.set_cons_succ]
        refine wpLate_load (i := 4) (v := ?v5) (by simp only [List.getElem?_toArray, List.getElem?_cons_succ, List.getElem?_cons_zero]; exact rfl) (by kernel_rfl) (by kernel_rfl) (by kernel_rfl) (by kernel_rfl) (by intro _ _ _ h; exact h) (Or.inl ⟨by rfl, ?y5⟩) hHeld ?_
        case y5 => (intro w hSw; (try dsimp only at hSw); go_simp; try (with_reducible rfl))
        try simp only [Act.put, List.setIfInBounds_toArray, List.set_cons_zero, List.set_cons_succ]
        refine wpLate_take (i := 5) (v := ?v6) (by simp only [List.getElem?_toArray, List.getElem?_cons_succ, List.getElem?_cons_zero]; exact rfl) (by kernel_rfl) (by kernel_rfl) (by kernel_rfl) (by intro _ _ _ h; exact h) (Or.inl ⟨by rfl, ?y6⟩) ?_
        case y6 => (intro w _; go_simp; try (with_reducible rfl))
        try simp only [Act.put, List.setIfInBounds_toArray, List.set_cons_zero, List.set_cons_succ]
        refine wpLate_load (i := 6) (v := ?v7) (by simp only [List.getElem?_toArray, List.getElem?_cons_succ, List.getElem?_cons_zero]; exact rfl) (by kernel_rfl) (by kernel_rfl) (by kernel_rfl) (by kernel_rfl) (by intro _ _ _ h; exact h) (Or.inl ⟨by rfl, ?y7⟩) hHeld ?_
        case y7 => (intro w hSw; (try dsimp only at hSw); go_simp; try (with_reducible rfl))
        try simp only [Act.put, List.setIfInBounds_toArray, List.set_cons_zero, List.set_cons_succ]
        refine wpLate_one (i := 7) (by kernel_rfl) (by simp only [List.getElem?_toArray, List.getElem?_cons_succ, List.getElem?_cons_zero]; exact rfl) (by kernel_rfl) (fun K hK => ?_)
        go_simp
        refine (haf _ (hq6.trans ((hqd.below w6.heap.size).mono hq6.size))).mono ?_
        rintro e wn ⟨rfl, hdn⟩
        replace hqd := hqd.trans hdn
        have hHeld : (fun w' => w'.cell? ⟨nb, 0, none⟩ = some (.int .i64 (p : Int)) ∧ w'.cell? ⟨nb, 1, none⟩ = some (.int .i64 (q : Int))) wn := ⟨(hdn.cell _).trans hHeld.1, (hdn.cell _).trans hHeld.2⟩
        obtain ⟨wd, rfl⟩ : ∃ wx : World, wx = wn := ⟨_, rfl⟩
        try dsimp only
        refine hK.out _ _ ?h9 (fun hHeld => ?_)
        case h9 => first | exact ⟨‹_›, ‹_›⟩ | assumption | (simp [*, go_sem])
        clear hK K
        try simp only [Act.put, List.setIfInBounds_toArray, List.set_cons_zero, List.set_cons_succ]
        refine wpLate_take (i := 8) (v := ?v10) (by simp only [List.getElem?_toArray, List.getElem?_cons_succ, List.getElem?_cons_zero]; exact rfl) (by kernel_rfl) (by kernel_rfl) (by kernel_rfl) (by intro _ _ _ h; exact h) (Or.inl ⟨by rfl, ?y10⟩) ?_
        case y10 => (intro w _; go_simp; try (with_reducible rfl))
        try simp only [Act.put, List.setIfInBounds_toArray, List.set_cons_zero, List.set_cons_succ]
        refine wpLate_late (i := 9) (by kernel_rfl) (by simp only [List.getElem?_toArray, List.getElem?_cons_succ, List.getElem?_cons_zero]; exact rfl) (by kernel_rfl) (fun K hK => ?_)
        have hxd := hxn.drawn hqd
        obtain ⟨k0, k1, f0, f1, -, -⟩ := own2_cell hxd
        go_simp
        try dsimp only
        refine hK.out _ _ ?_
        clear hK K
        try simp only [Act.put, List.setIfInBounds_toArray, List.set_cons_zero, List.set_cons_succ]
        refine wpLate_done (by kernel_rfl) ?_ _
        have hxe := own2_set hxd (.int .i64 (q : Int)) (.int .i64 (z : Int))
        have hke : KeptBut wd ((wd.setCell ⟨nb, 0, none⟩ (.int .i64 (q : Int))).setCell ⟨nb, 1, none⟩ (.int .i64 (z : Int))) (some nb) := ⟨rfl, rfl, rfl, by simp, fun b _ hne => (Below.heap_setCell _ _ _ _ (by simp; intro e; exact hne (by rw [e]))).trans (Below.heap_setCell _ _ _ _ (by simp; intro e; exact hne (by rw [e])))⟩
        have hfe := (hfv6.drawn hqd).kept hke (fun b hb e => own_type (hfv6.drawn hqd) hxd (by decide) b hb (by rw [← e]; rfl))
        have hMe := mapK (mapB hM6 (hqd.below _)) hke (fun e => by have h1 : nb = w.heap.size + 1 := (by simpa using e); omega)
        have hkjd := keptN (r2 := none) hkj6 (keptBF (hqd.below _)) (fun b e => by cases e)
        have hkje := keptN hkjd hke (fun b e => by have h1 : nb = b := (by simpa using e); omega)
        go_wp2
        go_roundw
        case rel => exact ⟨D' ++ [(p, q)], q, z, f ++ [p], _, cnt' + 1, nb, rfl, HW3, HX3, by rw [List.length_append, natsI_append, List.map_append]; exact hfe, hxe, hMe, HK2, by rw [List.length_append]; simp; omega, HI2, by rw [List.length_append, List.length_append]; simp; omega, hkje⟩
        case measure => simp [lenV]; omega
end Go.Proofs.YtdbanndcdbikmaaGreatDoor
