/- The greatest modules, by the reference. -/
import Derived.Test.YthpbeiihlembnaaDoorMdI
namespace Go.Proofs.YthpbeiihlembnaaDoor
open Go.RowKit
theorem bits_natsIG (m : Nat) : bitsI m = natsI (bitsN m) := by simp [bitsI, natsI]
theorem pair_bits {u v : Nat} (hu : u < 32) (hv : v < 32) : bitsI (bit v ||| bit u) = pairI (v : Int) (u : Int) := by
  have h32 : bit v ||| bit u < 4294967296 := Nat.or_lt_two_pow (n := 32) (bit_lt hv) (bit_lt hu)
  refine sorted_ext (bitsI_sorted _) (pairI_sorted _ _) fun x => ?_
  rw [mem_bitsI h32, mem_pairI, Nat.testBit_or, Bool.or_eq_true, testBit_bit, testBit_bit, decide_eq_true_eq, decide_eq_true_eq]
  omega
/-- The list of sets, the list done, the list at work: each the call's own, pairwise apart. -/
structure GrtP (w : World) (B : Nat) (EO EI : TypeId) (o d p : Value) (out dl pl : List Nat) : Prop where
  ex : ∃ vs : List Value, vs.length = out.length ∧ Own w B EO 1 o out.length vs ∧ ∀ i (h : i < vs.length) (h2 : i < out.length), OwnB w B EI vs[i] out[i] ∧ Apart vs[i] o ∧ Apart vs[i] d ∧ Apart vs[i] p
  hd : Own w B EI 1 d dl.length ((natsI dl).map (.int .i64))
  hp : Own w B EI 1 p pl.length ((natsI pl).map (.int .i64))
  ado : Apart d o
  apo : Apart p o
  apd : Apart p d
theorem GrtP.below {w w' : World} {B : Nat} {EO EI : TypeId} {o d p : Value} {out dl pl : List Nat} (h : GrtP w B EO EI o d p out dl pl) (hb : Below w.heap.size w w') : GrtP w' B EO EI o d p out dl pl := by
  obtain ⟨vs, h1, h2, h3⟩ := h.ex
  exact ⟨⟨vs, h1, h2.below hb (Nat.le_refl _), fun i hi hi2 => ⟨(h3 i hi hi2).1.below hb (Nat.le_refl _), (h3 i hi hi2).2⟩⟩, h.hd.below hb (Nat.le_refl _), h.hp.below hb (Nat.le_refl _), h.ado, h.apo, h.apd⟩
theorem apart_mv {w M : World} {B : Nat} {E : TypeId} {size n : Nat} {xs : List Value} {a b b' : Value} (h : Apart a b) (ha : Own w B E size a n xs) (hM : w.heap.size ≤ M.heap.size) (hm : Moved M b b') : Apart a b' := (Apart.moved h.symm ha hM hm).symm
theorem GrtP.fresh {w : World} {B : Nat} {EO EI : TypeId} {o d p : Value} {out dl pl : List Nat} (h : GrtP w B EO EI o d p out dl pl) (hB : B ≤ w.heap.size) : GrtP (w.alloc (.cells #[] EI)) B EO EI o d (.slice (some ⟨w.heap.size, 0, none⟩) 0 0) out dl [] := by
  have hb : Below w.heap.size w (w.alloc (.cells #[] EI)) := (Below.refl _ _).alloc (Nat.le_refl _) _
  have hl : ∀ {v : Value} {E : TypeId} {n : Nat} {xs : List Value}, Own w B E 1 v n xs → Apart v (.slice (some ⟨w.heap.size, 0, none⟩) 0 0) := fun ho k hk e => by
    have := (ho.lt k hk).2
    simp [Value.ownBlock] at e; omega
  obtain ⟨vs, h1, h2, h3⟩ := h.ex
  refine ⟨⟨vs, h1, h2.below hb (Nat.le_refl _), fun i hi hi2 => ⟨(h3 i hi hi2).1.below hb (Nat.le_refl _), (h3 i hi hi2).2.1, (h3 i hi hi2).2.2.1, hl (h3 i hi hi2).1⟩⟩, h.hd.below hb (Nat.le_refl _), ?_, h.ado, (hl h2).symm, (hl h.hd).symm⟩
  have := World.ownsRow_lit (base := B) (e := EI) (size := 1) w #[] 0 hB (by unfold maxLen; omega) rfl
  simpa [Own, natsI] using this
theorem GrtP.part {w w' M : World} {B : Nat} {EO EI : TypeId} {o d p p' : Value} {out dl pl : List Nat} {x : Nat} (h : GrtP w B EO EI o d p out dl pl) (ho : Own w' B EI 1 p' (pl.length + 1) ((natsI pl).map (.int .i64) ++ [.int .i64 (x : Int)])) (hk : KeptBut w w' p.ownBlock) (hm : Moved M p p') (hM : w.heap.size ≤ M.heap.size) : GrtP w' B EO EI o d p' out dl (pl ++ [x]) := by
  obtain ⟨vs, h1, h2, h3⟩ := h.ex
  refine ⟨⟨vs, h1, Own.kept h2 hk (fun k h1 h2 => h.apo k h2 h1), fun i hi hi2 => ⟨Own.kept (h3 i hi hi2).1 hk (fun k a b => (h3 i hi hi2).2.2.2 k a b), (h3 i hi hi2).2.1, (h3 i hi hi2).2.2.1, apart_mv (h3 i hi hi2).2.2.2 (h3 i hi hi2).1 hM hm⟩⟩, Own.kept h.hd hk (fun k a b => h.apd k b a), by simpa [natsI] using ho, h.ado, (apart_mv h.apo.symm h2 hM hm).symm, (apart_mv h.apd.symm h.hd hM hm).symm⟩
theorem GrtP.did {w w' M : World} {B : Nat} {EO EI : TypeId} {o d p d' : Value} {out dl pl : List Nat} {x : Nat} (h : GrtP w B EO EI o d p out dl pl) (ho : Own w' B EI 1 d' (dl.length + 1) ((natsI dl).map (.int .i64) ++ [.int .i64 (x : Int)])) (hk : KeptBut w w' d.ownBlock) (hm : Moved M d d') (hM : w.heap.size ≤ M.heap.size) : GrtP w' B EO EI o d' p out (dl ++ [x]) pl := by
  obtain ⟨vs, h1, h2, h3⟩ := h.ex
  refine ⟨⟨vs, h1, Own.kept h2 hk (fun k h1 h2 => h.ado k h2 h1), fun i hi hi2 => ⟨Own.kept (h3 i hi hi2).1 hk (fun k a b => (h3 i hi hi2).2.2.1 k a b), (h3 i hi hi2).2.1, apart_mv (h3 i hi hi2).2.2.1 (h3 i hi hi2).1 hM hm, (h3 i hi hi2).2.2.2⟩⟩, by simpa [natsI] using ho, Own.kept h.hp hk (fun k a b => h.apd k a b), (apart_mv h.ado.symm h2 hM hm).symm, h.apo, apart_mv h.apd h.hp hM hm⟩
theorem GrtP.push {w w' M : World} {B : Nat} {EO EI : TypeId} {o d p o' : Value} {out dl pl : List Nat} {vs : List Value} {m : Nat} (h1 : vs.length = out.length) (h2 : Own w B EO 1 o out.length vs) (h3 : ∀ i (h : i < vs.length) (h2 : i < out.length), OwnB w B EI vs[i] out[i] ∧ Apart vs[i] o ∧ Apart vs[i] d ∧ Apart vs[i] p)
    (hd : Own w B EI 1 d dl.length ((natsI dl).map (.int .i64))) (hp : Own w B EI 1 p pl.length ((natsI pl).map (.int .i64))) (hpm : pl = bitsN m) (ado : Apart d o) (apo : Apart p o) (apd : Apart p d) (ho : Own w' B EO 1 o' (out.length + 1) (vs ++ [p])) (hk : KeptBut w w' o.ownBlock) (hm : Moved M o o') (hM : w.heap.size ≤ M.heap.size) : GrtP w' B EO EI o' d (.slice none 0 0) (out ++ [m]) dl [] := by
  have hn : ∀ v : Value, Apart v (.slice none 0 0) := fun v k _ e => by simp [Value.ownBlock] at e
  refine ⟨⟨vs ++ [p], by simp [h1], by simpa using ho, fun i hi hi2 => ?_⟩, Own.kept hd hk (fun k a b => ado k a b), by simpa [natsI] using Own.nil w' B EI 1, apart_mv ado hd hM hm, (hn _).symm, (hn _).symm⟩
  by_cases e : i < vs.length
  · have e2 : i < out.length := by omega
    rw [List.getElem_append_left e, List.getElem_append_left e2]
    have h := h3 i e e2
    exact ⟨Own.kept h.1 hk (fun k a b => h.2.1 k a b), apart_mv h.2.1 h.1 hM hm, h.2.2.1, hn _⟩
  · have e3 : i = vs.length := by simp at hi; omega
    subst e3
    rw [List.getElem_append_right (Nat.le_refl _), List.getElem_append_right (by omega)]
    simp only [Nat.sub_self, List.getElem_cons_zero, h1]
    refine ⟨?_, apart_mv apo hp hM hm, apd, hn _⟩
    have := Own.kept hp hk (fun k a b => apo k a b)
    unfold OwnB
    rw [bits_natsIG, ← hpm, natsI_len]
    exact this
theorem GrtP.rows {w : World} {B : Nat} {EO EI : TypeId} {o d p : Value} {out dl pl : List Nat} (h : GrtP w B EO EI o d p out dl pl) (hn : out.length ≤ 9223372036854775807) : SlR (fun b => B ≤ b) w o (out.map bitsI) := by
  obtain ⟨vs, h1, h2, h3⟩ := h.ex
  have hr : RowsTo (fun b => B ≤ b) w vs (out.map bitsI) := ⟨by simp; omega, fun i hi hi2 => by
    have := (h3 i hi (by simpa using hi2)).1
    rw [List.getElem_map]
    exact this.ints.weak (fun b hb => Own.ge this b hb)⟩
  have := hr.rows (E := EO) (n := out.length) (by simp [h1]) (fun b hb => h2.ge b hb) h2 hn
  exact this
set_option maxRecDepth 100000 in
set_option maxHeartbeats 8000000 in
theorem l17Greatest_any {S S' : Nat → Prop} {v u : Value} {g : List (List Int)} {s : Nat} {w : World} (hg : GOk g) (hp : PrimeS g s) (hv : SlR S w v g) (hu : SlI S' w .i64 u (bitsI s)) :
    Calls Tryd.prog 175 #[.agg #[v], u] w fun e w' => ∃ x, e = .returned x ∧ SlR (fun b => w.heap.size ≤ b) w' x ((grtN g s).map bitsI) ∧ Below w.heap.size w w' := by
  have h16 := hg.hi
  have hsn := hp.lt
  have hs32 := Nat.lt_trans hsn (pow16_lt h16)
  have hq0 : Below w.heap.size w (w.alloc (.cells #[v] 29)) := (Below.refl _ _).alloc (Nat.le_refl _) _
  have HRI := Lib.hid (rise_bits hsn h16)
  have hcl := fun (W : World) (t : Value) (S2 : Nat → Prop) (hb : Below w.heap.size w W) (x y : Nat) (hx : s.testBit x = true) (hy : s.testBit y = true) (ht : SlI S2 W .i64 t (bitsI (bit y ||| bit x))) => l17ClosureW_any v u t g (bitsI s) (pairI (y : Int) (x : Int)) W hg HRI.out (pairI_sorted _ _) (pair_in ((mem_bitsI hs32).2 ⟨by omega, by simpa using hy⟩) ((mem_bitsI hs32).2 ⟨by omega, by simpa using hx⟩)) (hv.below hb (Nat.le_refl _)) (hu.below hb (Nat.le_refl _)) (by rw [← pair_bits (bit_lt_of (n := 32) hs32 hx) (bit_lt_of (n := 32) hs32 hy)]; exact ht)
  have HCL := Lib.hid hcl
  have HP := Lib.hid hp
  have HG := Lib.hid hg
  have HDN := Lib.hid (fun out D (h : GrtI g s out D) => h.done hs32)
  have HNX := Lib.hid (fun out D v (h : GrtI g s out D) => h.next (v := v) HG.out HP.out hs32)
  have H0 := Lib.hid (GrtI.start (g := g) hs32)
  clear hcl hg hp
  obtain ⟨va, vc, rfl⟩ := hv.slice
  obtain ⟨ub, uo, ucap, hue, huc0⟩ := hu.at_
  obtain ⟨ua, uc, rfl⟩ := hu.slice
  have hbl := bitsI_lenN s
  have hb32 := bitsI_len s
  rw [hbl] at hue HCL ⊢
  have HBL := Lib.hid hbl
  have hsl : (bitsN s).length ≤ 32 := by omega
  have hcel : ∀ k (hk : k < (bitsN s).length), w.cell? ⟨ub, uo + k, none⟩ = some (.int .i64 ((bitsN s)[k] : Int)) := fun k hk => by rw [huc0 k (by omega), bitsI_get]
  have HCEL := Lib.hid hcel
  have hq1 := (hq0.alloc hq0.size (.cells #[] 26)).alloc (by simp; omega) (.cells #[] 2)
  have hlit : GrtP (((w.alloc (.cells #[.slice va g.length vc] 29)).alloc (.cells #[] 26)).alloc (.cells #[] 2)) (w.heap.size + 1) 26 2 (.slice (some ⟨w.heap.size + 1, 0, none⟩) 0 0) (.slice (some ⟨w.heap.size + 1 + 1, 0, none⟩) 0 0) (.slice none 0 0) [] [] [] := by
    have h1 := World.ownsRow_lit (base := w.heap.size + 1) (e := 26) (size := 1) (w.alloc (.cells #[.slice va g.length vc] 29)) #[] 0 (by first | (simp; done) | (simp; omega)) (by unfold maxLen; omega) rfl
    have h2 := World.ownsRow_lit (base := w.heap.size + 1) (e := 2) (size := 1) ((w.alloc (.cells #[.slice va g.length vc] 29)).alloc (.cells #[] 26)) #[] 0 (by first | (simp; done) | (simp; omega)) (by unfold maxLen; omega) rfl
    have h3 := Own.alloc (show Own _ _ _ _ _ _ _ from h1) (.cells #[] 2)
    exact ⟨⟨[], rfl, by simpa using h3, fun i h => by simp at h⟩, by simpa [Own, natsI] using h2, by simpa [natsI] using Own.nil _ _ _ _, fun k a b => by simp [Value.ownBlock] at a b; omega, fun k a b => by simp [Value.ownBlock] at a, fun k a b => by simp [Value.ownBlock] at a⟩
  have hBE : ∀ i, s.testBit i = true → i ∈ bitsN s := fun i hi => (mem_bitsN hs32).2 hi
  have HBE := Lib.hid hBE
  have HBS := Lib.hid (fun i (hi : i ∈ bitsN s) => (mem_bitsN hs32).1 hi)
  have HSO := Lib.hid (bitsN_sorted s)
  have HMDA := Lib.hid (fun y => md_all (g := g) (v := y) hs32)
  generalize hL : bitsN s = L at *
  have HLE := Lib.hid hL
  clear hL hbl huc0 hBE hcel
  go_enter Tryd.func175, Tryd.ntmps175
  go_wp2
  go_loopw [5, 6, 7] (fun o d i wr => ∃ (k D : Nat) (out dl : List Nat), i = .int .i64 k ∧ k ≤ L.length ∧ RowKit.Hid (GrtI g s out D) ∧ RowKit.Hid (∀ j (h : j < L.length), j < k → D.testBit L[j] = true) ∧ RowKit.Hid (∀ x, D.testBit x = true ↔ x ∈ dl) ∧ dl.length ≤ 32 * k ∧ GrtP wr (w.heap.size + 1) 26 2 o d (.slice none 0 0) out dl [] ∧ Below w.heap.size w wr ∧ wr.cell? ⟨w.heap.size, 0, none⟩ = some (.slice va g.length vc)) (fun _ _ i _ => L.length - (intOf i).toNat)
  case atStart => exact ⟨0, 0, [], [], rfl, Nat.zero_le _, H0, Lib.hid (fun j h hj => by omega), Lib.hid (fun x => by simp), by simp, hlit, hq1, by simp [go_sem]⟩
  case round =>
    clear hlit hq1 hq0 H0
    obtain ⟨k, D, out, dl, rfl, hk, HI, HM, HDL, hdl, hpw, hq, hbx⟩ := hrel
    obtain ⟨wi, rfl⟩ : ∃ wi : World, wi = wr := ⟨_, rfl⟩
    have hB := hq.size
    have hB2 : w.heap.size + 1 ≤ wi.heap.size := cell_lt hbx
    have hpl := HI.out.len
    obtain ⟨vs, v1, v2, v3⟩ := hpw.ex
    obtain ⟨oa, oc, rfl⟩ := v2.isSlice
    obtain ⟨da, dc, rfl⟩ := hpw.hd.isSlice
    by_cases hlt : k < L.length
    case neg =>
      have hF := HDN.out out D HI.out (fun i hi => by
        obtain ⟨j, hj, rfl⟩ := List.getElem_of_mem (HBE.out i hi)
        exact HM.out j hj (by omega))
      have HF := Lib.hid hF
      clear hF HDN HNX
      have hrw := hpw.rows (by omega)
      obtain ⟨oa', oc', hoe⟩ := hrw.slice
      go_wp2
      go_ret
      exact ⟨_, rfl, by rw [← HF.out]; exact hrw.weak (fun b hb => by omega), hq⟩
    have hyb := HBS.out _ (List.getElem_mem hlt)
    have hy32 := bit_lt_of (n := 32) hs32 hyb
    have hc0 := HCEL.out k hlt
    have hcell := (hq.cell (cell_lt hc0)).trans hc0
    have hue2 := hue (by omega)
    simp only [Value.slice.injEq] at hue2
    obtain ⟨rfl, -, rfl⟩ := hue2
    have hhas := l1Has_any _ (natsI dl) (L[k] : Int) wi (hpw.hd.ints (xs := natsI dl) (by omega))
    have hmem : decide ((L[k] : Int) ∈ natsI dl) = D.testBit L[k] := by
      rw [Bool.eq_iff_iff, decide_eq_true_eq, HDL.out, natsI, List.mem_map]
      exact ⟨fun ⟨a, ha, e⟩ => (show a = L[k] by have e' : (a : Int) = (L[k] : Int) := e; omega) ▸ ha, fun h => ⟨_, h, rfl⟩⟩
    rw [hmem] at hhas
    have HNXT := Lib.hid (fun (hn : D.testBit L[k] = false) => HNX.out out D L[k] HI.out hyb hn (fun i hi hik => by
      obtain ⟨j, hj, rfl⟩ := List.getElem_of_mem (HBE.out i hi)
      refine HM.out j hj ?_
      apply Nat.lt_of_not_le
      intro hkj
      by_cases e : k = j
      · subst e; omega
      · have := List.pairwise_iff_getElem.1 HSO.out k j hlt hj (by omega); omega))
    have HMX := Lib.hid (fun (D' : Nat) (h1 : ∀ i, D.testBit i = true → D'.testBit i = true) (h2 : D'.testBit L[k] = true) => (show ∀ j (h : j < L.length), j < k + 1 → D'.testBit L[j] = true from fun j hj hjk => by
      by_cases e : j = k
      · subst e; exact h2
      · exact h1 _ (HM.out j hj (by omega))))
    clear hmem
    cases hDy : D.testBit L[k]
    case true =>
      rw [hDy] at hhas
      have HX := Lib.hid (HMX.out D (fun _ h => h) hDy)
      clear HNXT HMX hDy
      generalize L[k] = y at *
      go_wp2_with (go_at_call 104; (with_reducible refine hhas.mono ?_); rintro e w' ⟨rfl, rfl⟩)
      go_roundw
      case rel => exact ⟨k + 1, D, out, dl, by go_num, by omega, HI, HX, HDL, by omega, hpw, hq, hbx⟩
      case measure => simp [intOf]; omega
    rw [hDy] at hhas
    have HNI := Lib.hid (HNXT.out hDy)
    have hR32 := mdM_lt (g := g) (v := L[k]) hs32
    have HX := Lib.hid (HMX.out (D ||| mdM g s L[k]) (fun i h => by rw [Nat.testBit_or, h]; rfl) (by rw [Nat.testBit_or, mdM_self hs32 hyb]; simp))
    have HYB := Lib.hid hyb
    clear HNXT HMX hDy hyb HM HI
    generalize L[k] = y at *
    have hpf := hpw.fresh hB2
    have hbf : Below wi.heap.size wi (wi.alloc (.cells #[] 2)) := (Below.refl _ _).alloc (Nat.le_refl _) _
    have hqf := hq.trans (hbf.mono hB)
    have hxf := (hbf.cell (cell_lt hbx)).trans hbx
    go_wp2_with (go_at_call 104; (with_reducible refine hhas.mono ?_); rintro e w' ⟨rfl, rfl⟩)
    generalize wi.alloc (.cells #[] 2) = w2 at hpf hqf hxf ⊢
    clear hpw hq hbx hbf v1 v2 v3 hB hB2 hhas
    have hqfs := hqf.size
    have hB2 : w.heap.size + 1 ≤ w2.heap.size := cell_lt hxf
    go_loopw [8, 6, 9] (fun pv dv iv wr => ∃ j : Nat, iv = .int .i64 j ∧ j ≤ L.length ∧ GrtP wr (w.heap.size + 1) 26 2 (.slice oa out.length oc) dv pv out (dl ++ (L.take j).filter fun x => (mdM g s y).testBit x) ((L.take j).filter fun x => (mdM g s y).testBit x) ∧ Below w.heap.size w wr ∧ wr.cell? ⟨w.heap.size, 0, none⟩ = some (.slice va g.length vc)) (fun _ _ iv _ => L.length - (intOf iv).toNat)
    case atStart => exact ⟨0, rfl, Nat.zero_le _, by simpa using hpf, hqf, hxf⟩
    case round =>
      clear hpf hqf hxf hB2
      obtain ⟨j, rfl, hj, hgp, hqj, hxj⟩ := hrel
      obtain ⟨wj, rfl⟩ : ∃ wj : World, wj = wr := ⟨_, rfl⟩
      have hB2 : w.heap.size + 1 ≤ wj.heap.size := cell_lt hxj
      have hBj := hqj.size
      have hfl : ((L.take j).filter fun x => (mdM g s y).testBit x).length ≤ j := Nat.le_trans (List.length_filter_le _ _) (by rw [List.length_take]; omega)
      by_cases hjl : j < L.length
      case neg =>
        obtain rfl : j = L.length := by omega
        have hma := HMDA.out y
        rw [List.take_length] at hgp hfl
        have hdl2 : (dl ++ L.filter fun x => (mdM g s y).testBit x).length ≤ 32 * (k + 1) := by rw [List.length_append]; omega
        have HDL2 := Lib.hid (show ∀ x, (D ||| mdM g s y).testBit x = true ↔ x ∈ dl ++ L.filter fun x => (mdM g s y).testBit x from fun x => by
          rw [Nat.testBit_or, Bool.or_eq_true, HDL.out, List.mem_append, hma, mem_bitsN hR32])
        generalize (L.filter fun x => (mdM g s y).testBit x) = pl at *
        generalize dl ++ pl = dp at *
        obtain ⟨vs, v1, v2, v3⟩ := hgp.ex
        have hgd := hgp.hd
        have hgP := hgp.hp
        obtain ⟨pa, pc, rfl⟩ := hgP.isSlice
        obtain ⟨da2, dc2, rfl⟩ := hgd.isSlice
        have HG1 := Lib.hid (⟨hgp.ado, hgp.apo, hgp.apd⟩ : _ ∧ _ ∧ _)
        have HMA := Lib.hid hma
        have HV3 := Lib.hid v3
        clear hma v3 hgp
        go_wp2_with (at_builtin; refine wpList_append1 elRows rfl _ _ rfl v2 rfl rfl rfl (by omega) hB2 ?_; intro o' w8 hown8 hkept hmv)
        have hq8 := hkept.below hqj hBj (fun b hb => by have := v2.ge b hb; omega)
        have hx8 := (World.cell?_of_block (a := ⟨w.heap.size, 0, none⟩) (hkept.2.2.2.2 w.heap.size (cell_lt hxj) (fun e => by have := v2.ge _ e.symm; omega))).trans hxj
        go_roundw
        case rel => exact ⟨k + 1, D ||| mdM g s y, out ++ [mdM g s y], dp, by go_num, by omega, HNI, HX, HDL2, hdl2, GrtP.push v1 v2 HV3.out hgd hgP HMA.out HG1.out.1 HG1.out.2.1 HG1.out.2.2 hown8 hkept hmv (by simp), hq8, hx8⟩
        case measure => simp [intOf]; omega
      have hzb := HBS.out _ (List.getElem_mem hjl)
      have hz32 := bit_lt_of (n := 32) hs32 hzb
      have hz0 := HCEL.out j hjl
      have hcz := (hqj.cell (cell_lt hz0)).trans hz0
      have hcy := (hqj.cell (cell_lt hc0)).trans hc0
      have hcp := clos_pair HP.out hs32 HYB.out hzb
      have hclen := clos_len (g := g) (I := bitsI s) (s := pairI (y : Int) (L[j] : Int)) (bitsI_sorted s)
      have hmt := md_take (g := g) (s := s) (v := y) hjl
      have hclz := fun (W : World) (t : Value) (hb : Below w.heap.size w W) (ht : SlI (fun b => t.ownBlock = some b) W .i64 t (bitsI (bit y ||| bit L[j]))) => HCL.out W t _ hb L[j] y hzb HYB.out ht
      rw [HBL.out] at hclen
      have HCP := Lib.hid (hclen.trans hcp)
      have HMT := Lib.hid hmt
      have HCZ := Lib.hid hclz
      have hdpl : (dl ++ (L.take j).filter fun x => (mdM g s y).testBit x).length ≤ 32 * k + j := by rw [List.length_append]; omega
      clear hmt
      generalize hple : ((L.take j).filter fun x => (mdM g s y).testBit x) = pl at *
      generalize hdpe : dl ++ pl = dp at *
      have HPLE := Lib.hid hple
      have HDPE := Lib.hid hdpe
      clear hple hdpe
      obtain ⟨pa, pc, rfl⟩ := hgp.hp.isSlice
      obtain ⟨da2, dc2, rfl⟩ := hgp.hd.isSlice
      have hz0_ := hz0
      clear hcp hclen hclz hzb hz0
      generalize L[j] = z at *
      go_wp2
      refine wp_region_held_drew (S := (fun w' => w'.cell? ⟨ub, uo + k, none⟩ = some (.int .i64 (y : Int)) ∧ w'.cell? ⟨ub, uo + j, none⟩ = some (.int .i64 (z : Int)))) (by kernel_rfl) ?_ (fun hHeld => ?_)
      · first | exact ⟨‹_›, ‹_›⟩ | (simp [*, go_sem])
      have hbd : Below wj.heap.size wj wj.drew := (Below.refl _ _).drew
      generalize wj.drew = wd at hbd hHeld ⊢
      obtain ⟨c3, c4⟩ := hHeld
      have hHeld : (fun w' => World.cell? w' ⟨ub, uo + k, none⟩ = some (.int .i64 (y : Int)) ∧ World.cell? w' ⟨ub, uo + j, none⟩ = some (.int .i64 (z : Int))) wd := ⟨c3, c4⟩
      refine wpAnyH_take (i := 0) (v := ?v1) (by simp only [List.getElem?_toArray, List.getElem?_cons_zero]; exact rfl) (by kernel_rfl) (by kernel_rfl) (by kernel_rfl) (by intro _ _ _ h; exact h) (Or.inl ⟨by rfl, ?y1⟩) hHeld ?_
      case y1 => (intro w hSw; (try dsimp only at hSw); go_simp; try (with_reducible rfl))
      try simp only [Act.put, List.setIfInBounds_toArray, List.set_cons_zero, List.set_cons_succ]
      refine wpAnyH_take (i := 1) (v := ?v2) (by simp only [List.getElem?_toArray, List.getElem?_cons_succ, List.getElem?_cons_zero]; exact rfl) (by kernel_rfl) (by kernel_rfl) (by kernel_rfl) (by intro _ _ _ h; exact h) (Or.inl ⟨by rfl, ?y2⟩) hHeld ?_
      case y2 => (intro w hSw; (try dsimp only at hSw); go_simp; try (with_reducible rfl))
      try simp only [Act.put, List.setIfInBounds_toArray, List.set_cons_zero, List.set_cons_succ]
      refine wpAnyH_take (i := 2) (v := ?v3) (by simp only [List.getElem?_toArray, List.getElem?_cons_succ, List.getElem?_cons_zero]; exact rfl) (by kernel_rfl) (by kernel_rfl) (by kernel_rfl) (by intro _ _ _ h; exact h) (Or.inl ⟨by rfl, ?y3⟩) hHeld ?_
      case y3 => (intro w hSw; (try dsimp only at hSw); go_simp; try (with_reducible rfl))
      try simp only [Act.put, List.setIfInBounds_toArray, List.set_cons_zero, List.set_cons_succ]
      refine wpAnyH_take (i := 3) (v := ?v4) (by simp only [List.getElem?_toArray, List.getElem?_cons_succ, List.getElem?_cons_zero]; exact rfl) (by kernel_rfl) (by kernel_rfl) (by kernel_rfl) (by intro _ _ _ h; exact h) (Or.inl ⟨by rfl, ?y4⟩) hHeld ?_
      case y4 => (intro w hSw; (try dsimp only at hSw); go_simp; try (with_reducible rfl))
      try simp only [Act.put, List.setIfInBounds_toArray, List.set_cons_zero, List.set_cons_succ]
      refine wpAnyH_take (i := 5) (v := ?v5) (by simp only [List.getElem?_toArray, List.getElem?_cons_succ, List.getElem?_cons_zero]; exact rfl) (by kernel_rfl) (by kernel_rfl) (by kernel_rfl) (by intro _ _ _ h; exact h) (Or.inl ⟨by rfl, ?y5⟩) hHeld ?_
      case y5 => (intro w hSw; (try dsimp only at hSw); go_simp; try (with_reducible rfl))
      try simp only [Act.put, List.setIfInBounds_toArray, List.set_cons_zero, List.set_cons_succ]
      refine wpAnyH_take (i := 6) (v := ?v6) (by simp only [List.getElem?_toArray, List.getElem?_cons_succ, List.getElem?_cons_zero]; exact rfl) (by kernel_rfl) (by kernel_rfl) (by kernel_rfl) (by intro _ _ _ h; exact h) (Or.inl ⟨by rfl, ?y6⟩) hHeld ?_
      case y6 => (intro w hSw; (try dsimp only at hSw); go_simp; try (with_reducible rfl))
      try simp only [Act.put, List.setIfInBounds_toArray, List.set_cons_zero, List.set_cons_succ]
      refine wpAnyH_take (i := 7) (v := ?v7) (by simp only [List.getElem?_toArray, List.getElem?_cons_succ, List.getElem?_cons_zero]; exact rfl) (by kernel_rfl) (by kernel_rfl) (by kernel_rfl) (by intro _ _ _ h; exact h) (Or.inl ⟨by rfl, ?y7⟩) hHeld ?_
      case y7 => (intro w hSw; (try dsimp only at hSw); go_simp; try (with_reducible rfl))
      try simp only [Act.put, List.setIfInBounds_toArray, List.set_cons_zero, List.set_cons_succ]
      refine wpAnyH_take (i := 8) (v := ?v8) (by simp only [List.getElem?_toArray, List.getElem?_cons_succ, List.getElem?_cons_zero]; exact rfl) (by kernel_rfl) (by kernel_rfl) (by kernel_rfl) (by intro _ _ _ h; exact h) (Or.inl ⟨by rfl, ?y8⟩) hHeld ?_
      case y8 => (intro w hSw; (try dsimp only at hSw); go_simp; try (with_reducible rfl))
      try simp only [Act.put, List.setIfInBounds_toArray, List.set_cons_zero, List.set_cons_succ]
      refine wpAnyH_ready (rs := [4]) (by kernel_rfl) (by simp) ?_
      refine AllReadyH.cons (by simp only [List.getElem?_toArray, List.getElem?_cons_succ, List.getElem?_cons_zero]; exact rfl) (fun K hK => ?_) AllReadyH.nil
      go_simp
      have hbn : Below wd.heap.size wd (wd.alloc (.cells #[.int .i64 (y : Int)] 2)) := (Below.refl _ _).alloc (Nat.le_refl _) _
      have hpo : Own (wd.alloc (.cells #[.int .i64 (y : Int)] 2)) wj.heap.size 2 1 (.slice (some ⟨wd.heap.size, 0, none⟩) 1 1) 1 [.int .i64 (y : Int)] := World.ownsRow_lit (base := wj.heap.size) (e := 2) (size := 1) wd #[.int .i64 (y : Int)] 1 hbd.size (by unfold maxLen; omega) rfl
      generalize (wd.alloc (.cells #[.int .i64 (y : Int)] 2)) = wn at hbn hpo ⊢
      generalize wd.heap.size = pb at hpo ⊢
      have hbd := hbd.trans (hbn.mono hbd.size)
      have c3 := (hbn.cell (cell_lt c3)).trans c3
      have c4 := (hbn.cell (cell_lt c4)).trans c4
      obtain ⟨wd, rfl⟩ : ∃ wx : World, wx = wn := ⟨_, rfl⟩
      try dsimp only
      refine hK.out _ _ ?h10 (fun hHeld => ?_)
      case h10 => first | exact ⟨‹_›, ‹_›⟩ | (simp [*, go_sem])
      clear hK K
      try simp only [Act.put, List.setIfInBounds_toArray, List.set_cons_zero, List.set_cons_succ]
      refine wpAnyH_ready (rs := [9]) (by kernel_rfl) (by simp) ?_
      refine AllReadyH.cons (by simp only [List.getElem?_toArray, List.getElem?_cons_succ, List.getElem?_cons_zero]; exact rfl) (fun K hK => ?_) AllReadyH.nil
      go_simp
      have hob : OwnB wd wj.heap.size 2 (.slice (some ⟨pb, 0, none⟩) 1 1) (bit y) := (by unfold OwnB; rw [bitsI_bit hy32]; exact hpo)
      (with_reducible refine (intoB_any hob hbd.size (bit_lt hy32) hz32).mono ?_)
      rintro e wn ⟨t, rfl, ht, hbn⟩
      have hbd := hbd.trans (hbn.mono hbd.size)
      have c3 := (hbn.cell (cell_lt c3)).trans c3
      have c4 := (hbn.cell (cell_lt c4)).trans c4
      try dsimp only
      refine hK.out _ _ ?h12 (fun hHeld => ?_)
      case h12 => first | exact ⟨‹_›, ‹_›⟩ | (simp [*, go_sem])
      clear hK K
      try simp only [Act.put, List.setIfInBounds_toArray, List.set_cons_zero, List.set_cons_succ]
      refine wpAnyH_take (i := 10) (v := ?v13) (by simp only [List.getElem?_toArray, List.getElem?_cons_succ, List.getElem?_cons_zero]; exact rfl) (by kernel_rfl) (by kernel_rfl) (by kernel_rfl) (by intro _ _ _ h; exact h) (Or.inl ⟨by rfl, ?y13⟩) hHeld ?_
      case y13 => (intro w hSw; (try dsimp only at hSw); go_simp; try (with_reducible rfl))
      try simp only [Act.put, List.setIfInBounds_toArray, List.set_cons_zero, List.set_cons_succ]
      refine wpAnyH_done (by kernel_rfl) ?_ _
      have hqn := hqj.trans (hbd.mono hBj)
      have hgn := hgp.below hbd
      have hxn := (hbd.cell (cell_lt hxj)).trans hxj
      have hqns := hqn.size
      have hcl2 := HCZ.out wn t hqn ht.ints
      obtain ⟨ta, tc, rfl⟩ := ht.isSlice
      clear hgp hbd hxj hqj HCZ ht hbn hob
      go_wp2_with fail
      refine hcl2.mono ?_
      rintro e w5 ⟨x, rfl, hx5, hb5⟩
      have hq5 := hqn.trans (hb5.mono hqns)
      have hg5 := hgn.below hb5
      have hbx5 := (hb5.cell (cell_lt hxn)).trans hxn
      have hq5s := hq5.size
      have c35 := (hb5.cell (cell_lt c3)).trans c3
      have c45 := (hb5.cell (cell_lt c4)).trans c4
      have hB5 : w.heap.size + 1 ≤ w5.heap.size := cell_lt hbx5
      obtain ⟨xa, xc, rfl⟩ := hx5.isSlice
      clear hcl2 hgn hxn hqn hqns hb5 hx5 c3 c4
      have hcc := HCP.out
      have hxl : (closW g (bitsI s) (pairI (y : Int) (z : Int))).length ≤ 32 := Nat.le_trans (List.length_filter_le _ _) (by rw [HBL.out]; exact hsl)
      generalize (closW g (bitsI s) (pairI (y : Int) (z : Int))).length = cl at *
      cases hmb : (mdM g s y).testBit z with
      | false =>
        have hn : ¬ cl < L.length := fun h => by have := hcc.1 h; rw [hmb] at this; cases this
        have hd1 : decide ((cl : Int) < (L.length : Int)) = false := decide_eq_false (by omega)
        have hd2 : decide (cl < L.length) = false := decide_eq_false hn
        have hmt := HMT.out
        rw [hmb, if_neg (by simp), List.append_nil] at hmt
        have HPL2 := Lib.hid hmt
        clear hcc hn hmt HMT HCP hmb
        go_wp2
        go_roundw
        case rel => exact ⟨j + 1, by go_num, by omega, by rw [HPL2.out, HDPE.out]; exact hg5, hq5, hbx5⟩
        case measure => simp [intOf]; omega
      | true =>
        have hn : cl < L.length := hcc.2 hmb
        have hd1 : decide ((cl : Int) < (L.length : Int)) = true := decide_eq_true (by omega)
        have hd2 : decide (cl < L.length) = true := decide_eq_true hn
        have hmt := HMT.out
        rw [hmb, if_pos rfl] at hmt
        have HPL2 := Lib.hid hmt
        have HDP2 := Lib.hid (show dl ++ (pl ++ [z]) = dp ++ [z] by rw [← List.append_assoc, HDPE.out])
        clear hcc hn hmt HMT HCP hmb
        go_wp2_with (first | (at_builtin; refine wpList_append1 elI64 rfl _ _ rfl hg5.hp rfl rfl rfl (by omega) hB5 ?_; intro p' w8 hown8 hk8 hm8; have hg8 := hg5.part hown8 hk8 hm8 (by simp); have hq8 := hk8.below hq5 hq5s (fun b hb => by have := hg5.hp.ge b hb; omega); have hx8 := (World.cell?_of_block (a := ⟨w.heap.size, 0, none⟩) (hk8.2.2.2.2 w.heap.size (cell_lt hbx5) (fun e => by have := hg5.hp.ge _ e.symm; omega))).trans hbx5; have c48 := (World.cell?_of_block (a := ⟨ub, uo + j, none⟩) (hk8.2.2.2.2 ub (cell_lt c45) (fun e => by have := hg5.hp.ge _ e.symm; have := cell_lt hz0_; simp at this; omega))).trans c45; have hB8 : w.heap.size + 1 ≤ w8.heap.size := cell_lt hx8; have hq8s := hq8.size) | (at_builtin; refine wpList_append1 elI64 rfl _ _ rfl hg8.hd rfl rfl rfl (by omega) hB8 ?_; intro d' w9 hown9 hk9 hm9; have hg9 := hg8.did hown9 hk9 hm9 (by simp); have hq9 := hk9.below hq8 hq8s (fun b hb => by have := hg8.hd.ge b hb; omega); have hx9 := (World.cell?_of_block (a := ⟨w.heap.size, 0, none⟩) (hk9.2.2.2.2 w.heap.size (cell_lt hx8) (fun e => by have := hg8.hd.ge _ e.symm; omega))).trans hx8))
        go_roundw
        case rel => exact ⟨j + 1, by go_num, by omega, by rw [HPL2.out, HDP2.out]; exact hg9, hq9, hx9⟩
        case measure => simp [intOf]; omega
end Go.Proofs.YthpbeiihlembnaaDoor
