/- The program's CliqueOrder. -/
import Derived.Test.YtpdlcnpmljfclaaDoorLinM
import Derived.Test.YtpdlcnpmljfclaaDoorSrt3
import Derived.Test.YtpdlcnpmljfclaaDoorDuo
import Derived.Test.YtpdlcnpmljfclaaDoorNet
import Derived.Maps.OwnSet
import Derived.Test.YtpdlcnpmljfclaaDoorPeo
namespace Go.Proofs.YtpdlcnpmljfclaaDoor
open Go.RowKit Go.Maps
theorem StepD.transC {a b c : World} {u v x : Value} (h : StepD a b u v) (k : StepD b c v x) : StepD a c u x := by
  refine ⟨⟨k.1.1.trans h.1.1, k.1.2.1.trans h.1.2.1, k.1.2.2.1.trans h.1.2.2.1, Nat.le_trans h.1.2.2.2.1 k.1.2.2.2.1, fun i hi hne => ?_⟩, fun i hi => ?_⟩
  · refine (k.1.2.2.2.2 i (Nat.lt_of_lt_of_le hi h.1.2.2.2.1) (fun e => ?_)).trans (h.1.2.2.2.2 i hi hne)
    rcases h.2 i e.symm with h2 | h2
    · exact hne h2.symm
    · omega
  · rcases k.2 i hi with h2 | h2
    · exact h.2 i h2
    · exact .inr (Nat.le_trans h.1.2.2.2.1 h2)
theorem StepD.reflC (w : World) (u : Value) : StepD w w u u := ⟨KeptBut.refl _ _, fun b hb => .inl hb⟩
theorem StepD.ofBelowC {w w' : World} (u : Value) (h : Below w.heap.size w w') : StepD w w' u u := ⟨⟨h.os, h.tape, h.output, h.size, fun k hk _ => h.block k hk⟩, fun b hb => .inl hb⟩
theorem StepD.toBelowC {w w' : World} {B : Nat} {u u' : Value} (h : StepD w w' u u') (hB : B ≤ w.heap.size) (hu : ∀ b, u.ownBlock = some b → B ≤ b) : Below B w w' := h.1.below (Below.refl _ _) hB hu
theorem natsI_appC (l m : List Nat) : natsI (l ++ m) = natsI l ++ natsI m := by simp [natsI]
theorem cellsC {w : World} {B : Nat} {E : TypeId} {ob n c : Nat} {xs : List Value} (h : Own w B E 1 (.slice (some ⟨ob, 0, none⟩) n c) n xs) : ∀ j (h : j < xs.length), w.cell? ⟨ob, j, none⟩ = some xs[j] := by
  obtain ⟨g, cap, h1, h2⟩ := h.slice
  rcases h1 with ⟨h1, _⟩ | ⟨h1, _, _, h3, h4⟩
  · cases h1
  · simp only [Value.slice.injEq, Option.some.injEq, Addr.mk.injEq] at h1
    obtain ⟨⟨rfl, _⟩, _, rfl⟩ := h1
    exact h2
theorem clqF_ne {H : List Nat} (hirr : ∀ v, (H.getD v 0).testBit v = false) : ∀ n c o, popN o < n → o < 4294967296 → clqF H n c o 0 ≠ []
  | 0, _, o, h, _ => by omega
  | n + 1, c, o, h, ho => by
    rw [clqF]
    by_cases h0 : o = 0
    · rw [if_pos h0, if_pos rfl]; simp
    · rw [if_neg h0]
      cases hl : bitsN o with
      | nil => exact absurd ((popN_zero ho).1 (by unfold popN; rw [hl]; rfl)) h0
      | cons v t =>
        rw [clqL, Nat.zero_and]
        intro e
        have e1 := (List.append_eq_nil_iff.1 e).1
        have hv : o.testBit v = true := (mem_bitsN ho).1 (by rw [hl]; simp)
        refine clqF_ne hirr n _ _ ?_ (and_ltC ho) e1
        have := popN_lt (a := o &&& H.getD v 0) (b := o) (i := v) ho (fun i hi => by rw [Nat.testBit_and, Bool.and_eq_true] at hi; exact hi.1) hv (by rw [Nat.testBit_and, hv, hirr v]; rfl)
        omega
theorem elVsC : Elem Tryd.prog 72 82 1 4 (.int .u32 0) := ⟨Tryd.underlying72, by kernel_rfl, rfl, by omega, by omega⟩
set_option maxRecDepth 100000 in
set_option maxHeartbeats 8000000 in
theorem growCliques_any {S : Nat → Prop} {nv : Value} {H : List Nat} {B : Nat} (hH : ∀ v, H.getD v 0 < 4294967296) (hirr : ∀ v, (H.getD v 0).testBit v = false) (hSB : ∀ b, S b → b < B) :
    ∀ (n c o x : Nat) (ms : List Nat) (ov : Value) (w : World), Tab w → 0 < B → B ≤ w.heap.size → SlI S w .u32 nv (natsI H) → popN o < n → c < 4294967296 → o < 4294967296 → x < 4294967296 → (∀ i, o.testBit i = true → i < H.length) → (ms ++ clqF H n c o x).length ≤ 100000 → Own w B 82 1 ov ms.length ((natsI ms).map (.int .u32)) →
      Calls Tryd.prog 113 #[nv, .int .u32 (c : Int), .int .u32 (o : Int), .int .u32 (x : Int), ov] w fun e w' => ∃ u, e = .returned u ∧ Own w' B 82 1 u (ms ++ clqF H n c o x).length ((natsI (ms ++ clqF H n c o x)).map (.int .u32)) ∧ StepD w w' ov u := by
  intro n
  induction n with
  | zero => intro c o x ms ov w _ _ _ _ hp; omega
  | succ n ih =>
    intro c o x ms ov w ht hB0 hBw hn hp hc ho hx hol hlen hown
    obtain ⟨va, vc, rfl⟩ := hn.slice
    obtain ⟨oa, oc, rfl⟩ := hown.isSlice
    by_cases h0 : o = 0
    · subst h0
      by_cases hx0 : x = 0
      · subst hx0
        have he : clqF H (n + 1) c 0 0 = [c] := by rw [clqF, if_pos rfl, if_pos rfl]
        have HE := Lib.hid he
        have hml : ms.length ≤ 99999 := by rw [he, List.length_append, List.length_singleton] at hlen; omega
        clear ih he hlen hp hol
        go_enter Tryd.func113, Tryd.ntmps113
        go_wp2_with (at_builtin; refine wpList_append1b elVsC rfl _ _ rfl hown rfl rfl rfl rfl (by omega) hBw ?_; intro v' w2 ho2 hk hm)
        go_ret
        refine ⟨_, rfl, ?_, ⟨hk, fun b hb => hm.elim (fun h => .inl (h.symm.trans hb)) (fun h => .inr (by have e := Option.some.inj (h.symm.trans hb); simp at e; omega))⟩⟩
        rw [HE.out, List.length_append, List.length_singleton, natsI_appC]
        simpa [natsI] using ho2
      · have he : clqF H (n + 1) c 0 x = [] := by rw [clqF, if_pos rfl, if_neg hx0]
        have HE := Lib.hid (show ms ++ clqF H (n + 1) c 0 x = ms by rw [he, List.append_nil])
        have hx1 : ((x : Int) == 0) = false := by rw [beq_eq_false_iff_ne]; omega
        have hx2 : ((x : Nat) == 0) = false := by rw [beq_eq_false_iff_ne]; exact hx0
        clear ih he hlen hp hol hx0
        go_enter Tryd.func113, Tryd.ntmps113
        go_wp2
        go_ret
        exact ⟨_, rfl, by rw [HE.out]; exact hown, StepD.reflC _ _⟩
    have he : clqF H (n + 1) c o x = clqL (clqF H n) H c (bitsN o) o x := by rw [clqF, if_neg h0]
    have ho1 : ((o : Int) == 0) = false := by rw [beq_eq_false_iff_ne]; omega
    have ho2 : ((o : Nat) == 0) = false := by rw [beq_eq_false_iff_ne]; exact h0
    have hli := list_any o w ht ho
    have hll : (bitsN o).length ≤ 32 := popN_32 o
    have hlb : (bitsI o).length = (bitsN o).length := by simp [bitsI]
    have hlm : (bitsI o).map (Value.int .i64) = (bitsN o).map fun v : Nat => Value.int .i64 (v : Int) := by simp [bitsI, Function.comp_def]
    rw [hlb, hlm] at hli
    have HL0 : RowKit.Hid (ms ++ clqL (clqF H n) H c (bitsN o) o x = ms ++ clqF H (n + 1) c o x) := Lib.hid (by rw [he])
    have HLE := Lib.hid hlen
    have HBI := Lib.hid (fun v (hv : v ∈ bitsN o) => show v < H.length ∧ v < 32 ∧ o.testBit v = true from by
      have h := (mem_bitsN ho).1 hv
      exact ⟨hol v h, bit_lt_of (n := 32) ho h, h⟩)
    have HPO := Lib.hid (fun (ok v : Nat) (hsub : ∀ i, ok.testBit i = true → o.testBit i = true) (hv : o.testBit v = true) => show popN (ok &&& H.getD v 0) < n ∧ ∀ i, (ok &&& H.getD v 0).testBit i = true → i < H.length from by
      have h1 : ∀ i, (ok &&& H.getD v 0).testBit i = true → o.testBit i = true := fun i hi => by rw [Nat.testBit_and, Bool.and_eq_true] at hi; exact hsub i hi.1
      have := popN_lt (a := ok &&& H.getD v 0) (b := o) (i := v) ho h1 hv (by rw [Nat.testBit_and, hirr v, Bool.and_false])
      exact ⟨by omega, fun i hi => hol i (h1 i hi)⟩)
    have HIH := Lib.hid ih
    have HH := Lib.hid hn
    have HT := Lib.hid ht
    have hoB := hown.lt
    have HOB := Lib.hid hoB
    have HNC := Lib.hid (fun (v : Nat) (hv : v < H.length) (W : World) (hb : Below B w W) => show ∃ nb noff, va = some ⟨nb, noff, none⟩ ∧ W.cell? ⟨nb, noff + v, none⟩ = some (.int .u32 (H.getD v 0 : Int)) from by
      have hW := hn.keep (w' := W) fun b hb2 => hb.block b (hSB b hb2)
      obtain ⟨nb, noff, ncap, hve, hcc⟩ := hW.at_
      have hve := hve (by rw [natsI_len]; omega)
      simp only [Value.slice.injEq] at hve
      refine ⟨nb, noff, hve.1, ?_⟩
      rw [hcc v (by rw [natsI_len]; exact hv), natsI_get, List.getD_eq_getElem?_getD, List.getElem?_eq_getElem hv, Option.getD_some])
    have hvn : va = va := rfl
    clear ih he hp hlen h0 hlb hlm hoB hvn
    generalize hl : bitsN o = l at *
    have HLN := Lib.hid hl
    clear hl
    rw [natsI_len] at *
    go_enter Tryd.func113, Tryd.ntmps113
    go_wp2_with fail
    refine hli.mono ?_
    rintro e w1 ⟨lv, rfl, hlv, hb1⟩
    have hs1 := hb1.size
    have hst0 := hown.below hb1 (Nat.le_refl _)
    obtain ⟨la, lc, rfl⟩ := hlv.isSlice
    have hbB1 := hb1.mono hBw
    clear hli
    go_wp2
    go_loopw [2, 3, 4, 25] (fun opv shv ov iv wr => ∃ (k ok xk : Nat) (L : List Nat), k ≤ l.length ∧ iv = .int .i64 (k : Int) ∧ opv = .int .u32 (ok : Int) ∧ shv = .int .u32 (xk : Int) ∧ ok < 4294967296 ∧ xk < 4294967296 ∧ RowKit.Hid (∀ i, ok.testBit i = true → o.testBit i = true) ∧ RowKit.Hid (bitsN ok = l.drop k) ∧ RowKit.Hid (L ++ clqL (clqF H n) H c (l.drop k) ok xk = ms ++ clqF H (n + 1) c o x) ∧ Own wr B 82 1 ov L.length ((natsI L).map (.int .u32)) ∧ StepD w1 wr (.slice oa ms.length oc) ov) (fun _ _ _ iv _ => 64 - (RowKit.intOf iv).toNat)
    case atStart => exact ⟨0, o, x, ms, Nat.zero_le _, rfl, rfl, rfl, ho, hx, Lib.hid (fun i hi => hi), Lib.hid (by rw [HLN.out]; rfl), HL0, hst0, StepD.reflC _ _⟩
    case round =>
      clear HL0 hst0
      obtain ⟨k, ok, xk, L, hk, rfl, rfl, rfl, hok, hxk, HSU, HTL, HLK, hov, hst⟩ := hrel
      by_cases hlt : k < l.length
      case neg =>
        have HLF := Lib.hid (show L = ms ++ clqF H (n + 1) c o x by
          have h := HLK.out
          rw [List.drop_eq_nil_of_le (by omega), clqL, List.append_nil] at h
          exact h)
        obtain ⟨ra, rc, rfl⟩ := hov.isSlice
        have hfin := (StepD.ofBelowC (.slice oa ms.length oc) hb1).transC hst
        go_wp2
        go_ret
        exact ⟨.slice ra L.length rc, rfl, by rw [← HLF.out]; exact hov, hfin⟩
      have hvl := HBI.out l[k] (List.getElem_mem hlt)
      obtain ⟨lg, lc2, hle⟩ := own_some hlv (by omega)
      simp only [Value.slice.injEq, true_and] at hle
      obtain ⟨rfl, rfl⟩ := hle
      have hlc := cellsC hlv k (by simpa using hlt)
      simp only [List.getElem_map] at hlc
      have hlb2 := hlv.lt lg rfl
      have hlc2 : wr.cell? ⟨lg, k, none⟩ = some (.int .i64 (l[k] : Int)) := (World.cell?_of_block (a := ⟨lg, k, none⟩) (hst.1.2.2.2.2 lg hlb2.2 (fun e => by have := (HOB.out lg e.symm).2; omega))).trans hlc
      have hsz := hst.1.2.2.2.1
      have hbB : Below B w wr := hbB1.trans (hst.toBelowC (by omega) (fun b hb => (HOB.out b hb).1))
      have htr : Tab wr := fun i hi => (hbB.cell (p := ⟨0, i, none⟩) hB0).trans (HT.out i hi)
      have hnr := HH.out.keep fun b hb => hbB.block b (hSB b hb)
      obtain ⟨nb, noff, hve, hnc⟩ := HNC.out l[k] hvl.1 wr hbB
      have HDR := Lib.hid (show l.drop k = l[k] :: l.drop (k + 1) from List.drop_eq_getElem_cons hlt)
      generalize l[k] = v at *
      have hok1 : ok.testBit v = true := (mem_bitsN hok).1 (by rw [HTL.out, HDR.out]; simp)
      have hpo := HPO.out ok v HSU.out hvl.2.2
      have hv32 : v < 32 := hvl.2.1
      have hvH : v < H.length := hvl.1
      have hbv : bit v < 4294967296 := bit_lt hv32
      have hHv := hH v
      have hone := fun (W : World) => one_any (v : Int) W (by omega) (by omega)
      rw [Int.toNat_natCast] at hone
      have hor : bits BinOp.or IntKind.u32 (c : Int) (bit v : Int) = ((c ||| bit v : Nat) : Int) := u32_or_nat c (bit v) hc hbv
      have hor2 : bits BinOp.or IntKind.u32 (xk : Int) (bit v : Int) = ((xk ||| bit v : Nat) : Int) := u32_or_nat xk (bit v) hxk hbv
      have hand1 : bits BinOp.and IntKind.u32 (ok : Int) (H.getD v 0 : Int) = ((ok &&& H.getD v 0 : Nat) : Int) := u32_and_nat ok _ hok hHv
      have hand2 : bits BinOp.and IntKind.u32 (xk : Int) (H.getD v 0 : Int) = ((xk &&& H.getD v 0 : Nat) : Int) := u32_and_nat xk _ hxk hHv
      have hnot : bits BinOp.andNot IntKind.u32 (ok : Int) (bit v : Int) = (andN ok (bit v) : Int) := u32_andNot_nat _ _ hok hbv
      have HLK2 := Lib.hid (show (L ++ clqF H n (c ||| bit v) (ok &&& H.getD v 0) (xk &&& H.getD v 0)) ++ clqL (clqF H n) H c (l.drop (k + 1)) (andN ok (bit v)) (xk ||| bit v) = ms ++ clqF H (n + 1) c o x by
        have h := HLK.out
        rw [HDR.out, clqL, ← List.append_assoc] at h
        exact h)
      have HTL2 := Lib.hid (show bitsN (andN ok (bit v)) = l.drop (k + 1) from bits_tailC hok (by rw [HTL.out, HDR.out]))
      have HSU2 := Lib.hid (show ∀ i, (andN ok (bit v)).testBit i = true → o.testBit i = true from fun i hi => by
        rw [testBit_andN hok hbv, Bool.and_eq_true] at hi
        exact HSU.out i hi.1)
      have hok2 : andN ok (bit v) < 4294967296 := Nat.lt_of_le_of_lt (andN_le _ _) hok
      have hxk2 : xk ||| bit v < 4294967296 := or_ltC hxk hv32
      have hih := fun (W : World) (hd : Below wr.heap.size wr W) => HIH.out (c ||| bit v) (ok &&& H.getD v 0) (xk &&& H.getD v 0) L _ W (htr.below hd (Nat.le_refl _)) hB0 (by have := hd.size; omega) (hnr.below hd (Nat.le_refl _)) hpo.1 (or_ltC hc hv32) (and_ltC hok) (and_ltC hxk) hpo.2 (by
        have h := HLE.out
        rw [← HLK2.out] at h
        simp only [List.length_append] at h ⊢
        omega) (hov.below hd (Nat.le_refl _))
      obtain ⟨L2, hL2⟩ : ∃ L2, L2 = L ++ clqF H n (c ||| bit v) (ok &&& H.getD v 0) (xk &&& H.getD v 0) := ⟨_, rfl⟩
      rw [← hL2] at hih HLK2
      have HNC2 := Lib.hid (fun (W : World) (hb : Below B w W) => show W.cell? ⟨nb, noff + v, none⟩ = some (.int .u32 (H.getD v 0 : Int)) from by
        obtain ⟨nb', noff', h1, h2⟩ := HNC.out v hvH W hb
        rw [hve] at h1
        simp only [Option.some.injEq, Addr.mk.injEq, and_true] at h1
        obtain ⟨rfl, rfl⟩ := h1
        exact h2)
      obtain ⟨ra, rc, rfl⟩ := hov.isSlice
      have HOVB := Lib.hid (fun (b : Nat) (hb : (Value.slice ra L.length rc).ownBlock = some b) => (hov.lt b hb).1)
      subst hve
      clear hL2 hlc hnr hvl hpo htr HDR HLK hok1
      generalize H.getD v 0 = hv at *
      generalize ok &&& hv = oh at *
      generalize xk &&& hv = xh at *
      generalize c ||| bit v = ch at *
      generalize andN ok (bit v) = ok2 at *
      generalize xk ||| bit v = xk2 at *
      generalize bit v = bv at *
      have HIHW := Lib.hid hih
      clear hih
      go_wp2
      refine wp_region_held_drew (S := (fun w' => w'.cell? ⟨nb, noff + v, none⟩ = some (.int .u32 (hv : Int)))) (by kernel_rfl) ?_ (fun hHeld => ?_)
      · first | exact ‹_› | (simp [*, go_sem])
      have hbd : Below wr.heap.size wr wr.drew := ((Drawn.refl _).drew).below _
      generalize wr.drew = wd at hbd hHeld ⊢
      have hnc := hHeld
      refine wpAnyH_take (i := 0) (v := ?v1) (by simp only [List.getElem?_toArray, List.getElem?_cons_zero]; exact rfl) (by kernel_rfl) (by kernel_rfl) (by kernel_rfl) (by intro _ _ _ h; exact h) (Or.inl ⟨by rfl, ?y1⟩) hHeld ?_
      case y1 => (intro w hSw; (try dsimp only at hSw); go_simp; try (with_reducible rfl))
      try simp only [Act.put, List.setIfInBounds_toArray, List.set_cons_zero, List.set_cons_succ]
      refine wpAnyH_take (i := 1) (v := ?v2) (by simp only [List.getElem?_toArray, List.getElem?_cons_succ, List.getElem?_cons_zero]; exact rfl) (by kernel_rfl) (by kernel_rfl) (by kernel_rfl) (by intro _ _ _ h; exact h) (Or.inl ⟨by rfl, ?y2⟩) hHeld ?_
      case y2 => (intro w hSw; (try dsimp only at hSw); go_simp; try (with_reducible rfl))
      try simp only [Act.put, List.setIfInBounds_toArray, List.set_cons_zero, List.set_cons_succ]
      refine wpAnyH_take (i := 2) (v := ?v3) (by simp only [List.getElem?_toArray, List.getElem?_cons_succ, List.getElem?_cons_zero]; exact rfl) (by kernel_rfl) (by kernel_rfl) (by kernel_rfl) (by intro _ _ _ h; exact h) (Or.inl ⟨by rfl, ?y3⟩) hHeld ?_
      case y3 => (intro w hSw; (try dsimp only at hSw); go_simp; try (with_reducible rfl))
      try simp only [Act.put, List.setIfInBounds_toArray, List.set_cons_zero, List.set_cons_succ]
      refine wpAnyH_take (i := 5) (v := ?v4) (by simp only [List.getElem?_toArray, List.getElem?_cons_succ, List.getElem?_cons_zero]; exact rfl) (by kernel_rfl) (by kernel_rfl) (by kernel_rfl) (by intro _ _ _ h; exact h) (Or.inl ⟨by rfl, ?y4⟩) hHeld ?_
      case y4 => (intro w hSw; (try dsimp only at hSw); go_simp; try (with_reducible rfl))
      try simp only [Act.put, List.setIfInBounds_toArray, List.set_cons_zero, List.set_cons_succ]
      refine wpAnyH_take (i := 6) (v := ?v5) (by simp only [List.getElem?_toArray, List.getElem?_cons_succ, List.getElem?_cons_zero]; exact rfl) (by kernel_rfl) (by kernel_rfl) (by kernel_rfl) (by intro _ _ _ h; exact h) (Or.inl ⟨by rfl, ?y5⟩) hHeld ?_
      case y5 => (intro w hSw; (try dsimp only at hSw); go_simp; try (with_reducible rfl))
      try simp only [Act.put, List.setIfInBounds_toArray, List.set_cons_zero, List.set_cons_succ]
      refine wpAnyH_take (i := 7) (v := ?v6) (by simp only [List.getElem?_toArray, List.getElem?_cons_succ, List.getElem?_cons_zero]; exact rfl) (by kernel_rfl) (by kernel_rfl) (by kernel_rfl) (by intro _ _ _ h; exact h) (Or.inl ⟨by rfl, ?y6⟩) hHeld ?_
      case y6 => (intro w hSw; (try dsimp only at hSw); go_simp; try (with_reducible rfl))
      try simp only [Act.put, List.setIfInBounds_toArray, List.set_cons_zero, List.set_cons_succ]
      refine wpAnyH_take (i := 8) (v := ?v7) (by simp only [List.getElem?_toArray, List.getElem?_cons_succ, List.getElem?_cons_zero]; exact rfl) (by kernel_rfl) (by kernel_rfl) (by kernel_rfl) (by intro _ _ _ h; exact h) (Or.inl ⟨by rfl, ?y7⟩) hHeld ?_
      case y7 => (intro w hSw; (try dsimp only at hSw); go_simp; try (with_reducible rfl))
      try simp only [Act.put, List.setIfInBounds_toArray, List.set_cons_zero, List.set_cons_succ]
      refine wpAnyH_take (i := 9) (v := ?v8) (by simp only [List.getElem?_toArray, List.getElem?_cons_succ, List.getElem?_cons_zero]; exact rfl) (by kernel_rfl) (by kernel_rfl) (by kernel_rfl) (by intro _ _ _ h; exact h) (Or.inl ⟨by rfl, ?y8⟩) hHeld ?_
      case y8 => (intro w hSw; (try dsimp only at hSw); go_simp; try (with_reducible rfl))
      try simp only [Act.put, List.setIfInBounds_toArray, List.set_cons_zero, List.set_cons_succ]
      refine wpAnyH_take (i := 10) (v := ?v9) (by simp only [List.getElem?_toArray, List.getElem?_cons_succ, List.getElem?_cons_zero]; exact rfl) (by kernel_rfl) (by kernel_rfl) (by kernel_rfl) (by intro _ _ _ h; exact h) (Or.inl ⟨by rfl, ?y9⟩) hHeld ?_
      case y9 => (intro w hSw; (try dsimp only at hSw); go_simp; try (with_reducible rfl))
      try simp only [Act.put, List.setIfInBounds_toArray, List.set_cons_zero, List.set_cons_succ]
      refine wpAnyH_take (i := 11) (v := ?v10) (by simp only [List.getElem?_toArray, List.getElem?_cons_succ, List.getElem?_cons_zero]; exact rfl) (by kernel_rfl) (by kernel_rfl) (by kernel_rfl) (by intro _ _ _ h; exact h) (Or.inl ⟨by rfl, ?y10⟩) hHeld ?_
      case y10 => (intro w hSw; (try dsimp only at hSw); go_simp; try (with_reducible rfl))
      try simp only [Act.put, List.setIfInBounds_toArray, List.set_cons_zero, List.set_cons_succ]
      refine wpAnyH_take (i := 12) (v := ?v11) (by simp only [List.getElem?_toArray, List.getElem?_cons_succ, List.getElem?_cons_zero]; exact rfl) (by kernel_rfl) (by kernel_rfl) (by kernel_rfl) (by intro _ _ _ h; exact h) (Or.inl ⟨by rfl, ?y11⟩) hHeld ?_
      case y11 => (intro w hSw; (try dsimp only at hSw); go_simp; try (with_reducible rfl))
      try simp only [Act.put, List.setIfInBounds_toArray, List.set_cons_zero, List.set_cons_succ]
      refine wpAnyH_take (i := 13) (v := ?v12) (by simp only [List.getElem?_toArray, List.getElem?_cons_succ, List.getElem?_cons_zero]; exact rfl) (by kernel_rfl) (by kernel_rfl) (by kernel_rfl) (by intro _ _ _ h; exact h) (Or.inl ⟨by rfl, ?y12⟩) hHeld ?_
      case y12 => (intro w hSw; (try dsimp only at hSw); go_simp; try (with_reducible rfl))
      try simp only [Act.put, List.setIfInBounds_toArray, List.set_cons_zero, List.set_cons_succ]
      refine wpAnyH_take (i := 14) (v := ?v13) (by simp only [List.getElem?_toArray, List.getElem?_cons_succ, List.getElem?_cons_zero]; exact rfl) (by kernel_rfl) (by kernel_rfl) (by kernel_rfl) (by intro _ _ _ h; exact h) (Or.inl ⟨by rfl, ?y13⟩) hHeld ?_
      case y13 => (intro w hSw; (try dsimp only at hSw); go_simp; try (with_reducible rfl))
      try simp only [Act.put, List.setIfInBounds_toArray, List.set_cons_zero, List.set_cons_succ]
      refine wpAnyH_take (i := 15) (v := ?v14) (by simp only [List.getElem?_toArray, List.getElem?_cons_succ, List.getElem?_cons_zero]; exact rfl) (by kernel_rfl) (by kernel_rfl) (by kernel_rfl) (by intro _ _ _ h; exact h) (Or.inl ⟨by rfl, ?y14⟩) hHeld ?_
      case y14 => (intro w hSw; (try dsimp only at hSw); go_simp; try (with_reducible rfl))
      try simp only [Act.put, List.setIfInBounds_toArray, List.set_cons_zero, List.set_cons_succ]
      refine wpAnyH_take (i := 16) (v := ?v15) (by simp only [List.getElem?_toArray, List.getElem?_cons_succ, List.getElem?_cons_zero]; exact rfl) (by kernel_rfl) (by kernel_rfl) (by kernel_rfl) (by intro _ _ _ h; exact h) (Or.inl ⟨by rfl, ?y15⟩) hHeld ?_
      case y15 => (intro w hSw; (try dsimp only at hSw); go_simp; try (with_reducible rfl))
      try simp only [Act.put, List.setIfInBounds_toArray, List.set_cons_zero, List.set_cons_succ]
      refine wpAnyH_take (i := 17) (v := ?v16) (by simp only [List.getElem?_toArray, List.getElem?_cons_succ, List.getElem?_cons_zero]; exact rfl) (by kernel_rfl) (by kernel_rfl) (by kernel_rfl) (by intro _ _ _ h; exact h) (Or.inl ⟨by rfl, ?y16⟩) hHeld ?_
      case y16 => (intro w hSw; (try dsimp only at hSw); go_simp; try (with_reducible rfl))
      try simp only [Act.put, List.setIfInBounds_toArray, List.set_cons_zero, List.set_cons_succ]
      refine wpAnyH_ready (rs := [3]) (by kernel_rfl) (by simp) ?_
      refine AllReadyH.cons (by simp only [List.getElem?_toArray, List.getElem?_cons_succ, List.getElem?_cons_zero]; exact rfl) (fun K hK => ?_) AllReadyH.nil
      go_simp
      refine (hone _).mono ?_
      rintro e w' ⟨rfl, rfl⟩
      try dsimp only
      refine hK.out _ _ ?h18 (fun hHeld => ?_)
      case h18 => first | exact ‹_› | (simp [*, go_sem])
      clear hK K
      try simp only [Act.put, List.setIfInBounds_toArray, List.set_cons_zero, List.set_cons_succ]
      refine wpAnyH_take (i := 4) (v := ?v19) (by simp only [List.getElem?_toArray, List.getElem?_cons_succ, List.getElem?_cons_zero]; exact rfl) (by kernel_rfl) (by kernel_rfl) (by kernel_rfl) (by intro _ _ _ h; exact h) (Or.inl ⟨by rfl, ?y19⟩) hHeld ?_
      case y19 => (intro w hSw; (try dsimp only at hSw); go_simp; try (with_reducible rfl))
      try simp only [Act.put, List.setIfInBounds_toArray, List.set_cons_zero, List.set_cons_succ]
      refine wpAnyH_ready (rs := [18]) (by kernel_rfl) (by simp) ?_
      refine AllReadyH.cons (by simp only [List.getElem?_toArray, List.getElem?_cons_succ, List.getElem?_cons_zero]; exact rfl) (fun K hK => ?_) AllReadyH.nil
      go_simp
      with_reducible refine (HIHW.out wd hbd).mono ?_
      rintro e w3 ⟨u3, rfl, ho3, hst3⟩
      obtain ⟨ra3, rc3, rfl⟩ := ho3.isSlice
      have hsd := hbd.size
      have hnc := HNC2.out w3 ((hbB.trans (hbd.mono (by omega))).trans (hst3.toBelowC (by omega) HOVB.out))
      try dsimp only
      refine hK.out _ _ ?h21 (fun hHeld => ?_)
      case h21 => first | exact ‹_› | (simp [*, go_sem])
      clear hK K
      try simp only [Act.put, List.setIfInBounds_toArray, List.set_cons_zero, List.set_cons_succ]
      refine wpAnyH_take (i := 19) (v := ?v22) (by simp only [List.getElem?_toArray, List.getElem?_cons_succ, List.getElem?_cons_zero]; exact rfl) (by kernel_rfl) (by kernel_rfl) (by kernel_rfl) (by intro _ _ _ h; exact h) (Or.inl ⟨by rfl, ?y22⟩) hHeld ?_
      case y22 => (intro w hSw; (try dsimp only at hSw); go_simp; try (with_reducible rfl))
      try simp only [Act.put, List.setIfInBounds_toArray, List.set_cons_zero, List.set_cons_succ]
      refine wpAnyH_done (by kernel_rfl) ?_ _
      have hst4 := hst.transC ((StepD.ofBelowC (.slice ra L.length rc) hbd).transC hst3)
      clear hHeld
      go_wp2_with (go_at_call 104; refine (hone _).mono ?_; rintro e w' ⟨rfl, rfl⟩)
      go_roundw
      case rel => exact ⟨k + 1, ok2, xk2, L2, by omega, by go_num, rfl, rfl, hok2, hxk2, HSU2, HTL2, HLK2, ho3, hst4⟩
      case measure => simp [RowKit.intOf]; omega
/-- How many entries a search lays at most. -/
def storesC : Nat → Nat
  | 0 => 1
  | f + 1 => 1 + (f + 1) * storesC f
theorem storesC_le {f : Nat} (h : f ≤ 16) : storesC f ≤ 1000000000000000 := by
  have h1 : ∀ f, storesC f ≤ storesC (f + 1) := fun f => by
    rw [storesC]
    have : storesC f ≤ (f + 1) * storesC f := Nat.le_mul_of_pos_left _ (by omega)
    omega
  have h2 : ∀ d f, storesC f ≤ storesC (f + d) := fun d f => by
    induction d with
    | zero => exact Nat.le_refl _
    | succ d ih => exact Nat.le_trans ih (h1 _)
  have h3 := h2 (16 - f) f
  rw [show f + (16 - f) = 16 by omega] at h3
  exact Nat.le_trans h3 (by decide)
/-- What is remembered is right. -/
def DeadM (cs : List Nat) (D : DataW Unit) : Prop := ∀ c : Nat, c < 2 ^ cs.length → D.atKey (.int .u32 (c : Int)) (.lit (.bool false)) = .lit (.bool true) → lineG cs c = none
theorem DeadM.put {cs : List Nat} {c : Nat} {D : DataW Unit} (h : DeadM cs D) (hD : IsMap D) (hc : lineG cs c = none) : DeadM cs (D.put (.int .u32 (c : Int)) (.lit (.bool true))) := fun c' hc' hh => by
  by_cases e : c' = c
  · subst e; exact hc
  · have hne : (Lit.int .u32 (c' : Int)) ≠ Lit.int .u32 (c : Int) := fun h => e (by injection h with _ h; omega)
    rw [atKey_put_other hne] at hh
    exact h c' hc' hh
theorem wfC_u32 {c : Nat} (h : c < 4294967296) : (Lit.int .u32 (c : Int)).wf = true := by
  simp only [Lit.wf, IntKind.min, IntKind.max, IntKind.bits, IntKind.signed, Bool.and_eq_true, decide_eq_true_eq] <;> simp <;> omega
theorem plainElem_bool_inv {P : Program} {e : TypeId} (he : P.underlying e = some .bool) {v : Value} {z : DataW Unit × List MemPlace} (h : plainElem P e v = some z) : ∃ a, v = .bool a ∧ z = (.lit (.bool a), []) := by
  unfold plainElem at h
  rw [he] at h
  cases v <;> simp at h
  exact ⟨_, rfl, h.symm⟩
/-- A look-up without ok, at elements of kind bool. -/
theorem wpList_lookup_own_bool {P : Program} (w : World) {ops : Array Oper} {rest : List Oper} {o : Oper} {a : Act} {Q : Exit → Act → World → Prop}
    (hg : o.guard = none) (m x : Operand) (t : TypeId) (hop : o.op = Op.lookup t m x false)
    (k e : TypeId) (K : Keyed P k) (ht : P.underlying t = some (.map k e)) (he : P.underlying e = some .bool) (hz : (zeroValue e).run P w = .ok (.bool false) w) (b n : Nat) (D : DataW Unit)
    (hm : a.eval m = .map (some b)) (hown : w.ownsMap P k (plainElem P e) b n D) (key : Value) (kl : Lit) (hx : a.eval x = key) (hkey : keyOf P k key = some kl)
    (hK : ∀ c : Bool, D.atKey kl (.lit (.bool false)) = .lit (.bool c) → wpList P ops Q rest (a.put o.dst (.bool c)) w) :
    wpList P ops Q (o :: rest) a w := by
  refine wpList_plain hg fun K' hK' => ?_
  obtain ⟨v, ps, hrun, hv⟩ := hown.lookup K ht hz (plainElem_bool he false) hkey
  obtain ⟨c, rfl, hc⟩ := plainElem_bool_inv he hv
  simp only [Prod.mk.injEq] at hc
  unfold Oper.wp
  simp [execOp, hop, hm, hx, hrun, Result.andThen]
  exact hK' _ _ (hK c hc.1)
theorem KeptBut.ofBelowC {w w' : World} {r : Option Nat} (hb : Below w.heap.size w w') : KeptBut w w' r := ⟨hb.os, hb.tape, hb.output, hb.size, fun k hk _ => hb.block k hk⟩
theorem keyVsetC : Keyed Tryd.prog 82 := int_keyed Tryd.underlying82
theorem zeroBoolC (w : World) : (zeroValue 4).run Tryd.prog w = .ok (.bool false) w := by kernel_rfl
/-- The search's state: its box xb holds the cliques and a map mb of what is dead. -/
structure LS (w : World) (cs : List Nat) (m ng nc xb mb cnt : Nat) (D : DataW Unit) : Prop where
  tab : Tab w
  nets : SlI (fun b => b ≠ mb ∧ b < w.heap.size) w .u32 (.slice (some ⟨ng, 0, none⟩) m nc) (natsI cs)
  c0 : w.cell? ⟨xb, 0, none⟩ = some (.slice (some ⟨ng, 0, none⟩) m nc)
  c1 : w.cell? ⟨xb, 1, none⟩ = some (.map (some mb))
  ne : xb ≠ mb
  pos : 0 < mb
  map : w.ownsMap Tryd.prog 82 (plainElem Tryd.prog 4) mb cnt D
  known : DeadM cs D
theorem LS.below {w w' : World} {cs : List Nat} {m ng nc xb mb cnt : Nat} {D : DataW Unit} (h : LS w cs m ng nc xb mb cnt D) (hb : Below w.heap.size w w') : LS w' cs m ng nc xb mb cnt D :=
  ⟨h.tab.below hb (Nat.le_refl _), (h.nets.below hb (Nat.le_refl _)).weak fun b hb' => ⟨hb'.1, Nat.lt_of_lt_of_le hb'.2 hb.size⟩, (hb.cell (cell_lt h.c0)).trans h.c0, (hb.cell (cell_lt h.c1)).trans h.c1, h.ne, h.pos,
    h.map.kept (row := none) ⟨hb.os, hb.tape, hb.output, hb.size, fun k hk _ => hb.block k hk⟩ (by simp), h.known⟩
theorem LS.put {w w' : World} {cs : List Nat} {m ng nc xb mb cnt cnt' : Nat} {D D' : DataW Unit} (h : LS w cs m ng nc xb mb cnt D) (hk : w.grownBy w' (some mb)) (hm : w'.ownsMap Tryd.prog 82 (plainElem Tryd.prog 4) mb cnt' D') (hK : DeadM cs D') : LS w' cs m ng nc xb mb cnt' D' :=
  ⟨fun i hi => (World.cell?_of_block (a := ⟨0, i, none⟩) (hk.block 0 (by have := h.map.lt; omega) (by have := h.pos; simp; omega))).trans (h.tab i hi),
    (h.nets.keep fun b hb => hk.block b hb.2 (by have := hb.1; simpa using this)).weak fun b hb' => ⟨hb'.1, Nat.lt_of_lt_of_le hb'.2 hk.size⟩,
    (World.cell?_of_block (a := ⟨xb, 0, none⟩) (hk.block xb (cell_lt h.c0) (by have := h.ne; simpa using this))).trans h.c0,
    (World.cell?_of_block (a := ⟨xb, 1, none⟩) (hk.block xb (cell_lt h.c1) (by have := h.ne; simpa using this))).trans h.c1, h.ne, h.pos, hm, hK⟩
set_option maxRecDepth 100000 in
set_option maxHeartbeats 4000000 in
theorem union_any {cs : List Nat} {m ng nc xb mb cnt s : Nat} {D : DataW Unit} {w : World} (h16 : m ≤ 16) (hm : cs.length = m) (hlt : ∀ k, cs.getD k 0 < 2 ^ 16) (hs : s < 2 ^ m) (hw : LS w cs m ng nc xb mb cnt D) :
    Calls Tryd.prog 116 #[.pointer (some ⟨xb, 0, none⟩), .int .u32 (s : Int)] w fun e w' => e = .returned (.int .u32 (unionN cs s : Int)) ∧ Below w.heap.size w w' := by
  have hs32 : s < 4294967296 := Nat.lt_trans hs (pow16_lt h16)
  have hli := list_any s w hw.tab hs32
  have hlb : (bitsI s).length = (bitsN s).length := by simp [bitsI]
  have hlm : (bitsI s).map (Value.int .i64) = (bitsN s).map fun v : Nat => Value.int .i64 (v : Int) := by simp [bitsI, Function.comp_def]
  rw [hlb, hlm] at hli
  have hll : (bitsN s).length ≤ 32 := popN_32 s
  have HB := Lib.hid (fun v (hv : v ∈ bitsN s) => show v < m from bit_lt_of hs ((mem_bitsN hs32).1 hv))
  have c0 := hw.c0
  have hn := hw.nets
  have HU := Lib.hid (show unionN cs s = ((bitsN s).foldl (fun m i => m ||| cs.getD i 0) 0) from rfl)
  have HTK := Lib.hid (fun (l : List Nat) (k : Nat) (hk : k < l.length) => show (l.take (k + 1)).foldl (fun m i => m ||| cs.getD i 0) 0 = (l.take k).foldl (fun m i => m ||| cs.getD i 0) 0 ||| cs.getD l[k] 0 by
    rw [List.take_succ_eq_append_getElem hk, List.foldl_append]; rfl)
  have HLT := Lib.hid (fun (l : List Nat) => show l.foldl (fun m i => m ||| cs.getD i 0) 0 < 65536 by
    have : ∀ (l : List Nat) (a : Nat), a < 2 ^ 16 → l.foldl (fun m i => m ||| cs.getD i 0) a < 2 ^ 16 := by
      intro l
      induction l with
      | nil => intro a ha; exact ha
      | cons k l ih => intro a ha; exact ih _ (Nat.or_lt_two_pow ha (hlt k))
    exact this l 0 (by omega))
  have HC := Lib.hid (fun (k : Nat) (hk : k < m) (W : World) (hb : Below w.heap.size w W) => show W.cell? ⟨ng, k, none⟩ = some (.int .u32 (cs.getD k 0 : Int)) from by
    have hW := hn.below hb (Nat.le_refl _)
    obtain ⟨nb, noff, ncap, hve, hcc⟩ := hW.at_
    have hve := hve (by rw [natsI_len]; omega)
    simp only [natsI_len, Value.slice.injEq, Option.some.injEq, Addr.mk.injEq, and_true] at hve
    obtain ⟨⟨rfl, rfl⟩, -, rfl⟩ := hve
    have h := hcc k (by rw [natsI_len]; omega)
    rw [Nat.zero_add] at h
    rw [h, natsI_get, List.getD_eq_getElem?_getD, List.getElem?_eq_getElem (by omega), Option.getD_some])
  have HCL := Lib.hid hlt
  clear hlb hlm hn hw
  generalize hl : bitsN s = l at *
  clear hl
  go_enter Tryd.func116, Tryd.ntmps116
  go_wp2_with fail
  refine hli.mono ?_
  rintro e w1 ⟨lv, rfl, hlv, hb1⟩
  have c1 := (hb1.cell (cell_lt c0)).trans c0
  obtain ⟨la, lc, rfl⟩ := hlv.isSlice
  clear hli c0
  go_wp2
  go_loopw [5, 11] (fun uv iv wr => ∃ k : Nat, k ≤ l.length ∧ iv = .int .i64 (k : Int) ∧ uv = .int .u32 (((l.take k).foldl (fun m i => m ||| cs.getD i 0) 0 : Nat) : Int) ∧ Drawn w1 wr) (fun _ iv _ => l.length - (RowKit.intOf iv).toNat)
  case atStart => exact ⟨0, Nat.zero_le _, rfl, rfl, Drawn.refl _⟩
  case round =>
    obtain ⟨k, hk, rfl, rfl, hd⟩ := hrel
    have hbr := hb1.trans ((hd.below w1.heap.size).mono hb1.size)
    by_cases hlt2 : k < l.length
    case neg =>
      have HF := Lib.hid (show unionN cs s = (l.take k).foldl (fun m i => m ||| cs.getD i 0) 0 by rw [HU.out, List.take_of_length_le (by omega)])
      generalize (l.take k).foldl (fun m i => m ||| cs.getD i 0) 0 = q at *
      go_wp2
      go_ret
      exact ⟨by rw [HF.out]; rfl, hbr⟩
    obtain ⟨lg, lc2, hle⟩ := own_some hlv (by omega)
    simp only [Value.slice.injEq, true_and] at hle
    obtain ⟨rfl, rfl⟩ := hle
    have hlc := cellsC hlv k (by simpa using hlt2)
    simp only [List.getElem_map] at hlc
    have hlc2 : wr.cell? ⟨lg, k, none⟩ = some (.int .i64 (l[k] : Int)) := by rw [hd.cell]; exact hlc
    have hvm := HB.out l[k] (List.getElem_mem hlt2)
    have HT := Lib.hid (HTK.out l k hlt2)
    have c2 : wr.cell? ⟨xb, 0, none⟩ = some (.slice (some ⟨ng, 0, none⟩) m nc) := by rw [hd.cell]; exact c1
    have c3 := HC.out l[k] hvm wr hbr
    have hq1 := HLT.out (l.take k)
    have hq2 : cs.getD l[k] 0 < 4294967296 := by have := HCL.out l[k]; omega
    generalize l[k] = v at *
    have hor := u32_or_nat ((l.take k).foldl (fun m i => m ||| cs.getD i 0) 0) (cs.getD v 0) (by omega) hq2
    rw [← HT.out] at hor
    clear hlc
    generalize (l.take k).foldl (fun m i => m ||| cs.getD i 0) 0 = q at *
    generalize cs.getD v 0 = cv at *
    go_wp2
    go_roundw
    case rel => exact ⟨k + 1, by omega, by go_num, by first | rfl | exact congrArg _ hor, hd⟩
    case measure => simp [RowKit.intOf]; omega
theorem bits_leftC {cs : List Nat} {s : Nat} (hm : cs.length ≤ 16) (hs : s < 2 ^ cs.length) {v : Nat} (hv : v ∈ bitsN (andN (firstN cs.length) s)) : v < cs.length ∧ s.testBit v = false := (mem_leftC hm hs v).1 hv
theorem pop_moreC {cs : List Nat} {s v : Nat} (hm : cs.length ≤ 16) (hs : s < 2 ^ cs.length) (hv : v < cs.length) (h : s.testBit v = false) : popN (s ||| bit v) = popN s + 1 := popN_add (by have := pow_le16 hm; omega) (by omega) h
theorem pop_leC {cs : List Nat} {s : Nat} (hm : cs.length ≤ 16) (hs : s < 2 ^ cs.length) : popN s ≤ cs.length := by
  by_cases h : s = firstN cs.length
  · rw [h]; exact popN_firstN hm
  · exact Nat.le_of_lt (pop_lt hm hs h)
theorem pop_leftC {cs : List Nat} {s : Nat} (hm : cs.length ≤ 16) (hs : s < 2 ^ cs.length) : (bitsN (andN (firstN cs.length) s)).length ≤ cs.length := by
  have h := popN_le (a := andN (firstN cs.length) s) (b := firstN cs.length) (left_ltC hm) (by have := firstN_lt hm; omega) (fun i hi => by
    rw [testBit_firstN, decide_eq_true_eq]; exact ((leftC hm hs i).1 hi).1)
  exact Nat.le_trans h (popN_firstN hm)
theorem left_len_pop {cs : List Nat} (hm : cs.length ≤ 16) : ∀ (d s : Nat), s < 2 ^ cs.length → cs.length - popN s = d → (bitsN (andN (firstN cs.length) s)).length ≤ d
  | 0, s, hs, h => by
    have hp := pop_leC hm hs
    by_cases e : s = firstN cs.length
    · subst e
      have : andN (firstN cs.length) (firstN cs.length) = 0 := by
        apply nat_ext
        intro i
        rw [Nat.zero_testBit, testBit_andN (by have := firstN_lt hm; omega) (by have := firstN_lt hm; omega)]
        simp
      rw [this]
      exact Nat.le_of_eq ((popN_zero (by omega)).2 rfl)
    · have := pop_lt hm hs e; omega
  | d + 1, s, hs, h => by
    cases hl : bitsN (andN (firstN cs.length) s) with
    | nil => simp
    | cons v t =>
      obtain ⟨hv, hsv⟩ := bits_leftC hm hs (v := v) (by rw [hl]; simp)
      have hp := pop_moreC hm hs hv hsv
      have h1 := bits_tailC (left_ltC (cs := cs) (s := s) hm) hl
      have h2 : andN (andN (firstN cs.length) s) (bit v) = andN (firstN cs.length) (s ||| bit v) := by
        have hb : bit v < 4294967296 := bit_lt (by omega)
        have hs32 : s < 4294967296 := by have := pow_le16 hm; omega
        have hf : firstN cs.length < 4294967296 := by have := firstN_lt hm; omega
        apply nat_ext
        intro i
        rw [testBit_andN (left_ltC hm) hb, testBit_andN hf hs32, testBit_andN hf (or_ltC hs32 (by omega)), Nat.testBit_or]
        cases (firstN cs.length).testBit i <;> cases s.testBit i <;> cases (bit v).testBit i <;> rfl
      have h3 := left_len_pop hm d (s ||| bit v) (more_lt hs hv) (by omega)
      rw [← h2, h1] at h3
      simp only [List.length_cons]; omega
/-- What the search answers. -/
def GroP (cs : List Nat) (m ng nc xb mb cnt top : Nat) (o : Option (List Nat)) (w : World) (e : Ending) (w' : World) : Prop :=
  ∃ v, e = .returned v ∧ (o = none → v = .slice none 0 0) ∧ (∀ r, o = some r → ∃ b c, v = .slice (some ⟨b, 0, none⟩) r.length c ∧ Own w' w.heap.size 3 1 v r.length ((natsI r).map (.int .i64))) ∧ (∃ cnt' D', LS w' cs m ng nc xb mb cnt' D' ∧ cnt' ≤ cnt + top) ∧ KeptBut w w' (some mb)
theorem neqIntsC : ∀ (w : World) (a : Option Addr) (l c : Nat), (binOp .neq 71 (.slice a l c) (.slice none 0 0)).run Tryd.prog w = .ok (.bool (!a.isNone)) w := fun w a l c => run_neq_slice_nil w _ _ a l c Tryd.underlying71
theorem elIntC : Elem Tryd.prog 71 3 1 8 (.int .i64 0) := ⟨Tryd.underlying71, by kernel_rfl, rfl, by omega, by omega⟩
set_option maxRecDepth 100000 in
set_option maxHeartbeats 8000000 in
theorem growLine_any {cs : List Nat} {m ng nc xb mb : Nat} (h16 : m ≤ 16) (hm : cs.length = m) (hlt : ∀ k, cs.getD k 0 < 2 ^ 16) : ∀ (f s cnt : Nat) (D : DataW Unit) (w : World), m - popN s = f → s < 2 ^ m → LS w cs m ng nc xb mb cnt D → cnt + storesC f ≤ 2000000000000000 →
    Calls Tryd.prog 88 #[.pointer (some ⟨xb, 0, none⟩), .int .u32 (s : Int)] w (GroP cs m ng nc xb mb cnt (storesC f) (lineG cs s) w) := by
  intro f
  induction f using Nat.strongRecOn with
  | ind f ih =>
  intro s cnt D w hf hs hw hcnt
  have HIH := Lib.hid ih
  clear ih
  have hs32 : s < 4294967296 := Nat.lt_trans hs (pow16_lt h16)
  have hf32 : firstN m < 4294967296 := by have := firstN_lt h16; omega
  have hfo := fun W : World => firstOf_any (m : Int) W (by omega) (by omega)
  simp only [Int.toNat_natCast] at hfo
  have c0 := hw.c0
  have c1 := hw.c1
  have hkey := keyOf_int_mk Tryd.underlying82 (wfC_u32 hs32)
  subst hm
  by_cases he : s = firstN cs.length
  · have HL := Lib.hid (show lineG cs s = some [] by rw [he]; exact lineG_all cs)
    have hb : ((s : Int) == (firstN cs.length : Int)) = true := by rw [beq_iff_eq, he]
    have hb2 : (s == firstN cs.length) = true := by rw [beq_iff_eq]; exact he
    have hq0 : Below w.heap.size w (w.alloc (.cells #[] 3)) := (Below.refl _ _).alloc (Nat.le_refl _) _
    have hlit : Own (w.alloc (.cells #[] 3)) w.heap.size 3 1 (.slice (some ⟨w.heap.size, 0, none⟩) 0 0) 0 ((natsI []).map (.int .i64)) := by
      have := World.ownsRow_lit (base := w.heap.size) (e := 3) (size := 1) w #[] 0 (Nat.le_refl _) (by unfold maxLen; omega) rfl
      simpa [Own, natsI] using this
    have hw2 := hw.below hq0
    have hkb := KeptBut.ofBelowC (r := some mb) hq0
    clear he
    go_enter Tryd.func88, Tryd.ntmps88
    go_wp2_with (go_at_call 105; refine (hfo _).mono ?_; rintro e w' ⟨rfl, rfl⟩)
    go_ret
    exact ⟨_, rfl, fun h => (by rw [HL.out] at h; cases h), fun r h => (by rw [HL.out] at h; cases h; exact ⟨_, _, rfl, hlit⟩), ⟨cnt, D, hw2, by omega⟩, hkb⟩
  have hb : ((s : Int) == (firstN cs.length : Int)) = false := by rw [beq_eq_false_iff_ne]; omega
  have hb2 : (s == firstN cs.length) = false := by rw [beq_eq_false_iff_ne]; exact he
  have hmap := hw.map
  have HDE := Lib.hid (hw.known s hs)
  have hpl := pop_lt h16 hs he
  have HST := Lib.hid (lineG_step h16 hs he)
  have HPM := Lib.hid (fun (v : Nat) (hv : v < cs.length) (h : s.testBit v = false) => pop_moreC h16 hs hv h)
  have HBL := Lib.hid (fun (v : Nat) (hv : v ∈ bitsN (andN (firstN cs.length) s)) => bits_leftC h16 hs hv)
  have hlen := left_len_pop h16 f s hs hf
  have hand : bits BinOp.andNot IntKind.u32 (firstN cs.length : Int) (s : Int) = (andN (firstN cs.length) s : Int) := u32_andNot_nat _ _ hf32 hs32
  have hal : andN (firstN cs.length) s < 2 ^ cs.length := Nat.lt_of_le_of_lt (andN_le _ _) (by unfold firstN; have := Nat.two_pow_pos cs.length; omega)
  have hal32 : andN (firstN cs.length) s < 4294967296 := left_ltC h16
  have hun1 := union_any h16 rfl hlt hs hw
  have hun2 := fun (W : World) (h : LS W cs cs.length ng nc xb mb cnt D) => union_any h16 rfl hlt hal h
  have hu1 : unionN cs s < 65536 := unionN_lt (n := 16) hlt
  have hu2 : unionN cs (andN (firstN cs.length) s) < 65536 := unionN_lt (n := 16) hlt
  have hand2 : bits BinOp.and IntKind.u32 (unionN cs s : Int) (unionN cs (andN (firstN cs.length) s) : Int) = ((openN cs s : Nat) : Int) := u32_and_nat _ _ (by omega) (by omega)
  have hop : openN cs s < 65536 := Nat.lt_of_le_of_lt Nat.and_le_left hu1
  have HFI := Lib.hid (fun (k : Nat) => show fitC cs s k = decide (andN (openN cs s) (cs.getD k 0) = 0) from rfl)
  obtain ⟨f', rfl⟩ : ∃ f', f = f' + 1 := ⟨f - 1, by omega⟩
  have HSN := Lib.hid (show storesC (f' + 1) = 1 + (f' + 1) * storesC f' from rfl)
  obtain ⟨top, htop⟩ : ∃ top, top = storesC f' := ⟨_, rfl⟩
  have HTOP := Lib.hid htop
  have hcnt2 : cnt + (1 + (f' + 1) * top) ≤ 2000000000000000 := by rw [htop]; rw [HSN.out] at hcnt; exact hcnt
  have HCNT := Lib.hid hcnt2
  have HF := Lib.hid hf
  have hnq := neqIntsC
  clear hcnt2 htop hcnt he hf
  have hli := fun (W : World) (ht : Tab W) => list_any (andN (firstN cs.length) s) W ht hal32
  have hlb : (bitsI (andN (firstN cs.length) s)).length = (bitsN (andN (firstN cs.length) s)).length := by simp [bitsI]
  have hlm : (bitsI (andN (firstN cs.length) s)).map (Value.int .i64) = (bitsN (andN (firstN cs.length) s)).map fun v : Nat => Value.int .i64 (v : Int) := by simp [bitsI, Function.comp_def]
  rw [hlb, hlm] at hli
  have HT0 : RowKit.Hid (lineG cs s = tryL (fun k => (lineG cs (s ||| bit k)).map (k :: ·)) (((bitsN (andN (firstN cs.length) s)).drop 0).filter (fitC cs s))) := HST
  have HTS := Lib.hid (fun (k : Nat) (hk : k < (bitsN (andN (firstN cs.length) s)).length) => try_step (f := fun k => (lineG cs (s ||| bit k)).map (k :: ·)) (ok := fitC cs s) hk)
  clear hlb hlm
  generalize hl : bitsN (andN (firstN cs.length) s) = l at *
  generalize andN (firstN cs.length) s = al at *
  clear hl
  generalize unionN cs s = us at *
  generalize unionN cs al = ua at *
  go_enter Tryd.func88, Tryd.ntmps88
  go_wp2_with (first | (go_at_call 105; refine (hfo _).mono ?_; rintro e w' ⟨rfl, rfl⟩) | (at_lookup; refine wpList_lookup_own_bool _ rfl _ _ 102 rfl 82 4 keyVsetC Tryd.underlying102 Tryd.underlying4 (zeroBoolC _) mb cnt D rfl hmap _ _ rfl hkey ?_; intro dc hat; refine hold_in ?_))
  unfold HoldP
  cases dc with
  | true =>
    have HN := Lib.hid (HDE.out hat)
    clear hat
    go_wp2
    go_ret
    exact ⟨_, rfl, fun _ => rfl, fun r h => (by rw [HN.out] at h; cases h), ⟨cnt, D, hw, by omega⟩, KeptBut.ofBelowC (Below.refl _ _)⟩
  | false =>
  clear hat
  go_wp2_with fail
  refine hun1.mono ?_
  rintro e w1 ⟨rfl, hb1⟩
  have hw1 := hw.below hb1
  clear hun1
  go_wp2_with fail
  refine (hun2 w1 hw1).mono ?_
  rintro e w2 ⟨rfl, hb2'⟩
  have hw2 := hw1.below hb2'
  have hb12 := hb1.trans (hb2'.mono hb1.size)
  have hl2 := hli w2 hw2.tab
  clear hun2 hw1 hli
  go_wp2_with fail
  refine hl2.mono ?_
  rintro e w3 ⟨lv, rfl, hlv, hb3⟩
  have hw3 := hw2.below hb3
  have hb13 := hb12.trans (hb3.mono hb12.size)
  have hk3 := KeptBut.ofBelowC (r := some mb) hb13
  obtain ⟨la, lc, rfl⟩ := hlv.isSlice
  have hmw := hmap.lt
  have hs12 := hb12.size
  have hll : l.length ≤ 16 := by have := HF.out; omega
  clear hl2 hw2 hb1 hb2' hb3 hmap c0 c1 HST
  generalize openN cs s = op at *
  go_wp2
  go_loopw [9, 40] (fun _ iv wr => ∃ (k cnt' : Nat) (D' : DataW Unit), k ≤ l.length ∧ iv = .int .i64 (k : Int) ∧ LS wr cs cs.length ng nc xb mb cnt' D' ∧ cnt' ≤ cnt + k * top ∧ KeptBut w3 wr (some mb) ∧ RowKit.Hid (lineG cs s = tryL (fun k => (lineG cs (s ||| bit k)).map (k :: ·)) ((l.drop k).filter (fitC cs s)))) (fun _ iv _ => l.length - (RowKit.intOf iv).toNat)
  case atStart => exact ⟨0, cnt, D, Nat.zero_le _, rfl, hw3, by omega, KeptBut.ofBelowC (Below.refl _ _), HT0⟩
  case round =>
    clear hw hw3 HT0
    obtain ⟨k, cnt', D', hk, rfl, hw, hcl, hkr, HTK⟩ := hrel
    have hkw := hk3.trans hkr
    have hmap := hw.map
    have c0 := hw.c0
    have c1 := hw.c1
    by_cases hlt2 : k < l.length
    case neg =>
      have HN := Lib.hid (show lineG cs s = none by rw [HTK.out, List.drop_eq_nil_of_le (by omega)]; rfl)
      have HKP := Lib.hid (hw.known.put (c := s) hmap.isMap HN.out)
      have hce : cnt' + 1 ≤ cnt + storesC (f' + 1) := by
        have h1 : k * top ≤ (f' + 1) * top := Nat.mul_le_mul_right _ (by omega)
        rw [HSN.out, ← HTOP.out]; omega
      have hcm : cnt' < maxLen := by
        have := HCNT.out
        have h1 : k * top ≤ (f' + 1) * top := Nat.mul_le_mul_right _ (by omega)
        unfold maxLen; omega
      have HCE := Lib.hid hce
      clear hce
      go_wp2_with (at_mapUpdate; refine wpList_mapUpdate_own _ rfl _ _ _ 102 rfl 82 4 keyVsetC Tryd.underlying102 _ mb cnt' D' rfl hmap hcm _ _ _ rfl rfl hkey _ [] (plainElem_bool Tryd.underlying4 true) ?_; intro w4 hown4 hgrow4)
      go_ret
      exact ⟨_, rfl, fun _ => rfl, fun r h => (by rw [HN.out] at h; cases h), ⟨cnt' + 1, _, hw.put hgrow4 hown4 HKP.out, HCE.out⟩, hkw.trans (KeptBut.of_grown hgrow4)⟩
    have hvl := HBL.out l[k] (List.getElem_mem hlt2)
    obtain ⟨lg, lc2, hle⟩ := own_some hlv (by omega)
    simp only [Value.slice.injEq, true_and] at hle
    obtain ⟨rfl, rfl⟩ := hle
    have hlc := cellsC hlv k (by simpa using hlt2)
    simp only [List.getElem_map] at hlc
    have hlgb := hlv.lt lg rfl
    have hlc2 : wr.cell? ⟨lg, k, none⟩ = some (.int .i64 (l[k] : Int)) := (World.cell?_of_block (a := ⟨lg, k, none⟩) (hkr.2.2.2.2 lg hlgb.2 (by simp; omega))).trans hlc
    have HTR := Lib.hid (HTK.out.trans (HTS.out k hlt2))
    have HFv := Lib.hid (HFI.out l[k])
    generalize l[k] = v at *
    have hn := hw.nets
    have c3 : wr.cell? ⟨ng, v, none⟩ = some (.int .u32 (cs.getD v 0 : Int)) := by
      obtain ⟨nb, noff, ncap, hve, hcc⟩ := hn.at_
      have hve := hve (by rw [natsI_len]; omega)
      simp only [natsI_len, Value.slice.injEq, Option.some.injEq, Addr.mk.injEq, and_true, true_and] at hve
      obtain ⟨⟨rfl, rfl⟩, rfl⟩ := hve
      have h := hcc v (by rw [natsI_len]; exact hvl.1)
      rw [Nat.zero_add] at h
      rw [h, natsI_get, List.getD_eq_getElem?_getD, List.getElem?_eq_getElem hvl.1, Option.getD_some]
    have hcv := hlt v
    have hnot : bits BinOp.andNot IntKind.u32 (op : Int) (cs.getD v 0 : Int) = (andN op (cs.getD v 0) : Int) := u32_andNot_nat _ _ (by omega) (by omega)
    have hv1 := hvl.1
    have hv32 : v < 32 := by omega
    have hbv : bit v < 4294967296 := bit_lt hv32
    have hor : bits BinOp.or IntKind.u32 (s : Int) (bit v : Int) = ((s ||| bit v : Nat) : Int) := u32_or_nat s (bit v) hs32 hbv
    have hone := fun (W : World) => one_any (v : Int) W (by omega) (by omega)
    rw [Int.toNat_natCast] at hone
    clear hlc
    by_cases hfit : andN op (cs.getD v 0) = 0
    case neg =>
      have HNX := Lib.hid (show lineG cs s = tryL (fun k => (lineG cs (s ||| bit k)).map (k :: ·)) ((l.drop (k + 1)).filter (fitC cs s)) from HTR.out.trans (if_neg (by rw [HFv.out, decide_eq_true_eq]; exact hfit)))
      have hz1 : ((andN op (cs.getD v 0) : Int) != 0) = true := by rw [bne_iff_ne]; omega
      have hz2 : ((andN op (cs.getD v 0) : Nat) != 0) = true := by rw [bne_iff_ne]; exact hfit
      have hck : cnt' ≤ cnt + (k + 1) * top := by rw [Nat.add_mul, Nat.one_mul]; omega
      generalize andN op (cs.getD v 0) = q at *
      generalize cs.getD v 0 = cv at *
      clear hfit
      go_wp2
      go_roundw
      case rel => exact ⟨k + 1, cnt', D', by omega, by go_num, hw, hck, hkr, HNX⟩
      case measure => simp [RowKit.intOf]; omega
    have HTR2 := Lib.hid (HTR.out.trans (if_pos (by rw [HFv.out, decide_eq_true_eq]; exact hfit)))
    rw [hfit] at hnot
    have hmul : cnt' + top ≤ cnt + (k + 1) * top := by rw [Nat.add_mul, Nat.one_mul]; omega
    have hcx : cnt' + storesC f' ≤ 2000000000000000 := by
      have h1 := HCNT.out
      have h2 : (k + 1) * top ≤ (f' + 1) * top := Nat.mul_le_mul_right _ (by omega)
      rw [← HTOP.out]; omega
    have hpm := HPM.out v hvl.1 hvl.2
    have hfx : cs.length - popN (s ||| bit v) = f' := by have := HF.out; omega
    have hrec := HIH.out f' (by omega) (s ||| bit v) cnt' D' wr hfx (more_lt hs hvl.1) hw hcx
    rw [← HTOP.out] at hrec
    have hwd := hkw.2.2.2.1
    generalize lineG cs (s ||| bit v) = o at *
    generalize s ||| bit v = sv at *
    generalize bit v = bv at *
    generalize cs.getD v 0 = cv at *
    clear hpm hfx hcx hfit hcv
    unfold GroP at hrec
    go_wp2_with (go_at_call 104; refine (hone _).mono ?_; rintro e w' ⟨rfl, rfl⟩)
    refine hrec.mono ?_
    rintro e w4 ⟨rv, rfl, hro, hrs, ⟨cnt4, D4, hw4, hcl4⟩, hk4⟩
    have hck : cnt4 ≤ cnt + (k + 1) * top := by omega
    clear hrec hone hmul
    cases o with
    | none =>
      obtain rfl := hro rfl
      have HNX := Lib.hid (show lineG cs s = tryL (fun k => (lineG cs (s ||| bit k)).map (k :: ·)) ((l.drop (k + 1)).filter (fitC cs s)) from HTR2.out)
      clear hro hrs
      go_wp2
      go_roundw
      case rel => exact ⟨k + 1, cnt4, D4, by omega, by go_num, hw4, hck, hkr.trans hk4, HNX⟩
      case measure => simp [RowKit.intOf]; omega
    | some r =>
      obtain ⟨rb, rc, rfl, hrown⟩ := hrs r rfl
      have HSM := Lib.hid (show lineG cs s = some (v :: r) from HTR2.out)
      have hrl : r.length ≤ 100000 := by
        have h := (lineF_facts h16 _ s (v :: r) hs HSM.out).1
        simp only [List.length_cons] at h
        omega
      have hqa : Below w4.heap.size w4 (w4.alloc (.cells #[.int .i64 (v : Int)] 3)) := (Below.refl _ _).alloc (Nat.le_refl _) _
      have hza : w4.heap.size ≤ (w4.alloc (.cells #[.int .i64 (v : Int)] 3)).heap.size := by simp
      have hlit : Own (w4.alloc (.cells #[.int .i64 (v : Int)] 3)) w4.heap.size 3 1 (.slice (some ⟨w4.heap.size, 0, none⟩) 1 1) 1 [.int .i64 (v : Int)] := by
        have := World.ownsRow_lit (base := w4.heap.size) (e := 3) (size := 1) w4 #[.int .i64 (v : Int)] 1 (Nat.le_refl _) (by unfold maxLen; omega) rfl
        simpa [Own] using this
      have hra := hrown.below hqa (Nat.le_refl _)
      have hnews : ∀ j u, ((natsI r).map (Value.int .i64))[j]? = some u → (w4.alloc (.cells #[.int .i64 (v : Int)] 3)).cell? ((⟨rb, 0, none⟩ : Addr).add j) = some u := fun j u hj => by
        obtain ⟨h1, rfl⟩ := List.getElem?_eq_some_iff.1 hj
        have h := cellsC hra j h1
        by_cases e : j = 0
        · subst e; simpa [Addr.add] using h
        · simpa [Addr.add, e] using h
      have hnl : ((natsI r).map (Value.int .i64)).length = r.length * 1 := by simp [natsI]
      have hn1 : ∀ u ∈ (natsI r).map (Value.int .i64), u.oneCell' = true := fun u hu => by
        obtain ⟨x, _, rfl⟩ := List.mem_map.1 hu; rfl
      have HNL := Lib.hid hnl
      have hbw4 := Nat.le_trans hwd hk4.2.2.2.1
      have hkw4 := hkw.trans hk4
      have HRV := Lib.hid (show (natsI (v :: r)).map (Value.int .i64) = [.int .i64 (v : Int)] ++ (natsI r).map (Value.int .i64) by simp [natsI])
      clear hnl hrown hra
      go_wp2_with (at_builtin; refine wpList_append elIntC rfl _ _ rfl hlit rfl rfl (news := (natsI r).map (Value.int .i64)) HNL.out hnews hn1 (by omega) hza ?_; intro v5 w5 ho5 g5 m5; refine hold_in ?_)
      unfold HoldP
      have hq5 := (KeptBut.of_grown g5).below hqa hza (fun b hb => hlit.ge b hb)
      obtain ⟨b5, c5, rfl⟩ := own_some ho5 (by omega)
      have hw5 := hw4.below hq5
      have hk5 := hkw4.trans (KeptBut.ofBelowC (r := some mb) hq5)
      have hce : cnt4 ≤ cnt + storesC (f' + 1) := by
        have h1 : (k + 1) * top ≤ (f' + 1) * top := Nat.mul_le_mul_right _ (by omega)
        rw [HSN.out, ← HTOP.out]; omega
      have HCE := Lib.hid hce
      have HL1 := Lib.hid (show (v :: r).length = 1 + r.length by simp; omega)
      clear hce
      go_wp2
      go_ret
      exact ⟨_, rfl, fun h => (by rw [HSM.out] at h; cases h), fun q h => (by rw [HSM.out] at h; cases h; exact ⟨b5, c5, by rw [HL1.out]; rfl, by rw [HL1.out, HRV.out]; exact ho5.weak (by omega)⟩), ⟨cnt4, D4, hw5, HCE.out⟩, hk5⟩
/-- The order of the greatest cliques, where there is one. -/
def orderF (g : List (List Int)) : Option (List Nat) := if (peo (netsL g)).isSome = true then lineG (clqs (netsL g)) 0 else none
noncomputable def cliqO (g : List (List Int)) : Option (List Nat) := if gokB g = true then orderF g else none
theorem clqs_net {g : List (List Int)} (hg : GOk g) : (clqs (netsL g)).Pairwise LtW ∧ (clqs (netsL g)).Nodup ∧ (∀ r ∈ clqs (netsL g), MaxC (netsL g) (netsL g).length r) ∧ (peo (netsL g) ≠ none → (clqs (netsL g)).length ≤ (netsL g).length) :=
  clqs_facts (by rw [netsL_len]; exact hg.lo) (by rw [netsL_len]; exact hg.hi) (net_lt32 hg) (fun _ _ h => (net_sym hg h).2.2.2) (net_irr hg)
theorem clqs_lt16 {g : List (List Int)} (hg : GOk g) : ∀ m ∈ clqs (netsL g), m < 65536 := fun m hm => by
  have h := ((clqs_net hg).2.2.1 m hm).lt
  rw [netsL_len] at h
  exact Nat.lt_of_lt_of_le (lt_bits h) (Nat.le_trans (Nat.pow_le_pow_right (by omega) hg.hi) (by decide))
theorem clqs_getD16 {g : List (List Int)} (hg : GOk g) (k : Nat) : (clqs (netsL g)).getD k 0 < 2 ^ 16 := by
  rw [List.getD_eq_getElem?_getD]
  by_cases hk : k < (clqs (netsL g)).length
  · rw [List.getElem?_eq_getElem hk]; exact clqs_lt16 hg _ (List.getElem_mem hk)
  · rw [List.getElem?_eq_none (by omega)]; decide
theorem clqs_len16 {g : List (List Int)} (hg : GOk g) : (clqs (netsL g)).length ≤ 65536 := by
  have := List.Nodup.length_le_of_subset (l₁ := clqs (netsL g)) (l₂ := List.range 65536) (clqs_net hg).2.1 (fun m hm => by rw [List.mem_range]; exact clqs_lt16 hg m hm)
  simpa using this
theorem clqs_ne {g : List (List Int)} (hg : GOk g) : 0 < (clqs (netsL g)).length := by
  have h := clqF_ne (H := netsL g) (net_irr hg) 33 0 (firstN (netsL g).length) (by have := popN_32 (firstN (netsL g).length); omega) (by have := firstN_lt (n := (netsL g).length) (by rw [netsL_len]; exact hg.hi); omega)
  exact List.length_pos_iff.2 h
theorem lineF_len {cs : List Nat} (hm : cs.length ≤ 16) {s : Nat} {r : List Nat} (hs : s < 2 ^ cs.length) (h : lineG cs s = some r) : r.length ≤ 16 ∧ ∀ k ∈ r, k < cs.length := by
  have := lineF_facts hm _ s r hs h
  exact ⟨by omega, this.2⟩
theorem strictW_ext : ∀ {l m : List Nat}, l.Pairwise LtW → m.Pairwise LtW → m.Perm l → l = m
  | [], m, _, _, hp => (List.perm_nil.1 hp).symm
  | x :: l, [], _, _, hp => absurd hp.length_eq (by simp)
  | x :: l, y :: m, h1, h2, hp => by
    rw [List.pairwise_cons] at h1 h2
    have e : x = y := by
      rcases List.mem_cons.1 (hp.mem_iff.2 (List.mem_cons_self (a := x) (l := l))) with e | hx
      · exact e
      · rcases List.mem_cons.1 (hp.mem_iff.1 (List.mem_cons_self (a := y) (l := m))) with e | hy
        · exact e.symm
        · exact absurd (h1.1 y hy) (LtW.asym _ _ (h2.1 x hx))
    subst e
    rw [strictW_ext h1.2 h2.2 hp.cons_inv]
theorem eqlIntsC : ∀ (w : World) (a : Option Addr) (n c n' c' : Nat), (binOp .eql 71 (.slice a n c) (.slice none n' c')).run Tryd.prog w = .ok (.bool a.isNone) w := fun w a n c n' c' => Lib.run_eql_slice_nil w _ _ a n c n' c' Tryd.underlying71
set_option maxRecDepth 100000 in
set_option maxHeartbeats 4000000 in
theorem cliquesOf_any {S : Nat → Prop} {nv : Value} {g : List (List Int)} {w : World} (ht : Tab w) (hg : GOk g) (hv : SlI S w .u32 nv (natsI (netsL g))) :
    Calls Tryd.prog 87 #[nv] w fun e w' => ∃ b c, e = .returned (.slice (some ⟨b, 0, none⟩) (clqs (netsL g)).length c) ∧ Own w' w.heap.size 82 1 (.slice (some ⟨b, 0, none⟩) (clqs (netsL g)).length c) (clqs (netsL g)).length ((natsI (clqs (netsL g))).map (.int .u32)) ∧ Below w.heap.size w w' := by
  have hnl := netsL_len g
  have h16 := hg.hi
  obtain ⟨va, vc, hve⟩ : ∃ va vc, nv = .slice va g.length vc := by obtain ⟨va, vc, h⟩ := hv.slice; rw [natsI_len, hnl] at h; exact ⟨va, vc, h⟩
  subst hve
  obtain ⟨a', b', off', cap', hve, hl', ha', hc'⟩ := hv
  have hv : SlI (fun b => S b ∧ b < w.heap.size) w .u32 (.slice va g.length vc) (natsI (netsL g)) := ⟨a', b', off', cap', hve, hl', fun h0 => ⟨(ha' h0).1, (ha' h0).2, cell_lt (hc' 0 h0)⟩, hc'⟩
  clear hve hl' ha' hc'
  have h0 : 0 < w.heap.size := cell_lt (ht 0 (by omega))
  have hgr := growCliques_any (S := fun b => S b ∧ b < w.heap.size) (nv := .slice va g.length vc) (H := netsL g) (B := w.heap.size) (net_lt32 hg) (net_irr hg) (fun b hb => hb.2) 33 0 (firstN g.length) 0 [] (.slice none 0 0) w ht h0 (Nat.le_refl _) hv (by have := popN_32 (firstN g.length); omega) (by omega) (by have := firstN_lt h16; omega) (by omega) (fun i hi => by rw [testBit_firstN, decide_eq_true_eq] at hi; rw [hnl]; exact hi) (by
    rw [List.nil_append, show clqF (netsL g) 33 0 (firstN g.length) 0 = clqs (netsL g) by unfold clqs; rw [hnl]]; have := clqs_len16 hg; omega) ⟨rfl, .inl ⟨rfl, rfl⟩⟩
  rw [List.nil_append, show clqF (netsL g) 33 0 (firstN g.length) 0 = clqs (netsL g) by unfold clqs; rw [hnl]] at hgr
  have hall := fun (W : World) => allOf_any va g.length vc W h16
  have hcn := clqs_net hg
  have hc16 := clqs_lt16 hg
  have hcl := clqs_len16 hg
  have hcp := clqs_ne hg
  have HEX := Lib.hid (fun (ms : List Nat) (hp : ms.Perm (clqs (netsL g))) (hs : ms.Pairwise fun x y => cmpL (bitsI x) (bitsI y) < 0) => strictW_ext hcn.1 hs hp)
  have HND := Lib.hid hcn.2.1
  have HC16 := Lib.hid hc16
  have HT := Lib.hid ht
  clear hcn hc16
  generalize clqs (netsL g) = cs at *
  simp only [show ((0 : Nat) : Int) = 0 from rfl] at hgr
  go_enter Tryd.func87, Tryd.ntmps87
  go_wp2_with (go_at_call 74; refine (hall _).mono ?_; rintro e w' ⟨rfl, rfl⟩)
  refine hgr.mono ?_
  rintro e w1 ⟨u, rfl, hown, hst⟩
  have hb1 : Below w.heap.size w w1 := hst.toBelowC (Nat.le_refl _) (fun b hb => by cases hb)
  obtain ⟨ob, oc, rfl⟩ := own_some hown hcp
  have hob := (hown.lt ob rfl).1
  have hso := sortLists w1 w.heap.size ob oc cs (HT.out.below hb1 (Nat.le_refl _)) (by omega) HC16.out HND.out (by omega) hown
  have hs1 := hb1.size
  clear hall hgr
  go_wp2_with (go_at_call 74; fail)
  refine hso.mono ?_
  rintro e w2 ⟨rfl, ms', hp, hs, ho2, hk2⟩
  have HE := Lib.hid (HEX.out ms' hp hs)
  go_wp2
  go_ret
  exact ⟨ob, oc, rfl, by have h := ho2; rw [← HE.out] at h; exact h, hk2.below hb1 hs1 (fun c hc => by simp at hc; omega)⟩
/-- What cliqueOrder answers. -/
def OrdP (cs : List Nat) (o : Option (List Nat)) (w : World) (e : Ending) (w' : World) : Prop :=
  ∃ v cv, e = .returned (.tuple #[v, cv]) ∧ (o = none → v = .slice none 0 0) ∧ (∀ r, o = some r → (∃ b c, v = .slice (some ⟨b, 0, none⟩) r.length c ∧ Own w' w.heap.size 3 1 v r.length ((natsI r).map (.int .i64))) ∧ SlI (fun b => w.heap.size ≤ b ∧ b < w'.heap.size) w' .u32 cv (natsI cs)) ∧ Below w.heap.size w w'
set_option maxRecDepth 100000 in
set_option maxHeartbeats 4000000 in
theorem cliqueOrder_any {S : Nat → Prop} {nv : Value} {g : List (List Int)} {w : World} (ht : Tab w) (hg : GOk g) (hv : SlI S w .u32 nv (natsI (netsL g))) :
    Calls Tryd.prog 52 #[nv] w (OrdP (clqs (netsL g)) (orderF g) w) := by
  have hnl := netsL_len g
  have h16 := hg.hi
  obtain ⟨va, vc, hve⟩ : ∃ va vc, nv = .slice va g.length vc := by obtain ⟨va, vc, h⟩ := hv.slice; rw [natsI_len, hnl] at h; exact ⟨va, vc, h⟩
  subst hve
  have hpo := perfectOrder_any ht hv (by rw [hnl]; exact hg.lo) (by rw [hnl]; exact h16) (fun m hm => by
    obtain ⟨i, hi, rfl⟩ := List.getElem_of_mem hm
    have := net_lt hg i
    rw [List.getD_eq_getElem?_getD, List.getElem?_eq_getElem hi, Option.getD_some] at this
    rw [hnl]; exact this)
  have hcq := fun (W : World) (hb : Below w.heap.size w W) => cliquesOf_any (ht.below hb (Nat.le_refl _)) hg (hv.below hb (Nat.le_refl _))
  have hnn := eqlIntsC
  cases hp : peo (netsL g) with
  | none =>
    rw [hp] at hpo
    have HO := Lib.hid (show orderF g = none by unfold orderF; rw [hp]; rfl)
    clear hp hcq
    go_enter Tryd.func52, Tryd.ntmps52
    go_wp2_with fail
    refine hpo.mono ?_
    rintro e w1 ⟨u, rfl, hu, hb1⟩
    rcases hu with ⟨-, rfl⟩ | ⟨r, h, -⟩
    case inr => cases h
    go_wp2
    go_ret2
    exact ⟨_, _, rfl, fun _ => rfl, fun r h => (by rw [HO.out] at h; cases h), hb1⟩
  | some p =>
    rw [hp] at hpo
    have HO := Lib.hid (show orderF g = lineG (clqs (netsL g)) 0 by unfold orderF; rw [hp]; rfl)
    have hcl : (clqs (netsL g)).length ≤ 16 := by have := (clqs_net hg).2.2.2 (by rw [hp]; simp); omega
    have hgd := clqs_getD16 hg
    have hnn2 := clqs_ne hg
    have hmm := @run_makeMap Tryd.prog
    have h0 : 0 < w.heap.size := cell_lt (ht 0 (by omega))
    have HT := Lib.hid ht
    clear hp
    generalize clqs (netsL g) = cs at *
    go_enter Tryd.func52, Tryd.ntmps52
    go_wp2_with fail
    refine hpo.mono ?_
    rintro e w1 ⟨u, rfl, hu, hb1⟩
    rcases hu with ⟨h, -⟩ | ⟨r, -, -, ua, uc, rfl, -⟩
    case inl => cases h
    clear hpo
    go_wp2_with fail
    refine (hcq w1 hb1).mono ?_
    rintro e w2 ⟨cb, cc, rfl, hco, hb2⟩
    have hb12 := hb1.trans (hb2.mono hb1.size)
    have hs1 := hb1.size
    have hs2 := hb2.size
    have hcb := hco.lt cb rfl
    have hq0 : Below w2.heap.size w2 ((w2.alloc (.map #[] 0)).alloc (.cells #[.slice (some ⟨cb, 0, none⟩) cs.length cc, .map (some w2.heap.size)] 104)) := ((Below.refl _ _).alloc (Nat.le_refl _) _).alloc (by simp) _
    have hci := hco.ints (xs := natsI cs) (by omega)
    have hls : LS ((w2.alloc (.map #[] 0)).alloc (.cells #[.slice (some ⟨cb, 0, none⟩) cs.length cc, .map (some w2.heap.size)] 104)) cs cs.length cb cc (w2.heap.size + 1) w2.heap.size 0 (.map []) :=
      ⟨(HT.out.below hb12 (Nat.le_refl _)).below hq0 (Nat.le_refl _), (hci.below hq0 (Nat.le_refl _)).weak (fun b hb => by have e : cb = b := Option.some.inj hb; subst e; exact ⟨by omega, by simp; omega⟩), by simp [go_sem], by simp [go_sem], by omega, by omega,
        (World.ownsMap_made w2 _ _ _).alloc _, fun c _ hh => by simp [DataW.atKey] at hh⟩
    have hgl := growLine_any (cs := cs) hcl rfl hgd cs.length 0 0 (.map []) _ (by rw [(popN_zero (by omega)).2 rfl]; omega) (Nat.two_pow_pos _) hls (by have := storesC_le hcl; omega)
    have hci3 : SlI (fun b => w.heap.size ≤ b ∧ b < w2.heap.size) w2 .u32 (.slice (some ⟨cb, 0, none⟩) cs.length cc) (natsI cs) := hci.weak (fun b hb => by have e : cb = b := Option.some.inj hb; subst e; exact ⟨by omega, hcb.2⟩)
    have hbz := hb12.trans (hq0.mono hb12.size)
    clear hcq hls hco hci
    simp only [show ((0 : Nat) : Int) = 0 from rfl] at hgl
    go_wp2_with fail
    refine hgl.mono ?_
    rintro e w4 ⟨v4, rfl, hno, hso, ⟨cnt4, D4, hw4, -⟩, hk4⟩
    have hsz4 := hk4.2.2.2.1
    have hfin : Below w.heap.size w w4 := hk4.below hbz (by have := hq0.size; omega) (fun b hb => by have e : w2.heap.size = b := (Option.some.inj hb); omega)
    have hci4 : SlI (fun b => w.heap.size ≤ b ∧ b < w4.heap.size) w4 .u32 (.slice (some ⟨cb, 0, none⟩) cs.length cc) (natsI cs) := ((hci3.below hq0 (Nat.le_refl _)).keep fun b hb => hk4.2.2.2.2 b (by have := hq0.size; have := hb.2; omega) (fun e => by have e2 := Option.some.inj e; have := hb.2; omega)).weak fun b hb => ⟨hb.1, by have := hq0.size; have := hb.2; omega⟩
    have hszq := hq0.size
    clear hci3 hw4 hgl
    cases ho : lineG cs 0 with
    | none =>
      obtain rfl := hno ho
      have HO2 := Lib.hid (HO.out.trans ho)
      clear ho hno hso
      go_wp2
      go_ret2
      exact ⟨_, _, rfl, fun _ => rfl, fun r h => (by rw [HO2.out] at h; cases h), hfin⟩
    | some r =>
      obtain ⟨rb, rc, rfl, hro⟩ := hso r ho
      have HO2 := Lib.hid (HO.out.trans ho)
      clear ho hno hso
      go_wp2
      go_ret2
      exact ⟨_, _, rfl, fun h => (by rw [HO2.out] at h; cases h), fun r' h => (by rw [HO2.out] at h; cases h; exact ⟨⟨rb, rc, rfl, hro.weak (by omega)⟩, hci4⟩), hfin⟩
end Go.Proofs.YtpdlcnpmljfclaaDoor
