/- Sets compared, with what slices.SortFunc asks of a comparison: the world grows alone. -/
import Derived.Test.YtpdlcnpmljfclaaDoorBits
import Derived.Test.YtpdlcnpmljfclaaDoorPop
import Derived.Test.YtpdlcnpmljfclaaDoorSrtM
import Derived.Shelf.SlSortCmp.Kit1
namespace Go.Proofs.YtpdlcnpmljfclaaDoor
open Go.RowKit
/-- Old blocks are as they were; no draw is taken back. -/
def BelowD (w w' : World) : Prop := Below w.heap.size w w' ∧ w.drawn ≤ w'.drawn
theorem BelowD.refl (w : World) : BelowD w w := ⟨Below.refl _ _, Nat.le_refl _⟩
theorem BelowD.trans {a b c : World} (h : BelowD a b) (k : BelowD b c) : BelowD a c := ⟨h.1.trans (k.1.mono h.1.size), Nat.le_trans h.2 k.2⟩
theorem BelowD.ofDrawn {w w' : World} (h : Drawn w w') : BelowD w w' := by
  obtain ⟨n, rfl⟩ := h
  exact ⟨(Below.refl _ _).drewN' n, by show w.drawn ≤ w.drawn + n; omega⟩
theorem BelowD.alloc (w : World) (o : Obj) : BelowD w (w.alloc o) := ⟨(Below.refl _ _).alloc (Nat.le_refl _) _, Nat.le_refl _⟩
/-- The world has grown. -/
theorem BelowD.grown {w w' : World} (h : BelowD w w') : ∃ q os, w' = Go.Sort.grow (w.drewN q) os := by
  obtain ⟨⟨h1, h2, h3, h4, h5⟩, h6⟩ := h
  refine ⟨w'.drawn - w.drawn, w'.heap.extract w.heap.size w'.heap.size, ?_⟩
  have hh : w'.heap = w.heap ++ w'.heap.extract w.heap.size w'.heap.size := by
    apply Array.ext
    · simp; omega
    · intro i hi1 hi2
      rw [Array.getElem_append]
      split
      case isTrue hlt =>
        have := h5 i hlt
        rw [Array.getElem?_eq_getElem hi1, Array.getElem?_eq_getElem hlt] at this
        exact Option.some.inj this
      case isFalse hge =>
        rw [Array.getElem_extract]
        congr 1
        omega
  cases w with
  | mk heap tape drawn os output =>
    cases w' with
    | mk heap' tape' drawn' os' output' =>
      simp only at h1 h2 h3 h6 hh
      subst h1 h2 h3
      simp only [Go.Sort.grow, World.drewN, World.mk.injEq, true_and, and_true]
      exact ⟨hh, by omega⟩
theorem append_runD {P : Program} {w : World} {T ty E : TypeId} {bytes : Nat} {z : Value} (hE : Elem P T E 1 bytes z) {B : Nat}
    (v : Value) (n : Nat) (xs : List Value) (hown : Own w B E 1 v n xs)
    (a : Addr) (c : Nat) (u : Value) (hnew : w.cell? a = some u) (h1 : u.oneCell' = true)
    (h63 : n + 1 ≤ 1099511627) (hbase : B ≤ w.heap.size) :
    ∃ v' w', (Builtin.append_ #[T, T] ty #[v, .slice (some a) 1 c]).run P w = .ok v' w' ∧ Own w' B E 1 v' (n + 1) (xs ++ [u]) ∧ KeptBut w w' v.ownBlock ∧ w.drawn ≤ w'.drawn := by
  have hnews : ∀ j u', [u][j]? = some u' → w.cell? (a.add j) = some u' := fun j u' hj => by
    match j, hj with
    | 0, hj => simp at hj; subst hj; simpa [Addr.add] using hnew
  obtain ⟨i, hi, hzz⟩ := Option.map_eq_some_iff.1 hE.hi
  simp only [Prod.mk.injEq] at hzz
  obtain ⟨hz, hsz, hby⟩ := hzz
  have hbb := hE.hb
  have hbytes : (n + 1) * i.bytes ≤ 140737488355328 := by
    rw [hby]
    have : (n + 1) * bytes ≤ 1099511627 * 4096 := Nat.mul_le_mul h63 hbb
    omega
  have h63' : n + 1 ≤ maxLen := by unfold maxLen; omega
  obtain ⟨hlen, hown⟩ := hown
  have hll : (xs ++ [u]).length = (n + 1) * 1 := by rw [List.length_append, hlen]; simp
  have grown : ∀ (old : Nat), old < n + 1 → ∀ (row : Option Nat),
      Own (w.drew.alloc (.cells (xs.toArray ++ [u].toArray ++ Builtin.zeroCells z.cells (grownCap w (n + 1) old E - (n + 1))) E)) B E 1
        (.slice (some ⟨w.heap.size, 0, none⟩) (n + 1) (grownCap w (n + 1) old E)) (n + 1) (xs ++ [u]) ∧
      KeptBut w (w.drew.alloc (.cells (xs.toArray ++ [u].toArray ++ Builtin.zeroCells z.cells (grownCap w (n + 1) old E - (n + 1))) E)) row ∧
      w.drawn ≤ (w.drew.alloc (.cells (xs.toArray ++ [u].toArray ++ Builtin.zeroCells z.cells (grownCap w (n + 1) old E - (n + 1))) E)).drawn := by
    intro old ho row
    have hge := grownCap_ge w (n + 1) old E
    have hcm : grownCap w (n + 1) old E ≤ maxLen := grownCap_le_maxLen w (n + 1) old E h63'
    refine ⟨⟨hll, .inr ⟨w.heap.size, _, _, rfl, hbase, heap_alloc_new w.drew _, hge, hcm, ?_, ?_⟩⟩, ⟨rfl, rfl, rfl, by simp, fun k hk _ => Below.heap_alloc w.drew _ k hk⟩, Nat.le_succ _⟩
    · simp only [Array.size_append, List.size_toArray, size_zeroCells, hE.hz, hlen, List.length_singleton]
      omega
    · simp only [Array.toList_append, List.append_assoc]
      rw [← List.append_assoc, ← hll]
      exact List.take_left
  rcases hown with ⟨rfl, rfl⟩ | ⟨g, cap, cur, rfl, hbg, hg, hnc, hcm, hcs, htake⟩
  · have hx : xs = [] := List.eq_nil_of_length_eq_zero (by simpa using hlen)
    subst hx
    have hr := run_append_nil (P := P) w T ty E i z hE.ht hi hz a 1 c [u] (by rw [hsz]; rfl) hnews (by omega) (by omega) (by have hb := hbytes; simp only [Nat.zero_add] at hb; omega)
    have hgr := grown 0 (by omega) (Value.ownBlock (.slice none 0 0))
    simp only [Nat.zero_add, List.nil_append, Array.empty_append] at hgr ⊢
    exact ⟨_, _, hr, hgr.1, hgr.2.1, hgr.2.2⟩
  · by_cases hroom : n + 1 ≤ cap
    · have hfit : n * i.size + [u].length ≤ cur.size := by rw [hcs, hsz]; simp; omega
      have hr := run_append_room (P := P) w T ty E i hE.ht hi g n cap cur hg a 1 c [u] (by rw [hsz]; rfl) hnews (fun u' hu' => by simp at hu'; subst hu'; exact h1) hroom hfit
      refine ⟨_, _, hr, ⟨hll, .inr ⟨g, cap, _, rfl, hbg, setRow_heap w g cur _ E _ hg, hroom, hcm, ?_, ?_⟩⟩, ⟨rfl, rfl, rfl, by simp, fun k _ hk => setRow_other w g k _ (fun e => hk (by simp [Value.ownBlock, e]))⟩, Nat.le_refl _⟩
      · simp only [List.size_toArray, List.length_append, List.length_take, List.length_drop, Array.length_toList]
        omega
      · rw [hsz, htake, ← hll]
        exact List.take_left
    · have holds : ∀ j u, xs[j]? = some u → w.cell? ((⟨g, 0, none⟩ : Addr).add j) = some u :=
        World.ownsRow.cells (base := B) (e := E) (size := 1) (v := .slice (some ⟨g, 0, none⟩) n cap) (n := n) ⟨hlen, .inr ⟨g, cap, cur, rfl, hbg, hg, hnc, hcm, hcs, htake⟩⟩ (g := g) rfl
      have hr := run_append_grow (P := P) w T ty E i z hE.ht hi hz ⟨g, 0, none⟩ n cap xs (by rw [hlen, hsz]) holds a 1 c [u] (by rw [hsz]; rfl) hnews (by omega) (by omega) (growslice_fits (by omega) hbytes)
      have hgr := grown cap (by omega) (Value.ownBlock (.slice (some ⟨g, 0, none⟩) n cap))
      exact ⟨_, _, hr, hgr.1, hgr.2.1, hgr.2.2⟩
theorem wpList_append1D {P : Program} {w : World} {T E : TypeId} {bytes : Nat} {z : Value} (hE : Elem P T E 1 bytes z) {B : Nat}
    {ops : Array Oper} {rest : List Oper} {o : Oper} {a : Act} {Q : Exit → Act → World → Prop} (hgd : o.guard = none) (s x : Operand)
    (ho : o.op = .call { callee := .builtin .append, args := #[s, x], argTypes := #[T, T] })
    {v : Value} {n : Nat} {xs : List Value} (hown : Own w B E 1 v n xs) (hs : a.eval s = v) {u : Value}
    (hx : a.eval x = .slice (some ⟨w.heap.size, 0, none⟩) 1 1) (h1 : u.oneCell' = true)
    (h63 : n + 1 ≤ 1099511627) (hbase : B ≤ w.heap.size)
    (h : ∀ v' w', Own w' B E 1 v' (n + 1) (xs ++ [u]) → KeptBut w w' v.ownBlock → w.drawn ≤ w'.drawn → wpList P ops Q rest (a.put o.dst v') w') : wpList P ops Q (o :: rest) a (w.alloc (.cells #[u] E)) :=
  wpList_plain hgd fun _ hK => by
    obtain ⟨v', w', hr, h2, h3, h4⟩ := append_runD (w := w.alloc (.cells #[u] E)) (ty := o.type) hE v n xs (World.ownsRow.alloc hown _) ⟨w.heap.size, 0, none⟩ 1 u (by simp) h1 h63 (by simp; omega)
    unfold Oper.wp execOp
    simp only [ho, resolve, invoke, builtin, Sem.run_bind, Sem.run_pure, Result.andThen_ok, List.map_toArray, List.map_cons, List.map_nil, hs, hx, hr]
    exact hK _ _ (h v' w' h2 (KeptBut.alloc ⟨h3.1, h3.2.1, h3.2.2.1, h3.2.2.2.1, h3.2.2.2.2⟩) h4)
set_option maxHeartbeats 1000000 in
theorem listD_any (m : Nat) (w : World) (ht : Tab w) (h1 : m < 4294967296) :
    Calls Tryd.prog 111 #[.int .u32 m] w fun e w' => ∃ u, e = .returned u ∧ Own w' w.heap.size 3 1 u (bitsI m).length ((bitsI m).map (.int .i64)) ∧ BelowD w w' := by
  go_enter Tryd.func111, Tryd.ntmps111
  go_wp2
  go_loopw [3, 0] (fun o s wr => ∃ (v : Value) (done : List Int) (r : Nat), o = v ∧ s = .int .u32 (r : Int) ∧ r < 4294967296 ∧ done ++ bitsI r = bitsI m ∧ Own wr w.heap.size 3 1 v done.length (done.map (.int .i64)) ∧ Below w.heap.size w wr ∧ w.drawn ≤ wr.drawn) (fun _ s _ => (intOf s).toNat)
  case atStart =>
    refine ⟨_, [], m, rfl, rfl, h1, rfl, ?_, (Below.refl _ _).alloc (Nat.le_refl _) _, Nat.le_refl _⟩
    exact World.ownsRow_lit (base := w.heap.size) (e := 3) (size := 1) w #[] 0 (Nat.le_refl _) (by unfold maxLen; omega) rfl
  case round =>
    obtain ⟨v, done, r, rfl, rfl, hr, hd, hown, hq, hdw⟩ := hrel
    have htb := ht.below hq (Nat.le_refl _)
    have HD := Lib.hid hd; clear hd
    by_cases h0 : r = 0
    · subst h0
      go_wp2
      go_ret
      have hd := HD.out
      rw [show bitsI 0 = [] by simp [bitsI, bitsN_zero], List.append_nil] at hd
      subst hd
      exact ⟨_, rfl, hown, hq, hdw⟩
    · have hn : ((r : Int) != 0) = true := by rw [bne_iff_ne]; omega
      have hsub : (r : Int) - 1 = ((r - 1 : Nat) : Int) := by omega
      have hand := u32_and_nat r (r - 1) hr (by omega)
      have hlen : done.length ≤ 32 := by have := bitsI_len m; rw [← HD.out, List.length_append] at this; omega
      have hB := hq.size
      have HS := Lib.hid hsub; have HA := Lib.hid hand; clear hsub hand
      go_wp2_with (first
        | (go_at_call 101; refine (least_any _ _ htb h0 hr).mono ?_; rintro e w' ⟨rfl, rfl⟩)
        | (at_builtin; refine wpList_append1D elInt rfl _ _ rfl hown rfl rfl rfl (by omega) hB ?_; intro v' w1 hown1 hkept hmv))
      go_roundw
      case rel =>
        have hd := HD.out
        rw [bitsI_step h0 hr] at hd
        refine ⟨v', done ++ [(Lib.ctz 32 r : Int)], r &&& (r - 1), rfl, ?_, by have := and_pred_lt h0; omega, by rw [List.append_assoc]; exact hd, by simpa using hown1, hkept.below hq hB hown.ge, Nat.le_trans hdw hmv⟩
        rw [HS.out, HA.out]
      case measure =>
        have := and_pred_lt h0
        simp only [intOf]
        rw [HS.out, HA.out]
        omega
theorem cmpL_step {xs ys : List Int} {k : Nat} (hx : k < xs.length) (hy : k < ys.length) : cmpL (xs.drop k) (ys.drop k) = if cmp1 xs[k] ys[k] = 0 then cmpL (xs.drop (k + 1)) (ys.drop (k + 1)) else cmp1 xs[k] ys[k] := by
  rw [List.drop_eq_getElem_cons hx, List.drop_eq_getElem_cons hy, cmpL]
  unfold cmp1
  by_cases h1 : xs[k] < ys[k]
  · rw [if_pos h1, if_pos h1]; rfl
  · rw [if_neg h1, if_neg h1]
    by_cases h2 : ys[k] < xs[k]
    · rw [if_pos h2, if_pos h2]; rfl
    · rw [if_neg h2, if_neg h2, if_pos rfl]
theorem cmp1_range (x y : Int) : -1 ≤ cmp1 x y ∧ cmp1 x y ≤ 1 := by unfold cmp1; split <;> (try split) <;> omega
theorem nanI_any (x : Int) (w : World) : Calls Tryd.prog 165 #[.int .i64 x] w fun e w' => e = .returned (.bool false) ∧ w = w' := by
  have h : ((x : Int) != x) = false := by simp
  go_enter Tryd.func165, Tryd.ntmps165
  go_wp2
  go_ret
  first | exact ⟨rfl, rfl⟩ | exact ⟨ret_bool (by simp), rfl⟩
theorem cmpI_any (x y : Int) (w : World) : Calls Tryd.prog 155 #[.int .i64 x, .int .i64 y] w fun e w' => e = .returned (.int .i64 (cmp1 x y)) ∧ w = w' := by
  have h1 := nanI_any x w
  have h2 := nanI_any y w
  by_cases hlt : x < y
  · have hc : cmp1 x y = -1 := by unfold cmp1; rw [if_pos hlt]
    rw [hc]
    have hd : decide (x < y) = true := decide_eq_true hlt
    clear hlt
    go_enter Tryd.func155, Tryd.ntmps155
    go_wp2_with (go_at_call 165; first | (with_reducible refine h1.mono ?_; rintro e w' ⟨rfl, rfl⟩) | (with_reducible refine h2.mono ?_; rintro e w' ⟨rfl, rfl⟩))
    go_ret
    exact ⟨rfl, rfl⟩
  · by_cases hgt : y < x
    · have hc : cmp1 x y = 1 := by unfold cmp1; rw [if_neg hlt, if_pos hgt]
      rw [hc]
      have hd : decide (x < y) = false := decide_eq_false hlt
      have hd2 : decide (y < x) = true := decide_eq_true hgt
      clear hlt hgt
      go_enter Tryd.func155, Tryd.ntmps155
      go_wp2_with (go_at_call 165; first | (with_reducible refine h1.mono ?_; rintro e w' ⟨rfl, rfl⟩) | (with_reducible refine h2.mono ?_; rintro e w' ⟨rfl, rfl⟩))
      go_ret
      exact ⟨rfl, rfl⟩
    · have hc : cmp1 x y = 0 := by unfold cmp1; rw [if_neg hlt, if_neg hgt]
      rw [hc]
      have hd : decide (x < y) = false := decide_eq_false hlt
      have hd2 : decide (y < x) = false := decide_eq_false hgt
      clear hlt hgt
      go_enter Tryd.func155, Tryd.ntmps155
      go_wp2_with (go_at_call 165; first | (with_reducible refine h1.mono ?_; rintro e w' ⟨rfl, rfl⟩) | (with_reducible refine h2.mono ?_; rintro e w' ⟨rfl, rfl⟩))
      go_ret
      exact ⟨rfl, rfl⟩
set_option maxHeartbeats 2000000 in
theorem compareI_any {S S' : Nat → Prop} {v u : Value} {xs ys : List Int} {w : World} (hv : SlI S w .i64 v xs) (hu : SlI S' w .i64 u ys) :
    Calls Tryd.prog 135 #[v, u] w fun e w' => e = .returned (.int .i64 (cmpL xs ys)) ∧ w = w' := by
  obtain ⟨a, b, off, cap, rfl, hl, ha, hc⟩ := hv
  obtain ⟨a2, b2, off2, cap2, rfl, hl2, ha2, hc2⟩ := hu
  have HC := Lib.hid hc
  have HC2 := Lib.hid hc2
  have HA := Lib.hid ha
  have HA2 := Lib.hid ha2
  have HST := Lib.hid (fun k (h1 : k < xs.length) (h2 : k < ys.length) => cmpL_step h1 h2)
  have HE0 := Lib.hid (show cmpL xs ys = cmpL (xs.drop 0) (ys.drop 0) by rw [List.drop_zero, List.drop_zero])
  have HEX : RowKit.Hid (∀ k, k < xs.length → ys.length ≤ k → cmpL (xs.drop k) (ys.drop k) = 1) := Lib.hid (fun k h1 h2 => by rw [List.drop_eq_getElem_cons h1, List.drop_eq_nil_of_le h2]; rfl)
  have HEN : RowKit.Hid (cmpL (xs.drop xs.length) (ys.drop xs.length) = if xs.length < ys.length then -1 else 0) := Lib.hid (by
    rw [List.drop_length]
    by_cases h : xs.length < ys.length
    · rw [if_pos h, List.drop_eq_getElem_cons h]; rfl
    · rw [if_neg h, List.drop_eq_nil_of_le (by omega)]; rfl)
  clear hc hc2 ha ha2
  go_enter Tryd.func135, Tryd.ntmps135
  go_wp2
  go_loop [11] (fun iv => ∃ k : Nat, k ≤ xs.length ∧ iv = .int .i64 k ∧ RowKit.Hid (cmpL xs ys = cmpL (xs.drop k) (ys.drop k))) (fun iv => xs.length - (intOf iv).toNat)
  case atStart => exact ⟨0, Nat.zero_le _, rfl, HE0⟩
  case round =>
    clear HE0
    obtain ⟨k, hk, rfl, HK⟩ := hrel
    by_cases hlt : k < xs.length
    case neg =>
      obtain rfl : k = xs.length := by omega
      have HR := Lib.hid (HK.out.trans HEN.out)
      by_cases h : xs.length < ys.length
      · have hd1 : decide ((xs.length : Int) < (ys.length : Int)) = true := decide_eq_true (by omega)
        have HR2 := Lib.hid (HR.out.trans (if_pos h))
        clear HR
        go_wp2
        go_ret
        exact ⟨ret_int HR2.out.symm, rfl⟩
      · have hd1 : decide ((xs.length : Int) < (ys.length : Int)) = false := decide_eq_false (by omega)
        have hd2 : decide (xs.length < ys.length) = false := decide_eq_false h
        have HR2 := Lib.hid (HR.out.trans (if_neg h))
        clear HR h
        go_wp2
        go_ret
        exact ⟨ret_int HR2.out.symm, rfl⟩
    have e1 := HC.out k hlt
    obtain ⟨rfl, -⟩ := HA.out (by omega)
    by_cases hly : k < ys.length
    case neg =>
      have hd1 : decide ((ys.length : Int) ≤ (k : Int)) = true := decide_eq_true (by omega)
      have HR := Lib.hid (HK.out.trans (HEX.out k hlt (by omega)))
      clear HK
      go_wp2
      go_ret
      exact ⟨ret_int HR.out.symm, rfl⟩
    have hd1 : decide ((ys.length : Int) ≤ (k : Int)) = false := decide_eq_false (by omega)
    have e2 := HC2.out k hly
    obtain ⟨rfl, -⟩ := HA2.out (by omega)
    have HS := Lib.hid (HST.out k hlt hly)
    have hcm := cmpI_any xs[k] ys[k] w
    clear HC HC2
    generalize xs[k] = x at *
    generalize ys[k] = y at *
    have hrg := cmp1_range x y
    generalize cmp1 x y = c at *
    by_cases h0 : c = 0
    · have hn : (c != 0) = false := by simp [h0]
      have HR := Lib.hid (HK.out.trans (HS.out.trans (if_pos h0)))
      clear HS HK h0
      go_wp2_with (go_at_call 155; with_reducible refine hcm.mono ?_; rintro e w' ⟨rfl, rfl⟩)
      go_round
      case rel => exact ⟨k + 1, by omega, by go_num, HR⟩
      case measure => simp [intOf]; omega
    · have hn : (c != 0) = true := by simp [h0]
      have HR := Lib.hid (HK.out.trans (HS.out.trans (if_neg h0)))
      clear HS HK h0
      go_wp2_with (go_at_call 155; with_reducible refine hcm.mono ?_; rintro e w' ⟨rfl, rfl⟩)
      go_ret
      exact ⟨ret_int HR.out.symm, rfl⟩
theorem compareSets_any {m k : Nat} {w : World} (ht : Tab w) (hm : m < 4294967296) (hk : k < 4294967296) :
    Calls Tryd.prog 115 #[.int .u32 (m : Int), .int .u32 (k : Int)] w fun e w' => e = .returned (.int .i64 (cmpL (bitsI m) (bitsI k))) ∧ BelowD w w' := by
  have h1 := listD_any m w ht hm
  have hml := bitsI_len m
  have hkl := bitsI_len k
  go_enter Tryd.func115, Tryd.ntmps115
  go_wp2_with fail
  refine h1.mono ?_
  rintro e w1 ⟨u, rfl, hu, hb1⟩
  have h2 := listD_any k w1 (ht.below hb1.1 (Nat.le_refl _)) hk
  obtain ⟨ua, uc, rfl⟩ := hu.isSlice
  go_wp2_with fail
  refine h2.mono ?_
  rintro e w2 ⟨v, rfl, hv, hb2⟩
  obtain ⟨va, vc, rfl⟩ := hv.isSlice
  have h3 := compareI_any ((Own.ints (xs := bitsI m) (k := .i64) hu (by omega)).below hb2.1 (Nat.le_refl _)) (Own.ints (xs := bitsI k) (k := .i64) hv (by omega))
  go_wp2_with fail
  refine h3.mono ?_
  rintro e w3 ⟨rfl, rfl⟩
  go_wp2
  go_ret
  exact ⟨rfl, hb1.trans hb2⟩
