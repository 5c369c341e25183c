/- CoStable and CoClique: the greatest number over the nodes of a tree. -/
import Derived.Test.YtakcoihndobmpaaDoorCoTree
namespace Go.Proofs.YtakcoihndobmpaaDoor
open Go.RowKit
def stepM (kind add : Int) (L : List Int) (n k : Int) : Int := if kind = add then n + L.getD k.toNat 0 else max n (L.getD k.toNat 0)
def valM (t : List PNode) (add : Int) (L : List Int) (i : Nat) : Int := if (nd t i).kind = 1 then 1 else (nd t i).kids.foldl (stepM (nd t i).kind add L) 0
def mostL (t : List PNode) (add : Int) : Nat → List Int
  | 0 => []
  | i + 1 => mostL t add i ++ [valM t add (mostL t add i) i]
theorem mostL_len (t : List PNode) (add : Int) : ∀ i, (mostL t add i).length = i
  | 0 => rfl
  | i + 1 => by rw [mostL, List.length_append, mostL_len t add i]; rfl
theorem mostL_get {t : List PNode} {add : Int} : ∀ {i j : Nat}, j < i → (mostL t add i).getD j 0 = valM t add (mostL t add j) j
  | i + 1, j, h => by
    rw [mostL]
    by_cases e : j = i
    · subst e
      rw [List.getD_eq_getElem?_getD, List.getElem?_append_right (by rw [mostL_len]; omega), mostL_len]; simp
    · have := mostL_get (t := t) (add := add) (i := i) (j := j) (by omega)
      rw [← this, List.getD_eq_getElem?_getD, List.getElem?_append_left (by rw [mostL_len]; omega), ← List.getD_eq_getElem?_getD]
def pfold (kind add : Int) (L kids : List Int) (r : Nat) : Int := (kids.take r).foldl (stepM kind add L) 0
theorem pfold_succ {kind add : Int} {L kids : List Int} {r : Nat} (h : r < kids.length) : pfold kind add L kids (r + 1) = stepM kind add L (pfold kind add L kids r) kids[r] := by
  unfold pfold; rw [List.take_succ_eq_append_getElem h, List.foldl_append]; rfl
theorem pop_mono {a b : Nat} : pop a ≤ pop (a ||| b) ∧ pop b ≤ pop (a ||| b) := by
  unfold pop bitsN
  have key : ∀ (l : List Nat) (c d : Nat), (∀ x, c.testBit x = true → d.testBit x = true) → (l.filter c.testBit).length ≤ (l.filter d.testBit).length := by
    intro l c d h
    induction l with
    | nil => simp
    | cons x l ih =>
      rw [List.filter_cons, List.filter_cons]
      by_cases h1 : c.testBit x = true
      · rw [if_pos h1, if_pos (h x h1)]; simpa using ih
      · rw [if_neg h1]
        split
        · simp; omega
        · exact ih
  exact ⟨key _ _ _ fun x h => by simp [h], key _ _ _ fun x h => by simp [h]⟩
/-- The numbers stay small: no more than the leaves. -/
theorem valM_small {t : List PNode} (hg : PGood t) (add : Int) : ∀ i, i < t.length → (0 ≤ valM t add (mostL t add i) i ∧ valM t add (mostL t add i) i ≤ 16) ∧ (valM t add (mostL t add i) i ≤ pop (msk t i)) ∧
    ∀ r, r ≤ (nd t i).kids.length → (nd t i).kind ≠ 1 → 0 ≤ pfold (nd t i).kind add (mostL t add i) (nd t i).kids r ∧ pfold (nd t i).kind add (mostL t add i) (nd t i).kids r ≤ 16 := by
  intro i
  induction i using Nat.strongRecOn with
  | _ i ih =>
    intro hi
    have hd : ∀ j, j ≤ i → Down t j := fun j hj => sok_down (hg.ok j (by omega)).1
    have hmf := msk_facts i hi hd
    have h16 := pop_le16 hmf.1
    by_cases h1 : (nd t i).kind = 1
    · have hp := pop_pos hmf.2 hmf.1
      unfold valM
      rw [if_pos h1]
      exact ⟨by omega, by omega, fun r _ h => absurd h1 h⟩
    · have hdj := ((hg.ok i hi).2 h1).2
      have hkm : (kmsk t i).length = (nd t i).kids.length := by simp [kmsk]
      have hks := kmsk_small hi (fun j hj => (hg.ok j (by omega)).1)
      have key : ∀ r, r ≤ (nd t i).kids.length → 0 ≤ pfold (nd t i).kind add (mostL t add i) (nd t i).kids r ∧ pfold (nd t i).kind add (mostL t add i) (nd t i).kids r ≤ pop (kfold (kmsk t i) r) := by
        intro r
        induction r with
        | zero => intro _; simp [pfold]
        | succ r ihr =>
          intro hr
          obtain ⟨i1, i2⟩ := ihr (by omega)
          have hkr := ((hd i (Nat.le_refl _)).2 h1).2 (nd t i).kids[r] (List.getElem_mem _)
          obtain ⟨⟨v1, v2⟩, v3, _⟩ := ih (nd t i).kids[r].toNat (by omega) (by omega)
          have hL := mostL_get (t := t) (add := add) (i := i) (j := (nd t i).kids[r].toNat) (by omega)
          have hrm : r < (kmsk t i).length := by omega
          have hmr : (kmsk t i)[r] = msk t (nd t i).kids[r].toNat := by simp [kmsk]
          have hkf := kfold_succ hrm
          have hfl := kfold_lt (fun m hm => (hks m hm).1) r
          have hml := (hks _ (List.getElem_mem hrm)).1
          have hand : kfold (kmsk t i) r &&& (kmsk t i)[r] = 0 := by
            apply Classical.byContradiction
            intro h; exact disj_bad hrm h hdj
          have hpo := (pop_or hfl hml).2.2 hand
          have hpm := pop_mono (a := kfold (kmsk t i) r) (b := (kmsk t i)[r])
          rw [hmr] at hkf hpo hpm
          rw [pfold_succ (by omega), hkf]
          unfold stepM
          rw [hL]
          split
          · omega
          · exact ⟨by omega, by omega⟩
      have hv : valM t add (mostL t add i) i = pfold (nd t i).kind add (mostL t add i) (nd t i).kids (nd t i).kids.length := by
        unfold valM pfold; rw [if_neg h1, List.take_length]
      have hk := key _ (Nat.le_refl _)
      have hm := msk_kfold hi hd h1
      rw [hkm] at hm
      rw [← hm, ← hv] at hk
      refine ⟨by omega, hk.2, fun r hr _ => ?_⟩
      have h2 := key r hr
      have h3 := kfold_lt (fun m hm => (hks m hm).1) r
      have h4 := pop_le16 h3
      omega
noncomputable def mostI (t : List PNode) (add : Int) : Int := if coB t = true then (mostL t add t.length).getD (t.length - 1) 0 else -1
theorem mostI_eq {t : List PNode} {add : Int} (h : CoGood t) : mostI t add = valM t add (mostL t add (t.length - 1)) (t.length - 1) := by
  have := h.1.pos
  rw [mostI, if_pos (coB_true h), mostL_get (by omega)]
theorem good_leaf {t : List PNode} (h : PGood t) {i : Nat} (hi : i < t.length) (h1 : t[i].kind = 1) : t[i].kids = [] := by
  have hnd := nd_get hi
  rcases (h.ok i hi).1 with ⟨_, g, _⟩ | ⟨g, _⟩
  · rw [hnd] at g; exact g
  · rw [hnd] at g; exact absurd h1 g
theorem l1Max_any (a b : Int) (w : World) : Calls Tryd.prog 79 #[.int .i64 a, .int .i64 b] w fun e w' => e = .returned (.int .i64 (max a b)) ∧ w = w' := by
  by_cases h : b < a
  · have hb : decide (b < a) = true := by simpa using h
    go_enter Tryd.func79, Tryd.ntmps79
    go_wp2
    go_ret
    exact ⟨ret_int (by omega), rfl⟩
  · have hb : decide (b < a) = false := by simpa using h
    go_enter Tryd.func79, Tryd.ntmps79
    go_wp2
    go_ret
    exact ⟨ret_int (by omega), rfl⟩
set_option maxHeartbeats 4000000 in
theorem l16Most_any {S : Nat → Prop} {v : Value} {t : List PNode} {add : Int} {w : World} (hv : SlP S w v t) (hn : t.length ≤ 1048576) :
    Calls Tryd.prog 57 #[v, .int .i64 add] w fun e w' => e = .returned (.int .i64 (mostI t add)) ∧ Below w.heap.size w w' := by
  obtain ⟨va, vc, rfl⟩ := hv.slice
  have hc0 := specCoTreeOk_any hv hn
  by_cases hg : CoGood t
  case neg =>
    rw [coB_false hg] at hc0
    have HF := Lib.hid (show mostI t add = -1 by rw [mostI, coB_false hg]; rfl)
    clear hg
    go_enter Tryd.func57, Tryd.ntmps57
    go_wp2_with (go_at_call 24; refine hc0.mono ?_; rintro e w1 ⟨rfl, hb1⟩)
    go_ret
    exact ⟨ret_int HF.out.symm, hb1⟩
  rw [coB_true hg] at hc0
  obtain ⟨b, off, rfl, -, -⟩ := hv.node hg.1.pos
  have HG := Lib.hid hg; clear hg
  go_enter Tryd.func57, Tryd.ntmps57
  go_wp2_with (go_at_call 24; refine hc0.mono ?_; rintro e w1 ⟨rfl, hb1⟩)
  clear hc0
  go_loopw [5, 6] (fun o i wr => ∃ (k : Nat), k ≤ t.length ∧ i = .int .i64 k ∧ Own wr w.heap.size 2 1 o k ((mostL t add k).map (.int .i64)) ∧ Below w.heap.size w wr) (fun _ i _ => t.length - (intOf i).toNat)
  case atStart =>
    refine ⟨0, Nat.zero_le _, rfl, ?_, hb1.alloc hb1.size _⟩
    exact World.ownsRow_lit (base := w.heap.size) (e := 2) (size := 1) w1 #[] 0 hb1.size (by unfold maxLen; omega) rfl
  case round =>
    clear hb1
    obtain ⟨k, hk, rfl, hown, hq⟩ := hrel
    have hB := hq.size
    have hints := hown.ints (xs := mostL t add k) (by omega)
    obtain ⟨oa, oc, rfl⟩ := hints.slice
    rw [mostL_len] at hown hints
    by_cases hlt : k < t.length
    case neg =>
      obtain rfl : k = t.length := by omega
      have hpos := HG.out.1.pos
      obtain ⟨lb, lo, lcap, hle, hlc⟩ := hints.at_
      have hle := hle (by rw [mostL_len]; omega)
      simp only [Value.slice.injEq] at hle
      obtain ⟨rfl, -, -⟩ := hle
      have hcell := hlc (t.length - 1) (by rw [mostL_len]; omega)
      have hge : (mostL t add t.length)[t.length - 1]'(by rw [mostL_len]; omega) = mostI t add := by
        rw [mostI, if_pos (coB_true HG.out), List.getD_eq_getElem?_getD, List.getElem?_eq_getElem (by rw [mostL_len]; omega)]; rfl
      rw [hge] at hcell
      have hw2 : IntKind.i64.wrap ((t.length : Int) - 1) = (t.length : Int) - 1 := IntWalk.i64_in _ (by omega)
      have hw3 : ((t.length : Int) - 1).toNat = t.length - 1 := by omega
      have hw4 : (0 : Int) ≤ (t.length : Int) - 1 := by omega
      clear hge hlc
      rw [mostL_len]
      go_wp2
      go_ret
      exact ⟨rfl, hq⟩
    have hv2 := hv.below hq (Nat.le_refl _)
    obtain ⟨b2, off2, hva, -, hcs⟩ := hv2.node (by omega)
    simp only [Option.some.injEq, Addr.mk.injEq, and_true] at hva
    obtain ⟨rfl, rfl⟩ := hva
    obtain ⟨ka, kc, c1, c2, c3, hkr⟩ := hcs k hlt
    have hkl := hkr.len
    clear hcs
    have hnd := nd_get hlt
    have hvs := valM_small HG.out.1 add k hlt
    have hvl : valM t add (mostL t add k) k = if t[k].kind = 1 then 1 else pfold t[k].kind add (mostL t add k) t[k].kids t[k].kids.length := by
      unfold valM pfold; rw [hnd, List.take_length]
    rw [hnd] at hvs
    have hsucc : mostL t add (k + 1) = mostL t add k ++ [valM t add (mostL t add k) k] := rfl
    have HSU := Lib.hid hsucc; have HVL := Lib.hid hvl; have HVS := Lib.hid hvs.2.2
    clear hnd hsucc hvl hvs
    have hlen := mostL_len t add k
    by_cases h1 : t[k].kind = 1
    · have h1b : (t[k].kind == 1) = true := by simpa using h1
      have hk0 : t[k].kids.length = 0 := by rw [good_leaf HG.out.1 hlt h1]; rfl
      have hvv := HVL.out
      rw [if_pos h1] at hvv
      have hsu := HSU.out
      rw [hvv] at hsu
      have HS := Lib.hid hsu
      clear h1 hvv hsu hlen
      go_wp2
      go_loop [7, 8] (fun n j => n = .int .i64 1 ∧ j = .int .i64 0) (fun _ j => 0)
      case atStart => exact ⟨rfl, rfl⟩
      case round =>
        obtain ⟨rfl, rfl⟩ := hrel
        rw [mostL_len] at *
        have hlb : decide ((0 : Int) < (t[k].kids.length : Int)) = false := decide_eq_false (by omega)
        have hlbn : decide (0 < t[k].kids.length) = false := decide_eq_false (by omega)
        clear hk0
        go_wp2_with (at_builtin; refine wpList_append1 elI64 rfl _ _ rfl hown rfl rfl rfl (by omega) hB ?_; intro v' w2 hown1 hkept hmv)
        go_roundw
        case rel => exact ⟨k + 1, by omega, by go_num, by rw [HS.out]; simpa using hown1, hkept.below hq hB hown.ge⟩
        case measure => simp [intOf]; omega
    · have h1b : (t[k].kind == 1) = false := by simpa using h1
      have hvv := HVL.out
      rw [if_neg h1] at hvv
      have hsu := HSU.out
      rw [hvv] at hsu
      have HS := Lib.hid hsu
      have hps := fun r hr => HVS.out r hr h1
      have HPS := Lib.hid hps
      clear h1 hvv hsu hlen hps
      go_wp2
      go_loop [7, 8] (fun n j => ∃ r : Nat, r ≤ t[k].kids.length ∧ n = .int .i64 (pfold t[k].kind add (mostL t add k) t[k].kids r) ∧ j = .int .i64 r) (fun _ j => t[k].kids.length - (intOf j).toNat)
      case atStart => exact ⟨0, Nat.zero_le _, by simp [pfold], rfl⟩
      case round =>
        obtain ⟨r, hr, rfl, rfl⟩ := hrel
        rw [mostL_len] at *
        by_cases hlt2 : r < t[k].kids.length
        · obtain ⟨kb, ko, kcap, hke, hkc⟩ := hkr.at_
          have hke := hke (by omega)
          simp only [Value.slice.injEq, true_and] at hke
          obtain ⟨rfl, rfl⟩ := hke
          have hcell := hkc r hlt2
          obtain ⟨nx, hnx, hnk⟩ := HG.out.1.kid hlt hlt2
          rw [hnx] at hcell
          obtain ⟨lb, lo, lcap, hle, hlc⟩ := hints.at_
          have hle := hle (by rw [mostL_len]; omega)
          simp only [Value.slice.injEq] at hle
          obtain ⟨rfl, -, -⟩ := hle
          have hcell2 := hlc nx (by rw [mostL_len]; exact hnk)
          have hge : (mostL t add k)[nx]'(by rw [mostL_len]; exact hnk) = (mostL t add k).getD nx 0 := by rw [List.getD_eq_getElem?_getD, List.getElem?_eq_getElem (by rw [mostL_len]; exact hnk)]; rfl
          rw [hge] at hcell2
          have hst := pfold_succ (kind := t[k].kind) (add := add) (L := mostL t add k) hlt2
          rw [hnx] at hst
          unfold stepM at hst
          rw [Int.toNat_natCast] at hst
          have hb1 := HPS.out r (by omega)
          have hvx := (valM_small HG.out.1 add nx (by omega)).1
          rw [← mostL_get (i := k) hnk] at hvx
          generalize (mostL t add k).getD nx 0 = y at *
          generalize pfold t[k].kind add (mostL t add k) t[k].kids r = p at *
          have HST := Lib.hid hst
          clear hge hlc hkc hnx hst
          by_cases ha : t[k].kind = add
          · have hab : (t[k].kind == add) = true := by simpa using ha
            have hs2 := HST.out
            rw [if_pos ha] at hs2
            have HS2 := Lib.hid hs2
            clear ha hs2
            go_wp2
            go_round
            case rel => exact ⟨r + 1, by omega, by rw [HS2.out], by go_num⟩
            case measure => simp [intOf]; omega
          · have hab : (t[k].kind == add) = false := by simpa using ha
            have hs2 := HST.out
            rw [if_neg ha] at hs2
            have HS2 := Lib.hid hs2
            clear ha hs2
            go_wp2_with (go_at_call 79; refine (l1Max_any _ _ _).mono ?_; rintro e w' ⟨rfl, rfl⟩)
            go_round
            case rel => exact ⟨r + 1, by omega, by rw [HS2.out], by go_num⟩
            case measure => simp [intOf]; omega
        · obtain rfl : r = t[k].kids.length := by omega
          go_wp2_with (at_builtin; refine wpList_append1 elI64 rfl _ _ rfl hown rfl rfl rfl (by omega) hB ?_; intro v' w2 hown1 hkept hmv)
          go_roundw
          case rel => exact ⟨k + 1, by omega, by go_num, by rw [HS.out]; simpa using hown1, hkept.below hq hB hown.ge⟩
          case measure => simp [intOf]; omega
end Go.Proofs.YtakcoihndobmpaaDoor
