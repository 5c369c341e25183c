/- CoStable and CoClique of the program; their laws, walked. -/
import Derived.Test.YtakcoihndobmpaaDoorCoMost
namespace Go.Proofs.YtakcoihndobmpaaDoor
open Go.RowKit
set_option maxHeartbeats 4000000 in
theorem largestIn_any {S : Nat → Prop} {v : Value} {t : List PNode} {add : Int} {w : World} (ht : Tab w) (hv : SlP S w v t) (hn : t.length ≤ 1048576) (ha1 : add ≠ 1) :
    Calls Tryd.prog 58 #[v, .int .i64 add] w fun e w' => e = .returned (.int .i64 (mostI t add)) ∧ Below w.heap.size w w' := by
  obtain ⟨va, vc, rfl⟩ := hv.slice
  have hc0 := implCoTreeOk_any ht hv hn
  by_cases hg : CoGood t
  case neg =>
    rw [coB_false hg] at hc0
    have HF := Lib.hid (show mostI t add = -1 by rw [mostI, coB_false hg]; rfl)
    clear hg
    go_enter Tryd.func58, Tryd.ntmps58
    go_wp2_with (go_at_call 25; refine hc0.mono ?_; rintro e w1 ⟨rfl, hb1⟩)
    go_ret
    exact ⟨ret_int HF.out.symm, hb1⟩
  rw [coB_true hg] at hc0
  obtain ⟨b, off, rfl, -, -⟩ := hv.node hg.1.pos
  have HG := Lib.hid hg; clear hg
  go_enter Tryd.func58, Tryd.ntmps58
  go_wp2_with (go_at_call 25; refine hc0.mono ?_; rintro e w1 ⟨rfl, hb1⟩)
  clear hc0
  go_loopw [5, 17] (fun o i wr => ∃ (k : Nat), k ≤ t.length ∧ i = .int .i64 k ∧ Own wr w.heap.size 2 1 o k ((mostL t add k).map (.int .i64)) ∧ Below w.heap.size w wr) (fun _ i _ => t.length - (intOf i).toNat)
  case atStart =>
    refine ⟨0, Nat.zero_le _, rfl, ?_, hb1.alloc hb1.size _⟩
    exact World.ownsRow_lit (base := w.heap.size) (e := 2) (size := 1) w1 #[] 0 hb1.size (by unfold maxLen; omega) rfl
  case round =>
    clear hb1
    obtain ⟨k, hk, rfl, hown, hq⟩ := hrel
    have hB := hq.size
    have hints := hown.ints (xs := mostL t add k) (by omega)
    obtain ⟨oa, oc, rfl⟩ := hints.slice
    rw [mostL_len] at hown hints
    by_cases hlt : k < t.length
    case neg =>
      obtain rfl : k = t.length := by omega
      have hpos := HG.out.1.pos
      obtain ⟨lb, lo, lcap, hle, hlc⟩ := hints.at_
      have hle := hle (by rw [mostL_len]; omega)
      simp only [Value.slice.injEq] at hle
      obtain ⟨rfl, -, -⟩ := hle
      have hcell := hlc (t.length - 1) (by rw [mostL_len]; omega)
      have hge : (mostL t add t.length)[t.length - 1]'(by rw [mostL_len]; omega) = mostI t add := by
        rw [mostI, if_pos (coB_true HG.out), List.getD_eq_getElem?_getD, List.getElem?_eq_getElem (by rw [mostL_len]; omega)]; rfl
      rw [hge] at hcell
      have hw2 : IntKind.i64.wrap ((t.length : Int) - 1) = (t.length : Int) - 1 := IntWalk.i64_in _ (by omega)
      have hw3 : ((t.length : Int) - 1).toNat = t.length - 1 := by omega
      have hw4 : (0 : Int) ≤ (t.length : Int) - 1 := by omega
      clear hge hlc
      rw [mostL_len]
      go_wp2
      go_ret
      exact ⟨rfl, hq⟩
    have hv2 := hv.below hq (Nat.le_refl _)
    obtain ⟨b2, off2, hva, -, hcs⟩ := hv2.node (by omega)
    simp only [Option.some.injEq, Addr.mk.injEq, and_true] at hva
    obtain ⟨rfl, rfl⟩ := hva
    obtain ⟨ka, kc, c1, c2, c3, hkr⟩ := hcs k hlt
    have hkl := hkr.len
    clear hcs
    have hnd := nd_get hlt
    have hvs := valM_small HG.out.1 add k hlt
    have hvl : valM t add (mostL t add k) k = if t[k].kind = 1 then 1 else pfold t[k].kind add (mostL t add k) t[k].kids t[k].kids.length := by
      unfold valM pfold; rw [hnd, List.take_length]
    rw [hnd] at hvs
    have hsucc : mostL t add (k + 1) = mostL t add k ++ [valM t add (mostL t add k) k] := rfl
    have HSU := Lib.hid hsucc; have HVL := Lib.hid hvl; have HVS := Lib.hid hvs.2.2
    clear hnd hsucc hvl hvs
    have hlen := mostL_len t add k
    have hqb : Below w.heap.size w (wr.alloc (.cells #[.int .i64 t[k].kind, .int .i64 t[k].vertex, .slice ka t[k].kids.length kc] 50)) := hq.alloc hB _
    have hownb := hown.alloc (.cells #[.int .i64 t[k].kind, .int .i64 t[k].vertex, .slice ka t[k].kids.length kc] 50)
    by_cases h1 : t[k].kind = 1
    · have h1b : (t[k].kind == 1) = true := by simpa using h1
      have hk0 : t[k].kids.length = 0 := by rw [good_leaf HG.out.1 hlt h1]; rfl
      have hvv := HVL.out
      rw [if_pos h1] at hvv
      have hsu := HSU.out
      rw [hvv] at hsu
      have HS := Lib.hid hsu
      have HK0 := Lib.hid hk0
      clear h1 hvv hsu hlen hk0
      go_wp2
      go_loop [8, 24] (fun n j => n = .int .i64 0 ∧ j = .int .i64 0) (fun _ j => 0)
      case atStart => exact ⟨rfl, rfl⟩
      case round =>
        obtain ⟨rfl, rfl⟩ := hrel
        rw [mostL_len] at *
        have hlb : decide ((0 : Int) < (t[k].kids.length : Int)) = false := decide_eq_false (by have := HK0.out; omega)
        have hlbn : decide (0 < t[k].kids.length) = false := decide_eq_false (by have := HK0.out; omega)
        go_wp2_with (at_builtin; refine wpList_append1b elI64 rfl _ _ rfl hownb rfl (by simp) rfl rfl (by omega) (by simp; omega) ?_; intro v' w2 hown1 hkept hmv)
        go_roundw
        case rel => exact ⟨k + 1, by omega, by go_num, by rw [HS.out]; simpa using hown1, hkept.below hqb (by simp; omega) hown.ge⟩
        case measure => simp [intOf]; omega
    · have h1b : (t[k].kind == 1) = false := by simpa using h1
      have hvv := HVL.out
      rw [if_neg h1] at hvv
      have hsu := HSU.out
      rw [hvv] at hsu
      have HS := Lib.hid hsu
      have hps := fun r hr => HVS.out r hr h1
      have HPS := Lib.hid hps
      clear h1 hvv hsu hlen hps
      have hkrb := hkr.below ((Below.refl wr.heap.size wr).alloc (Nat.le_refl _) (.cells #[.int .i64 t[k].kind, .int .i64 t[k].vertex, .slice ka t[k].kids.length kc] 50)) (Nat.le_refl _)
      go_wp2
      go_loop [8, 24] (fun n j => ∃ r : Nat, r ≤ t[k].kids.length ∧ n = .int .i64 (pfold t[k].kind add (mostL t add k) t[k].kids r) ∧ j = .int .i64 r) (fun _ j => t[k].kids.length - (intOf j).toNat)
      case atStart => exact ⟨0, Nat.zero_le _, by simp [pfold], rfl⟩
      case round =>
        obtain ⟨r, hr, rfl, rfl⟩ := hrel
        rw [mostL_len] at *
        by_cases hlt2 : r < t[k].kids.length
        · obtain ⟨kb, ko, kcap, hke, hkc⟩ := hkr.at_
          have hke := hke (by omega)
          simp only [Value.slice.injEq, true_and] at hke
          obtain ⟨rfl, rfl⟩ := hke
          have hcell := hkc r hlt2
          have hkcl := cell_lt hcell
          obtain ⟨nx, hnx, hnk⟩ := HG.out.1.kid hlt hlt2
          rw [hnx] at hcell
          obtain ⟨lb, lo, lcap, hle, hlc⟩ := hints.at_
          have hle := hle (by rw [mostL_len]; omega)
          simp only [Value.slice.injEq] at hle
          obtain ⟨rfl, -, -⟩ := hle
          have hcell2 := hlc nx (by rw [mostL_len]; exact hnk)
          have hlcl := cell_lt hcell2
          have hge : (mostL t add k)[nx]'(by rw [mostL_len]; exact hnk) = (mostL t add k).getD nx 0 := by rw [List.getD_eq_getElem?_getD, List.getElem?_eq_getElem (by rw [mostL_len]; exact hnk)]; rfl
          rw [hge] at hcell2
          have hst := pfold_succ (kind := t[k].kind) (add := add) (L := mostL t add k) hlt2
          rw [hnx] at hst
          unfold stepM at hst
          rw [Int.toNat_natCast] at hst
          have hb1 := HPS.out r (by omega)
          have hvx := (valM_small HG.out.1 add nx (by omega)).1
          rw [← mostL_get (i := k) hnk] at hvx
          generalize (mostL t add k).getD nx 0 = y at *
          generalize pfold t[k].kind add (mostL t add k) t[k].kids r = p at *
          have HST := Lib.hid hst
          simp only at hkcl hlcl
          clear hge hlc hkc hnx hst
          by_cases ha : t[k].kind = add
          · have hab : (t[k].kind == add) = true := by simpa using ha
            have hs2 := HST.out
            rw [if_pos ha] at hs2
            have HS2 := Lib.hid hs2
            clear ha hs2
            go_wp2
            go_round
            case rel => exact ⟨r + 1, by omega, by rw [HS2.out], by go_num⟩
            case measure => simp [intOf]; omega
          · have hab : (t[k].kind == add) = false := by simpa using ha
            have hs2 := HST.out
            rw [if_neg ha] at hs2
            have HS2 := Lib.hid hs2
            clear ha hs2
            go_wp2
            go_round
            case rel => exact ⟨r + 1, by omega, by rw [HS2.out]; congr 1; split <;> omega, by go_num⟩
            case measure => simp [intOf]; omega
        · obtain rfl : r = t[k].kids.length := by omega
          go_wp2_with (at_builtin; refine wpList_append1b elI64 rfl _ _ rfl hownb rfl (by simp) rfl rfl (by omega) (by simp; omega) ?_; intro v' w2 hown1 hkept hmv)
          go_roundw
          case rel => exact ⟨k + 1, by omega, by go_num, by rw [HS.out]; simpa using hown1, hkept.below hqb (by simp; omega) hown.ge⟩
          case measure => simp [intOf]; omega
theorem specCoClique_any {S : Nat → Prop} {v : Value} {t : List PNode} {w : World} (hv : SlP S w v t) (hn : t.length ≤ 1048576) :
    Calls Tryd.prog 28 #[v] w fun e w' => e = .returned (.int .i64 (mostI t 3)) ∧ Below w.heap.size w w' := by
  go_enter Tryd.func28, Tryd.ntmps28
  go_wp2_with (go_at_call 57; refine (l16Most_any hv hn).mono ?_; rintro e w1 ⟨rfl, hb1⟩)
  go_ret
  exact ⟨rfl, hb1⟩
theorem implCoClique_any {S : Nat → Prop} {v : Value} {t : List PNode} {w : World} (ht : Tab w) (hv : SlP S w v t) (hn : t.length ≤ 1048576) :
    Calls Tryd.prog 29 #[v] w fun e w' => e = .returned (.int .i64 (mostI t 3)) ∧ Below w.heap.size w w' := by
  go_enter Tryd.func29, Tryd.ntmps29
  go_wp2_with (go_at_call 58; refine (largestIn_any ht hv hn (by omega)).mono ?_; rintro e w1 ⟨rfl, hb1⟩)
  go_ret
  exact ⟨rfl, hb1⟩
theorem specCoStable_any {S : Nat → Prop} {v : Value} {t : List PNode} {w : World} (hv : SlP S w v t) (hn : t.length ≤ 1048576) :
    Calls Tryd.prog 30 #[v] w fun e w' => e = .returned (.int .i64 (mostI t 2)) ∧ Below w.heap.size w w' := by
  go_enter Tryd.func30, Tryd.ntmps30
  go_wp2_with (go_at_call 57; refine (l16Most_any hv hn).mono ?_; rintro e w1 ⟨rfl, hb1⟩)
  go_ret
  exact ⟨rfl, hb1⟩
theorem implCoStable_any {S : Nat → Prop} {v : Value} {t : List PNode} {w : World} (ht : Tab w) (hv : SlP S w v t) (hn : t.length ≤ 1048576) :
    Calls Tryd.prog 31 #[v] w fun e w' => e = .returned (.int .i64 (mostI t 2)) ∧ Below w.heap.size w w' := by
  go_enter Tryd.func31, Tryd.ntmps31
  go_wp2_with (go_at_call 58; refine (largestIn_any ht hv hn (by omega)).mono ?_; rintro e w1 ⟨rfl, hb1⟩)
  go_ret
  exact ⟨rfl, hb1⟩
set_option maxHeartbeats 8000000 in
theorem lawCoClique_any {S0 : Nat → Prop} (v0 : Value) (t0 : List PNode) (w : World) (ht : Tab w) (hv0 : SlP S0 w v0 t0) :
    Calls Tryd.prog 8 #[v0] w fun e w' => e = .returned (.bool true) ∧ Below w.heap.size w w' := by
  obtain ⟨a0, c0, rfl⟩ := hv0.slice
  have q0 : Below w.heap.size w w := Below.refl _ _
  go_enter Tryd.func8, Tryd.ntmps8
  go_wp2_with fail
  refine (szPartS_any _ _ _ _ (hv0.below q0 (Nat.le_refl _)) (by omega) (by omega)).mono ?_
  rintro e w1 ⟨r1, rfl, hr1, hs1, hm1, hb1⟩
  have q1 := q0.trans (hb1.mono q0.size)
  by_cases hneg1 : r1 < 0
  case pos =>
    go_wp2
    go_ret
    exact ⟨rfl, q1⟩
  have hsm0 : SmallP t0 1048576 := hm1 (by omega)
  go_wp2_with fail
  refine (toPartS_any _ _ _ (hv0.below q1 (Nat.le_refl _)) hsm0).mono ?_
  rintro e w2 ⟨x2, rfl, hy2, hb2⟩
  have q2 := q1.trans (hb2.mono q1.size)
  have y2_2 := hy2
  go_wp2_with fail
  refine (specCoClique_any y2_2 (small_len hsm0)).mono ?_
  rintro e w3 ⟨rfl, hb3⟩
  have q3 := q2.trans (hb3.mono q2.size)
  have y2_3 := y2_2.below hb3 (Nat.le_refl _)
  go_wp2_with fail
  refine (toPartS_any _ _ _ (hv0.below q3 (Nat.le_refl _)) hsm0).mono ?_
  rintro e w4 ⟨x4, rfl, hy4, hb4⟩
  have q4 := q3.trans (hb4.mono q3.size)
  have y2_4 := y2_3.below hb4 (Nat.le_refl _)
  have y4_4 := hy4
  go_wp2_with fail
  refine (implCoClique_any (ht.below q4 (Nat.le_refl _)) y4_4 (small_len hsm0)).mono ?_
  rintro e w5 ⟨rfl, hb5⟩
  have q5 := q4.trans (hb5.mono q4.size)
  have y2_5 := y2_4.below hb5 (Nat.le_refl _)
  have y4_5 := y4_4.below hb5 (Nat.le_refl _)
  go_wp2_with fail
  refine (toPartS_any _ _ _ (hv0.below q5 (Nat.le_refl _)) hsm0).mono ?_
  rintro e w6 ⟨x6, rfl, hy6, hb6⟩
  have q6 := q5.trans (hb6.mono q5.size)
  have y2_6 := y2_5.below hb6 (Nat.le_refl _)
  have y4_6 := y4_5.below hb6 (Nat.le_refl _)
  have y6_6 := hy6
  go_wp2_with fail
  refine (eqPartS_any _ _ _ _ _ y4_6 y6_6).mono ?_
  rintro e w7 ⟨rfl, hb7⟩
  have q7 := q6.trans (hb7.mono q6.size)
  have y2_7 := y2_6.below hb7 (Nat.le_refl _)
  have y4_7 := y4_6.below hb7 (Nat.le_refl _)
  have y6_7 := y6_6.below hb7 (Nat.le_refl _)
  go_wp2
  go_ret
  exact ⟨rfl, q7⟩
set_option maxHeartbeats 8000000 in
theorem lawCoStable_any {S0 : Nat → Prop} (v0 : Value) (t0 : List PNode) (w : World) (ht : Tab w) (hv0 : SlP S0 w v0 t0) :
    Calls Tryd.prog 9 #[v0] w fun e w' => e = .returned (.bool true) ∧ Below w.heap.size w w' := by
  obtain ⟨a0, c0, rfl⟩ := hv0.slice
  have q0 : Below w.heap.size w w := Below.refl _ _
  go_enter Tryd.func9, Tryd.ntmps9
  go_wp2_with fail
  refine (szPartS_any _ _ _ _ (hv0.below q0 (Nat.le_refl _)) (by omega) (by omega)).mono ?_
  rintro e w1 ⟨r1, rfl, hr1, hs1, hm1, hb1⟩
  have q1 := q0.trans (hb1.mono q0.size)
  by_cases hneg1 : r1 < 0
  case pos =>
    go_wp2
    go_ret
    exact ⟨rfl, q1⟩
  have hsm0 : SmallP t0 1048576 := hm1 (by omega)
  go_wp2_with fail
  refine (toPartS_any _ _ _ (hv0.below q1 (Nat.le_refl _)) hsm0).mono ?_
  rintro e w2 ⟨x2, rfl, hy2, hb2⟩
  have q2 := q1.trans (hb2.mono q1.size)
  have y2_2 := hy2
  go_wp2_with fail
  refine (specCoStable_any y2_2 (small_len hsm0)).mono ?_
  rintro e w3 ⟨rfl, hb3⟩
  have q3 := q2.trans (hb3.mono q2.size)
  have y2_3 := y2_2.below hb3 (Nat.le_refl _)
  go_wp2_with fail
  refine (toPartS_any _ _ _ (hv0.below q3 (Nat.le_refl _)) hsm0).mono ?_
  rintro e w4 ⟨x4, rfl, hy4, hb4⟩
  have q4 := q3.trans (hb4.mono q3.size)
  have y2_4 := y2_3.below hb4 (Nat.le_refl _)
  have y4_4 := hy4
  go_wp2_with fail
  refine (implCoStable_any (ht.below q4 (Nat.le_refl _)) y4_4 (small_len hsm0)).mono ?_
  rintro e w5 ⟨rfl, hb5⟩
  have q5 := q4.trans (hb5.mono q4.size)
  have y2_5 := y2_4.below hb5 (Nat.le_refl _)
  have y4_5 := y4_4.below hb5 (Nat.le_refl _)
  go_wp2_with fail
  refine (toPartS_any _ _ _ (hv0.below q5 (Nat.le_refl _)) hsm0).mono ?_
  rintro e w6 ⟨x6, rfl, hy6, hb6⟩
  have q6 := q5.trans (hb6.mono q5.size)
  have y2_6 := y2_5.below hb6 (Nat.le_refl _)
  have y4_6 := y4_5.below hb6 (Nat.le_refl _)
  have y6_6 := hy6
  go_wp2_with fail
  refine (eqPartS_any _ _ _ _ _ y4_6 y6_6).mono ?_
  rintro e w7 ⟨rfl, hb7⟩
  have q7 := q6.trans (hb7.mono q6.size)
  have y2_7 := y2_6.below hb7 (Nat.le_refl _)
  have y4_7 := y4_6.below hb7 (Nat.le_refl _)
  have y6_7 := y6_6.below hb7 (Nat.le_refl _)
  go_wp2
  go_ret
  exact ⟨rfl, q7⟩
end Go.Proofs.YtakcoihndobmpaaDoor
