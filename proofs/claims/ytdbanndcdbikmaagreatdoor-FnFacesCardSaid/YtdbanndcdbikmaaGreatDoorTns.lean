/- The program's turns: narrow, turnsOf, after. -/
import Derived.Test.YtdbanndcdbikmaaGreatDoorFacM
import Derived.Test.YtdbanndcdbikmaaGreatDoorLink
import Derived.Test.YtdbanndcdbikmaaGreatDoorFit4
namespace Go.Proofs.YtdbanndcdbikmaaGreatDoor
open Go.RowKit
theorem idx_nat {l : List Nat} {u : Nat} (h : u ∈ l) : idxI (natsI l) (u : Int) = (l.idxOf u : Int) := by
  have e : (natsI l).findIdx (· == (u : Int)) = l.idxOf u := by
    unfold natsI List.idxOf
    rw [List.findIdx_map]
    congr 1
    funext x
    show ((x : Int) == (u : Int)) = (x == u)
    rw [Bool.eq_iff_iff, beq_iff_eq, beq_iff_eq]
    omega
  have hl := List.idxOf_lt_length_of_mem h
  rw [idxI, if_pos (by rw [e, natsI_len]; exact hl), e]
theorem elTurns : Elem Tryz.prog 54 57 1 24 (.slice none 0 0) := ⟨Tryz.underlying54, by kernel_rfl, rfl, by omega, by omega⟩
theorem make_capN (n : Nat) (hn : n ≤ 1048576) (w : World) : (Instr.makeSlice 57 (.int .i64 0) (.int .i64 (n : Int))).run Tryz.prog w = .ok (.slice (some ⟨w.heap.size, 0, none⟩) 0 n) (w.alloc (.cells (madeCells #[.int .i64 0] n) 3)) := by
  obtain ⟨i, hi, hzz⟩ := Option.map_eq_some_iff.1 elInt.hi
  simp only [Prod.mk.injEq] at hzz
  obtain ⟨hz, hs, hb⟩ := hzz
  have := run_make (P := Tryz.prog) (w := w) 57 3 i (.int .i64 0) elInt.ht hi hz .i64 .i64 0 n (by omega) (by omega) (by rw [hb]; omega) (by omega)
  simpa [hs, Value.cells] using this
set_option maxHeartbeats 1000000 in
theorem narrow_any {S : Nat → Prop} {v : Value} {xs : List Int} {w : World} (hv : SlI S w .i64 v xs) (hn : xs.length ≤ 1048576) :
    Calls Tryz.prog 64 #[v] w fun e w' => ∃ u, e = .returned u ∧ Own w' w.heap.size 3 1 u xs.length (xs.map (.int .i64)) ∧ Below w.heap.size w w' := by
  obtain ⟨va, vc, rfl⟩ := hv.slice
  have hmk := make_capN xs.length hn
  go_enter Tryz.func64, Tryz.ntmps64
  go_wp2
  clear hmk
  go_loopw [11, 3] (fun i o wr => ∃ k : Nat, k ≤ xs.length ∧ i = .int .i64 k ∧ Own wr w.heap.size 3 1 o k ((xs.take k).map (.int .i64)) ∧ Below w.heap.size w wr) (fun i _ _ => xs.length - (intOf i).toNat)
  case atStart => exact ⟨0, Nat.zero_le _, rfl, by simpa using Own.made0 w w.heap.size 3 (.int .i64 0) xs.length (Nat.le_refl _) (by omega), (Below.refl _ _).alloc (Nat.le_refl _) _⟩
  case round =>
    obtain ⟨k, hk, rfl, hown, hq⟩ := hrel
    have hB := hq.size
    by_cases hlt : k < xs.length
    · obtain ⟨b, off, cap, he, hc⟩ := (hv.below hq (Nat.le_refl _)).at_
      have he := he (by omega)
      simp only [Value.slice.injEq, true_and] at he
      obtain ⟨rfl, rfl⟩ := he
      have hcell := hc k hlt
      clear hc
      have HT := Lib.hid (List.take_succ_eq_append_getElem hlt)
      go_wp2_with (at_builtin; refine wpList_append1 elInt rfl _ _ rfl hown rfl rfl rfl (by omega) hB ?_; intro v' w1 hown1 hkept hmv)
      go_roundw
      case rel => exact ⟨k + 1, by omega, by go_num, by rw [HT.out, List.map_append]; exact hown1, hkept.below hq hB hown.ge⟩
      case measure => simp [intOf]; omega
    · obtain rfl : k = xs.length := by omega
      rw [List.take_length] at hown
      go_wp2
      go_ret
      exact ⟨_, rfl, hown, hq⟩
set_option maxRecDepth 100000 in
set_option maxHeartbeats 4000000 in
theorem turnsOf_any {S : Nat → Prop} {v : Value} {r : List (List Int)} {w : World} (hv : SlR S w v r) (hs : SmallR r 1048576) :
    Calls Tryz.prog 28 #[.agg #[v]] w fun e w' => ∃ u, e = .returned u ∧ OwnR w' w.heap.size w'.heap.size 57 3 u r ∧ Below w.heap.size w w' := by
  have hq0 : Below w.heap.size w ((w.alloc (.cells #[v] 28)).alloc (.cells #[] 57)) := ((Below.refl _ _).alloc (Nat.le_refl _) _).alloc (by simp) _
  obtain ⟨ra, rb, roff, rcap, rf, rfl, hrl, hra, hrc⟩ := hv
  have hl20 : r.length ≤ 1048576 := by have := hs.1; omega
  have hR0 : OwnR ((w.alloc (.cells #[.slice ra r.length rcap] 28)).alloc (.cells #[] 57)) w.heap.size ((w.alloc (.cells #[.slice ra r.length rcap] 28)).alloc (.cells #[] 57)).heap.size 57 3 (.slice (some ⟨w.heap.size + 1, 0, none⟩) 0 0) [] := by
    refine ⟨[], rfl, ?_, fun b hb => by simp [Value.ownBlock] at hb; simp; omega, ApartL.nil, fun i hi => by simp at hi⟩
    have := World.ownsRow_lit (base := w.heap.size) (e := 57) (size := 1) (w.alloc (.cells #[.slice ra r.length rcap] 28)) #[] 0 (by simp) (by unfold maxLen; omega) rfl
    simpa [Own] using this
  have HRC := Lib.hid hrc
  have HS := Lib.hid hs
  clear hrc hs
  go_enter Tryz.func28, Tryz.ntmps28
  go_wp2
  go_loopw [10, 3, 5] (fun i o _ wr => ∃ k : Nat, k ≤ r.length ∧ i = .int .i64 k ∧ OwnR wr w.heap.size wr.heap.size 57 3 o (r.take k) ∧ Below w.heap.size w wr) (fun i _ _ _ => r.length - (intOf i).toNat)
  case atStart => exact ⟨0, Nat.zero_le _, rfl, hR0, hq0⟩
  case round =>
    clear hR0 hq0
    obtain ⟨k, hk, rfl, hR, hq⟩ := hrel
    obtain ⟨wi, rfl⟩ : ∃ wx : World, wx = wr := ⟨_, rfl⟩
    by_cases hlt : k < r.length
    case neg =>
      obtain rfl : k = r.length := by omega
      rw [List.take_length] at hR
      go_wp2
      go_ret
      exact ⟨_, rfl, hR, hq⟩
    obtain ⟨k2, r2⟩ := HRC.out k hlt
    have hk20 := HS.out.2 k hlt hlt
    have k2 := (hq.cell (cell_lt k2)).trans k2
    have hnr := narrow_any (r2.below hq (Nat.le_refl _)) (by omega)
    have HT := Lib.hid (List.take_succ_eq_append_getElem hlt)
    obtain ⟨rfl, -⟩ := hra (by omega)
    have hB := hq.size
    generalize r[k] = row at *
    generalize rf k = rk at *
    clear r2
    go_wp2_with fail
    refine hnr.mono ?_
    rintro e w2 ⟨u2, rfl, hu2, hb2⟩
    clear hnr
    have hq2 := hq.trans (hb2.mono hq.size)
    have hB2 := hq2.size
    obtain ⟨vs, hvl, hown, hbC, hap, hrows⟩ := hR
    rw [List.length_take, Nat.min_eq_left hk] at hvl hown
    have hown2 := hown.below hb2 (Nat.le_refl _)
    have hrows2 : ∀ i (h : i < (r.take k).length) (h2 : i < vs.length), Own w2 w.heap.size 3 1 vs[i] (r.take k)[i].length ((r.take k)[i].map (.int .i64)) ∧ (∀ b, vs[i].ownBlock = some b → b < wi.heap.size ∧ _) := fun i h h2 => ⟨(hrows i h h2).1.below hb2 (Nat.le_refl _), (hrows i h h2).2⟩
    have hgeu := fun b hb => (hu2.lt b hb).1
    have hu2 := hu2.weak hB
    have hbs2 := hb2.size
    obtain ⟨ua, uc, rfl⟩ := hu2.isSlice
    obtain ⟨oa, oc, rfl⟩ := hown2.isSlice
    clear hrows hown
    go_wp2_with (at_builtin; refine wpList_append1 elTurns rfl _ _ rfl hown2 rfl (by first | rfl | simp) rfl (by omega) (by omega) ?_; intro o5 w5 hown5 hkept hmv)
    have hR5 : OwnR w5 w.heap.size w5.heap.size 57 3 o5 (r.take k ++ [row]) := ownR_snoc (by rw [List.length_take, Nat.min_eq_left hk]; exact hvl) hbs2 hap hrows2 hbC (by rw [List.length_take, Nat.min_eq_left hk]; exact hown5) hu2 hgeu hkept (by
      rcases hmv with h | h
      · exact .inl h
      · exact .inr ⟨_, h, by simp⟩)
    have hq5 := hkept.below hq2 hq2.size (fun c h => (hown2.lt c h).1)
    go_roundw
    case rel => exact ⟨k + 1, by omega, by go_num, by rw [HT.out]; exact hR5, hq5⟩
    case measure => simp [intOf]; omega
set_option maxHeartbeats 1000000 in
theorem indexN_any {S : Nat → Prop} (v : Value) (xs : List Int) (n : Int) (w : World) (hv : SlI S w .i64 v xs) :
    Calls Tryz.prog 107 #[v, .int .i64 n] w fun e w' => e = .returned (.int .i64 (idxI xs n)) ∧ w = w' := by
  obtain ⟨a, b, off, cap, rfl, hl, ha, hc⟩ := hv
  go_enter Tryz.func107, Tryz.ntmps107
  go_wp2
  go_loop [8] (fun i => ∃ k : Nat, k ≤ xs.length ∧ i = .int .i64 k ∧ NotIn xs n k) (fun i => xs.length - (intOf i).toNat)
  case atStart => exact ⟨0, Nat.zero_le _, rfl, notIn_zero _ _⟩
  case round =>
    obtain ⟨k, hk, rfl, hn⟩ := hrel
    by_cases hlt : k < xs.length
    · have hcell := hc k hlt
      obtain ⟨rfl, hS⟩ := ha (by omega)
      by_cases he : xs[k] = n
      · have hb : (n == xs[k]) = true := by simp [he]
        have HE := Lib.hid he; clear he
        go_wp2
        go_ret
        exact ⟨ret_int (idxI_hit hlt hn HE.out).symm, rfl⟩
      · have hb : (n == xs[k]) = false := by simpa using fun e : n = xs[k] => he e.symm
        go_wp2
        go_round
        case rel => exact ⟨k + 1, by omega, by go_num, notIn_succ hlt hn he⟩
        case measure => simp [intOf]; omega
    · go_wp2
      go_ret
      exact ⟨ret_int (idxI_miss (by omega) hn).symm, rfl⟩
set_option maxHeartbeats 2000000 in
theorem tAfter_any {S : Nat → Prop} {tv : Value} {t : List (List Nat)} {u v : Nat} {w : World} (hv : SlR S w tv (t.map natsI)) (ht : ∀ i, (t.getD i []).length ≤ 16) (hu : u ∈ t.getD v []) (hvl : v < t.length) :
    Calls Tryz.prog 67 #[tv, .int .i64 (v : Int), .int .i64 (u : Int)] w fun e w' => e = .returned (.int .i64 (nextIn (t.getD v []) u : Int)) ∧ Drawn w w' := by
  obtain ⟨ra, rb, roff, rcap, rf, rfl, hrl, hra, hrc⟩ := hv
  have hvl2 : v < (t.map natsI).length := by simpa using hvl
  obtain ⟨k1, r1⟩ := hrc v hvl2
  have e : (t.map natsI)[v] = natsI (t.getD v []) := by simp [hvl]
  rw [e] at r1
  have h16 := ht v
  rw [List.length_map] at *
  have hix := indexN_any _ _ (u : Int) w r1
  rw [idx_nat hu] at hix
  obtain ⟨rfl, -⟩ := hra (by omega)
  have hN := Lib.hid (show nextIn (t.getD v []) u = (t.getD v []).getD (((t.getD v []).idxOf u + 1) % (t.getD v []).length) 0 from rfl)
  have hi := List.idxOf_lt_length_of_mem hu
  generalize nextIn (t.getD v []) u = z at *
  generalize t.getD v [] = l at *
  obtain ⟨la, lb, loff, lcap, hle, hll, hla, hlc⟩ := r1
  rw [natsI_len] at *
  rw [hle] at k1 hix
  have hm : (l.idxOf u + 1) % l.length < l.length := Nat.mod_lt _ (by omega)
  have hc := hlc ((l.idxOf u + 1) % l.length) (by rw [natsI_len]; exact hm)
  rw [natsI_get] at hc
  have hz : l[(l.idxOf u + 1) % l.length] = z := by rw [hN.out]; simp [hm]
  rw [hz] at hc
  have hmod : Int.tmod ((l.idxOf u : Int) + 1) (l.length : Int) = (((l.idxOf u + 1) % l.length : Nat) : Int) := by
    rw [show ((l.idxOf u : Int) + 1) = ((l.idxOf u + 1 : Nat) : Int) by omega]
    rfl
  obtain ⟨rfl, -⟩ := hla (by omega)
  have hvi : (v : Int) < t.length := by omega
  have hl0 : l.length ≠ 0 := by omega
  generalize (l.idxOf u + 1) % l.length = m at *
  generalize l.idxOf u = i at *
  have hmi : (m : Int) < l.length := by omega
  clear hz hN hle hlc hrc e hla hra
  go_enter Tryz.func67, Tryz.ntmps67
  go_wp2_with (go_at_call 107; refine hix.mono ?_; rintro e w' ⟨rfl, rfl⟩)
  go_quiet (fail)
  go_wp2
  go_ret
  exact ⟨rfl, (Drawn.refl _).drewN _⟩
end Go.Proofs.YtdbanndcdbikmaaGreatDoor
