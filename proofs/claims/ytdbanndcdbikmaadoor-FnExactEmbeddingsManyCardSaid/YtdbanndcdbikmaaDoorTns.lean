/- The program's turns: narrow, turnsOf, after. -/
import Derived.Test.YtdbanndcdbikmaaDoorFacM
import Derived.Test.YtdbanndcdbikmaaDoorLink
import Derived.Test.YtdbanndcdbikmaaDoorFit4
namespace Go.Proofs.YtdbanndcdbikmaaDoor
open Go.RowKit
theorem idx_nat {l : List Nat} {u : Nat} (h : u ∈ l) : idxI (natsI l) (u : Int) = (l.idxOf u : Int) := by
  have e : (natsI l).findIdx (· == (u : Int)) = l.idxOf u := by
    unfold natsI List.idxOf
    rw [List.findIdx_map]
    congr 1
    funext x
    show ((x : Int) == (u : Int)) = (x == u)
    rw [Bool.eq_iff_iff, beq_iff_eq, beq_iff_eq]
    omega
  have hl := List.idxOf_lt_length_of_mem h
  rw [idxI, if_pos (by rw [e, natsI_len]; exact hl), e]
theorem elTurns : Elem Tryd.prog 42 66 1 24 (.slice none 0 0) := ⟨Tryd.underlying42, by kernel_rfl, rfl, by omega, by omega⟩
theorem make_capN (n : Nat) (hn : n ≤ 1048576) (w : World) : (Instr.makeSlice 66 (.int .i64 0) (.int .i64 (n : Int))).run Tryd.prog w = .ok (.slice (some ⟨w.heap.size, 0, none⟩) 0 n) (w.alloc (.cells (madeCells #[.int .i64 0] n) 3)) := by
  obtain ⟨i, hi, hzz⟩ := Option.map_eq_some_iff.1 elInt.hi
  simp only [Prod.mk.injEq] at hzz
  obtain ⟨hz, hs, hb⟩ := hzz
  have := run_make (P := Tryd.prog) (w := w) 66 3 i (.int .i64 0) elInt.ht hi hz .i64 .i64 0 n (by omega) (by omega) (by rw [hb]; omega) (by omega)
  simpa [hs, Value.cells] using this
set_option maxHeartbeats 1000000 in
theorem indexN_any {S : Nat → Prop} (v : Value) (xs : List Int) (n : Int) (w : World) (hv : SlI S w .i64 v xs) :
    Calls Tryd.prog 67 #[v, .int .i64 n] w fun e w' => e = .returned (.int .i64 (idxI xs n)) ∧ w = w' := by
  obtain ⟨a, b, off, cap, rfl, hl, ha, hc⟩ := hv
  go_enter Tryd.func67, Tryd.ntmps67
  go_wp2
  go_loop [8] (fun i => ∃ k : Nat, k ≤ xs.length ∧ i = .int .i64 k ∧ NotIn xs n k) (fun i => xs.length - (intOf i).toNat)
  case atStart => exact ⟨0, Nat.zero_le _, rfl, notIn_zero _ _⟩
  case round =>
    obtain ⟨k, hk, rfl, hn⟩ := hrel
    by_cases hlt : k < xs.length
    · have hcell := hc k hlt
      obtain ⟨rfl, hS⟩ := ha (by omega)
      by_cases he : xs[k] = n
      · have hb : (n == xs[k]) = true := by simp [he]
        have HE := Lib.hid he; clear he
        go_wp2
        go_ret
        exact ⟨ret_int (idxI_hit hlt hn HE.out).symm, rfl⟩
      · have hb : (n == xs[k]) = false := by simpa using fun e : n = xs[k] => he e.symm
        go_wp2
        go_round
        case rel => exact ⟨k + 1, by omega, by go_num, notIn_succ hlt hn he⟩
        case measure => simp [intOf]; omega
    · go_wp2
      go_ret
      exact ⟨ret_int (idxI_miss (by omega) hn).symm, rfl⟩
set_option maxHeartbeats 2000000 in
theorem tAfter_any {S : Nat → Prop} {tv : Value} {t : List (List Nat)} {u v : Nat} {w : World} (hv : SlR S w tv (t.map natsI)) (ht : ∀ i, (t.getD i []).length ≤ 16) (hu : u ∈ t.getD v []) (hvl : v < t.length) :
    Calls Tryd.prog 59 #[tv, .int .i64 (v : Int), .int .i64 (u : Int)] w fun e w' => e = .returned (.int .i64 (nextIn (t.getD v []) u : Int)) ∧ Drawn w w' := by
  obtain ⟨ra, rb, roff, rcap, rf, rfl, hrl, hra, hrc⟩ := hv
  have hvl2 : v < (t.map natsI).length := by simpa using hvl
  obtain ⟨k1, r1⟩ := hrc v hvl2
  have e : (t.map natsI)[v] = natsI (t.getD v []) := by simp [hvl]
  rw [e] at r1
  have h16 := ht v
  rw [List.length_map] at *
  have hix := indexN_any _ _ (u : Int) w r1
  rw [idx_nat hu] at hix
  obtain ⟨rfl, -⟩ := hra (by omega)
  have hN := Lib.hid (show nextIn (t.getD v []) u = (t.getD v []).getD (((t.getD v []).idxOf u + 1) % (t.getD v []).length) 0 from rfl)
  have hi := List.idxOf_lt_length_of_mem hu
  generalize nextIn (t.getD v []) u = z at *
  generalize t.getD v [] = l at *
  obtain ⟨la, lb, loff, lcap, hle, hll, hla, hlc⟩ := r1
  rw [natsI_len] at *
  rw [hle] at k1 hix
  have hm : (l.idxOf u + 1) % l.length < l.length := Nat.mod_lt _ (by omega)
  have hc := hlc ((l.idxOf u + 1) % l.length) (by rw [natsI_len]; exact hm)
  rw [natsI_get] at hc
  have hz : l[(l.idxOf u + 1) % l.length] = z := by rw [hN.out]; simp [hm]
  rw [hz] at hc
  have hmod : Int.tmod ((l.idxOf u : Int) + 1) (l.length : Int) = (((l.idxOf u + 1) % l.length : Nat) : Int) := by
    rw [show ((l.idxOf u : Int) + 1) = ((l.idxOf u + 1 : Nat) : Int) by omega]
    rfl
  obtain ⟨rfl, -⟩ := hla (by omega)
  have hvi : (v : Int) < t.length := by omega
  have hl0 : l.length ≠ 0 := by omega
  generalize (l.idxOf u + 1) % l.length = m at *
  generalize l.idxOf u = i at *
  have hmi : (m : Int) < l.length := by omega
  clear hz hN hle hlc hrc e hla hra
  go_enter Tryd.func59, Tryd.ntmps59
  go_wp2_with (go_at_call 67; refine hix.mono ?_; rintro e w' ⟨rfl, rfl⟩)
  go_quiet (fail)
  go_wp2
  go_ret
  exact ⟨rfl, (Drawn.refl _).drewN _⟩
end Go.Proofs.YtdbanndcdbikmaaDoor
