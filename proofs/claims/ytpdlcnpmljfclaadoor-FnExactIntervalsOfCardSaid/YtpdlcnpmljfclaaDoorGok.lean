/- GraphOk of the reference and of the program: each tells whether a graph is right. -/
import Derived.Test.YtpdlcnpmljfclaaDoorBase
namespace Go.Proofs.YtpdlcnpmljfclaaDoor
open Go.RowKit
set_option maxHeartbeats 1000000 in
theorem specGraphOk_any {S : Nat → Prop} (v : Value) (g : List (List Int)) (w : World) (hv : SlR S w v g) :
    Calls Tryd.prog 43 #[.agg #[v]] w fun e w' => e = .returned (.bool (gokB g)) ∧ Below w.heap.size w w' := by
  obtain ⟨a, b, off, cap, f, rfl, hl, ha, hc0⟩ := hv
  by_cases hn : 1 ≤ g.length ∧ g.length ≤ 16
  · have hb0 := inB_true (n := g.length) (lo := 1) (hi := 16) (by omega)
    go_enter Tryd.func43, Tryd.ntmps43
    go_wp2_with (first | (go_at_call 79; refine (l1In_any _ _ _ _).mono ?_; rintro e w' ⟨rfl, rfl⟩) | go_in)
    go_loopw [4] (fun i wr => ∃ k : Nat, k ≤ g.length ∧ i = .int .i64 k ∧ OkTo1 g k ∧ Below w.heap.size w wr ∧ wr.cell? ⟨w.heap.size, 0, none⟩ = some (.slice a g.length cap)) (fun i _ => g.length - (intOf i).toNat)
    case atStart => exact ⟨0, Nat.zero_le _, rfl, (fun _ _ h => by omega), ((Below.refl _ _).alloc (Nat.le_refl _) _).alloc (by simp) _, by simp⟩
    case round =>
      obtain ⟨k, hk, rfl, hr, hq, hbx⟩ := hrel
      have hc := hc0.below hq (Nat.le_refl _)
      by_cases hlt : k < g.length
      · obtain ⟨hcell, hrow⟩ := hc k hlt
        obtain ⟨rfl, hS⟩ := ha (by omega)
        by_cases h1 : Rise g[k] g.length
        · have hb1 := riseB_true h1
          by_cases h2 : (k : Int) ∈ g[k]
          · have hb2 : decide ((k : Int) ∈ g[k]) = true := by simpa using h2
            go_wp2_with (first | (go_at_call 80; refine (l1Set_any _ _ _ _ hrow (by omega) (by omega)).mono ?_; rintro e w' ⟨rfl, m, rfl⟩) | (go_at_call 56; refine (l1Has_any _ _ _ _ (hrow.drewN _)).mono ?_; rintro e w' ⟨rfl, rfl⟩))
            go_ret
            exact ⟨ret_bool (gokB_false fun h => h.irrefl k hlt h2).symm, hq.trans ((Drawn.refl _).drewN _ |>.below _)⟩
          · have hb2 : decide ((k : Int) ∈ g[k]) = false := by simpa using h2
            go_wp2_with (first | (go_at_call 80; refine (l1Set_any _ _ _ _ hrow (by omega) (by omega)).mono ?_; rintro e w' ⟨rfl, m, rfl⟩) | (go_at_call 56; refine (l1Has_any _ _ _ _ (hrow.drewN _)).mono ?_; rintro e w' ⟨rfl, rfl⟩))
            go_roundw
            case rel => exact ⟨k + 1, by omega, by go_num, okTo1_succ hlt hr h1 h2, hq.trans ((Drawn.refl _).drewN _ |>.below _), hbx⟩
            case measure => simp [intOf]; omega
        · have hb1 := riseB_false h1
          go_wp2_with (first | (go_at_call 80; refine (l1Set_any _ _ _ _ hrow (by omega) (by omega)).mono ?_; rintro e w' ⟨rfl, m, rfl⟩) | (go_at_call 56; refine (l1Has_any _ _ _ _ (hrow.drewN _)).mono ?_; rintro e w' ⟨rfl, rfl⟩))
          go_ret
          exact ⟨ret_bool (gokB_false fun h => h1 (h.rise k hlt)).symm, hq.trans ((Drawn.refl _).drewN _ |>.below _)⟩
      · go_wp2
        go_loopw [5] (fun i wr => ∃ k : Nat, k ≤ g.length ∧ i = .int .i64 k ∧ OkTo2 g k ∧ Below w.heap.size w wr ∧ wr.cell? ⟨w.heap.size, 0, none⟩ = some (.slice a g.length cap)) (fun i _ => g.length - (intOf i).toNat)
        case atStart => exact ⟨0, Nat.zero_le _, rfl, (fun _ _ h => by omega), hq, hbx⟩
        case round =>
          clear hbx hq hc
          obtain ⟨wo, rfl⟩ : ∃ wo : World, wo = wr := ⟨_, rfl⟩
          obtain ⟨j, hj, rfl, hr2, hq, hbx⟩ := hrel
          have hc := hc0.below hq (Nat.le_refl _)
          by_cases hlt2 : j < g.length
          · obtain ⟨hcell, hrow⟩ := hc j hlt2
            obtain ⟨rfl, hS⟩ := ha (by omega)
            go_wp2
            go_loopw [6] (fun i wr => ∃ t : Nat, t ≤ g[j].length ∧ i = .int .i64 t ∧ OkTo3 g j g[j] t ∧ Below w.heap.size w wr ∧ wr.cell? ⟨w.heap.size, 0, none⟩ = some (.slice (some ⟨b, off, none⟩) g.length cap)) (fun i _ => g[j].length - (intOf i).toNat)
            case atStart => exact ⟨0, Nat.zero_le _, rfl, (fun u h => by simp at h), hq, hbx⟩
            case round =>
              clear hbx hq hc hcell hrow
              obtain ⟨t, ht, rfl, hr3, hq, hbx⟩ := hrel
              have hc := hc0.below hq (Nat.le_refl _)
              obtain ⟨hcell, hrow0⟩ := hc j hlt2
              obtain ⟨ra, rb, roff, rcap, hfj, hrl, hra, hrc⟩ := hrow0
              rw [hfj] at hcell
              by_cases hlt3 : t < g[j].length
              · have hcell2 := hrc t hlt3
                obtain ⟨rfl, _⟩ := hra (by omega)
                have hrise := (hr j hlt2 (by omega)).1 t hlt3 hlt3
                obtain ⟨u, hu⟩ := Int.eq_ofNat_of_zero_le hrise.1
                have hul : u < g.length := by omega
                rw [hu] at hcell2
                obtain ⟨hcell3, hrow3⟩ := hc u hul
                have hu2 : g.getD (g[j][t]).toNat [] = g[u] := by rw [hu]; simp [hul]
                by_cases h2 : (j : Int) ∈ g[u]
                · have hb2 : decide ((j : Int) ∈ g[u]) = true := by simpa using h2
                  go_wp2
                  go_quiet ((go_at_call 56; exact quiet_same (l1Has_any _ _ _ _ (hrow3.drewN _))))
                  go_wp2
                  go_roundw
                  case rel => exact ⟨t + 1, by omega, by go_num, okTo3_succ hlt3 hr3 (by rw [hu2]; exact h2), hq.trans ((Drawn.refl _).drewN _ |>.below _), hbx⟩
                  case measure => simp [intOf]; omega
                · have hb2 : decide ((j : Int) ∈ g[u]) = false := by simpa using h2
                  go_wp2
                  go_quiet ((go_at_call 56; exact quiet_same (l1Has_any _ _ _ _ (hrow3.drewN _))))
                  go_wp2
                  go_ret
                  refine ⟨ret_bool (gokB_false fun h => h2 ?_).symm, hq.trans ((Drawn.refl _).drewN _ |>.below _)⟩
                  rw [← hu2]; exact h.symm j hlt2 _ (List.getElem_mem _)
              · go_wp2
                go_roundw
                case rel => exact ⟨j + 1, by omega, by go_num, okTo2_succ hlt2 hr2 (by rw [show g[j].length = t from by omega]; exact hr3), hq, hbx⟩
                case measure => simp [intOf]; omega
          · go_wp2
            go_ret
            exact ⟨ret_bool (gokB_true (gok_of hn hr (by omega) hr2 (by omega))).symm, hq⟩
  · have hb0 := inB_false (n := g.length) (lo := 1) (hi := 16) (by omega)
    go_enter Tryd.func43, Tryd.ntmps43
    go_wp2_with (first | (go_at_call 79; refine (l1In_any _ _ _ _).mono ?_; rintro e w' ⟨rfl, rfl⟩) | go_in)
    go_ret
    exact ⟨ret_bool (gokB_false fun h => hn ⟨h.lo, h.hi⟩).symm, ((Below.refl _ _).alloc (Nat.le_refl _) _).alloc (by simp) _⟩
theorem inRange_any (n lo hi : Int) (w : World) : Calls Tryd.prog 109 #[.int .i64 n, .int .i64 lo, .int .i64 hi] w fun e w' => e = .returned (.bool (inB n lo hi)) ∧ w = w' := by
  by_cases h1 : lo ≤ n
  · by_cases h2 : n ≤ hi
    · go_enter Tryd.func109, Tryd.ntmps109
      go_wp2
      go_ret
      exact ⟨ret_bool (by simp [inB, h1, h2]), rfl⟩
    · go_enter Tryd.func109, Tryd.ntmps109
      go_wp2
      go_ret
      exact ⟨ret_bool (by simp [inB, h1, h2]), rfl⟩
  · go_enter Tryd.func109, Tryd.ntmps109
    go_wp2
    go_ret
    exact ⟨ret_bool (by have : decide (lo ≤ n) = false := by simpa using h1
                        simp [inB, this]), rfl⟩
/-- slices.Index. -/
def idxI (xs : List Int) (n : Int) : Int := if xs.findIdx (· == n) < xs.length then (xs.findIdx (· == n) : Nat) else -1
theorem idxI_hit {xs : List Int} {n : Int} {k : Nat} (hk : k < xs.length) (h : NotIn xs n k) (he : xs[k] = n) : idxI xs n = k := by
  have : xs.findIdx (· == n) = k := by
    rw [List.findIdx_eq hk]
    refine ⟨by simpa using he, fun j hj => ?_⟩
    have hne : ¬ xs[j] = n := fun e => h (List.mem_take_iff_getElem.2 ⟨j, by omega, e⟩)
    simpa using hne
  rw [idxI, this, if_pos hk]
theorem idxI_miss {xs : List Int} {n : Int} {k : Nat} (hk : xs.length ≤ k) (h : NotIn xs n k) : idxI xs n = -1 := by
  unfold NotIn at h; rw [List.take_of_length_le hk] at h
  rw [idxI, if_neg]
  rw [List.findIdx_lt_length]
  rintro ⟨x, hx, he⟩
  have : x = n := by simpa using he
  exact h (this ▸ hx)
theorem idxI_iff {xs : List Int} {n : Int} : decide (0 ≤ idxI xs n) = decide (n ∈ xs) := by
  by_cases h : n ∈ xs
  · obtain ⟨i, hi, e⟩ := List.getElem_of_mem h
    have hlt : xs.findIdx (· == n) < xs.length := List.findIdx_lt_length.2 ⟨n, h, by simp⟩
    simp [idxI, hlt, h]
  · have : ¬ xs.findIdx (· == n) < xs.length := by
      rw [List.findIdx_lt_length]; rintro ⟨x, hx, he⟩
      have : x = n := by simpa using he
      exact h (this ▸ hx)
    simp [idxI, this, h]
set_option maxHeartbeats 400000 in
theorem index_any {S : Nat → Prop} (v : Value) (xs : List Int) (n : Int) (w : World) (hv : SlI S w .i64 v xs) :
    Calls Tryd.prog 110 #[v, .int .i64 n] w fun e w' => e = .returned (.int .i64 (idxI xs n)) ∧ w = w' := by
  obtain ⟨a, b, off, cap, rfl, hl, ha, hc⟩ := hv
  go_enter Tryd.func110, Tryd.ntmps110
  go_wp2
  go_loop [8] (fun i => ∃ k : Nat, k ≤ xs.length ∧ i = .int .i64 k ∧ NotIn xs n k) (fun i => xs.length - (intOf i).toNat)
  case atStart => exact ⟨0, Nat.zero_le _, rfl, notIn_zero _ _⟩
  case round =>
    obtain ⟨k, hk, rfl, hn⟩ := hrel
    by_cases hlt : k < xs.length
    · have hcell := hc k hlt
      obtain ⟨rfl, hS⟩ := ha (by omega)
      by_cases he : xs[k] = n
      · have hb : (n == xs[k]) = true := by simp [he]
        have HE := Lib.hid he; clear he
        go_wp2
        go_ret
        exact ⟨ret_int (idxI_hit hlt hn HE.out).symm, rfl⟩
      · have hb : (n == xs[k]) = false := by simpa using fun e : n = xs[k] => he e.symm
        go_wp2
        go_round
        case rel => exact ⟨k + 1, by omega, by go_num, notIn_succ hlt hn he⟩
        case measure => simp [intOf]; omega
    · go_wp2
      go_ret
      exact ⟨ret_int (idxI_miss (by omega) hn).symm, rfl⟩
theorem contains_any {S : Nat → Prop} (v : Value) (xs : List Int) (n : Int) (w : World) (hv : SlI S w .i64 v xs) :
    Calls Tryd.prog 85 #[v, .int .i64 n] w fun e w' => e = .returned (.bool (decide (n ∈ xs))) ∧ w = w' := by
  go_enter Tryd.func85, Tryd.ntmps85
  go_wp2_with (go_at_call 110; refine (index_any _ _ _ _ hv).mono ?_; rintro e w' ⟨rfl, rfl⟩)
  go_ret
  exact ⟨ret_bool idxI_iff, rfl⟩
set_option maxHeartbeats 400000 in
theorem increasing_any {S : Nat → Prop} (v : Value) (xs : List Int) (n : Int) (w : World) (hv : SlI S w .i64 v xs) (hn1 : 0 ≤ n) (hn2 : n ≤ 1000000) :
    Calls Tryd.prog 84 #[v, .int .i64 n] w fun e w' => e = .returned (.bool (riseB xs n)) ∧ w = w' := by
  obtain ⟨a, b, off, cap, rfl, hl, ha, hc⟩ := hv
  go_enter Tryd.func84, Tryd.ntmps84
  go_wp2
  go_loop [9] (fun i => ∃ k : Nat, k ≤ xs.length ∧ i = .int .i64 k ∧ RiseTo xs n k) (fun i => xs.length - (intOf i).toNat)
  case atStart => exact ⟨0, Nat.zero_le _, rfl, riseTo_zero _ _⟩
  case round =>
    obtain ⟨k, hk, rfl, hr⟩ := hrel
    by_cases hlt : k < xs.length
    · have hcell := hc k hlt
      obtain ⟨rfl, hS⟩ := ha (by omega)
      by_cases hin : 0 ≤ xs[k] ∧ xs[k] ≤ n - 1
      · have hb := inB_true hin
        by_cases h0 : 0 < k
        · have hcell1 := hc (k - 1) (by omega)
          have hg : decide ((0 : Int) < k) = true := by simp; omega
          have hw3 : ((k : Int) - 1).toNat = k - 1 := by omega
          by_cases hcmp : xs[k] ≤ xs[k - 1]
          · go_wp2_with (go_at_call 109; refine (inRange_any _ _ _ _).mono ?_; rintro e w' ⟨rfl, rfl⟩)
            go_ret
            exact ⟨ret_bool (riseB_false (rise_bad_step hlt h0 hcmp)).symm, rfl⟩
          · go_wp2_with (go_at_call 109; refine (inRange_any _ _ _ _).mono ?_; rintro e w' ⟨rfl, rfl⟩)
            go_round
            case rel => exact ⟨k + 1, by omega, by go_num, riseTo_succ hlt hr hin.1 hin.2 (fun _ => by omega)⟩
            case measure => simp [intOf]; omega
        · have hg : decide ((0 : Int) < k) = false := by simp; omega
          go_wp2_with (go_at_call 109; refine (inRange_any _ _ _ _).mono ?_; rintro e w' ⟨rfl, rfl⟩)
          go_round
          case rel => exact ⟨k + 1, by omega, by go_num, riseTo_succ hlt hr hin.1 hin.2 (fun _ => by omega)⟩
          case measure => simp [intOf]; omega
      · have hb := inB_false hin
        go_wp2_with (go_at_call 109; refine (inRange_any _ _ _ _).mono ?_; rintro e w' ⟨rfl, rfl⟩)
        go_ret
        exact ⟨ret_bool (riseB_false (rise_bad_range hlt hin)).symm, rfl⟩
    · go_wp2
      go_ret
      obtain rfl : k = xs.length := by omega
      exact ⟨ret_bool (riseB_true hr).symm, rfl⟩
set_option maxHeartbeats 1000000 in
theorem implGraphOk_any {S : Nat → Prop} (v : Value) (g : List (List Int)) (w : World) (hv : SlR S w v g) :
    Calls Tryd.prog 51 #[.agg #[v]] w fun e w' => e = .returned (.bool (gokB g)) ∧ Below w.heap.size w w' := by
  obtain ⟨a, b, off, cap, f, rfl, hl, ha, hc0⟩ := hv
  by_cases hn : 1 ≤ g.length ∧ g.length ≤ 16
  · have hq0 : Below w.heap.size w (w.alloc (.cells #[.slice a g.length cap] 29)) := (Below.refl _ _).alloc (Nat.le_refl _) _
    have hc := hc0.below hq0 (Nat.le_refl _)
    go_enter Tryd.func51, Tryd.ntmps51
    go_wp2
    go_loop [22] (fun i => ∃ k : Nat, k ≤ g.length ∧ i = .int .i64 k ∧ OkTo1 g k) (fun i => g.length - (intOf i).toNat)
    case atStart => exact ⟨0, Nat.zero_le _, rfl, (fun _ _ h => by omega)⟩
    case round =>
      obtain ⟨k, hk, rfl, hr⟩ := hrel
      by_cases hlt : k < g.length
      · obtain ⟨hcell, hrow⟩ := hc k hlt
        obtain ⟨rfl, hS⟩ := ha (by omega)
        by_cases h1 : Rise g[k] g.length
        · have hb1 := riseB_true h1
          by_cases h2 : (k : Int) ∈ g[k]
          · have hb2 : decide ((k : Int) ∈ g[k]) = true := by simpa using h2
            go_wp2_with (first | (go_at_call 84; refine (increasing_any _ _ _ _ hrow (by omega) (by omega)).mono ?_; rintro e w' ⟨rfl, rfl⟩) | (go_at_call 85; refine (contains_any _ _ _ _ hrow).mono ?_; rintro e w' ⟨rfl, rfl⟩))
            go_ret
            exact ⟨ret_bool (gokB_false fun h => h.irrefl k hlt h2).symm, hq0⟩
          · have hb2 : decide ((k : Int) ∈ g[k]) = false := by simpa using h2
            go_wp2_with (first | (go_at_call 84; refine (increasing_any _ _ _ _ hrow (by omega) (by omega)).mono ?_; rintro e w' ⟨rfl, rfl⟩) | (go_at_call 85; refine (contains_any _ _ _ _ hrow).mono ?_; rintro e w' ⟨rfl, rfl⟩))
            go_round
            case rel => exact ⟨k + 1, by omega, by go_num, okTo1_succ hlt hr h1 h2⟩
            case measure => simp [intOf]; omega
        · have hb1 := riseB_false h1
          go_wp2_with (first | (go_at_call 84; refine (increasing_any _ _ _ _ hrow (by omega) (by omega)).mono ?_; rintro e w' ⟨rfl, rfl⟩) | (go_at_call 85; refine (contains_any _ _ _ _ hrow).mono ?_; rintro e w' ⟨rfl, rfl⟩))
          go_ret
          exact ⟨ret_bool (gokB_false fun h => h1 (h.rise k hlt)).symm, hq0⟩
      · go_wp2
        go_loop [40] (fun i => ∃ k : Nat, k ≤ g.length ∧ i = .int .i64 k ∧ OkTo2 g k) (fun i => g.length - (intOf i).toNat)
        case atStart => exact ⟨0, Nat.zero_le _, rfl, (fun _ _ h => by omega)⟩
        case round =>
          obtain ⟨j, hj, rfl, hr2⟩ := hrel
          by_cases hlt2 : j < g.length
          · obtain ⟨hcell, hrow0⟩ := hc j hlt2
            obtain ⟨rfl, hS⟩ := ha (by omega)
            obtain ⟨ra, rb, roff, rcap, hfj, hrl, hra, hrc⟩ := hrow0
            rw [hfj] at hcell
            go_wp2
            go_loop [47] (fun i => ∃ t : Nat, t ≤ g[j].length ∧ i = .int .i64 t ∧ OkTo3 g j g[j] t) (fun i => g[j].length - (intOf i).toNat)
            case atStart => exact ⟨0, Nat.zero_le _, rfl, (fun u h => by simp at h)⟩
            case round =>
              obtain ⟨t, ht, rfl, hr3⟩ := hrel
              by_cases hlt3 : t < g[j].length
              · have hcell2 := hrc t hlt3
                obtain ⟨rfl, _⟩ := hra (by omega)
                have hrise := (hr j hlt2 (by omega)).1 t hlt3 hlt3
                obtain ⟨u, hu⟩ := Int.eq_ofNat_of_zero_le hrise.1
                have hul : u < g.length := by omega
                rw [hu] at hcell2
                obtain ⟨hcell3, hrow3⟩ := hc u hul
                have hu2 : g.getD (g[j][t]).toNat [] = g[u] := by rw [hu]; simp [hul]
                have HU := Lib.hid hu; have HU2 := Lib.hid hu2; clear hu hu2
                by_cases h2 : (j : Int) ∈ g[u]
                · have hb2 : decide ((j : Int) ∈ g[u]) = true := by simpa using h2
                  go_wp2_with (go_at_call 85; refine (contains_any _ _ _ _ hrow3).mono ?_; rintro e w' ⟨rfl, rfl⟩)
                  go_round
                  case rel => exact ⟨t + 1, by omega, by go_num, okTo3_succ hlt3 hr3 (by rw [HU2.out]; exact h2)⟩
                  case measure => simp [intOf]; omega
                · have hb2 : decide ((j : Int) ∈ g[u]) = false := by simpa using h2
                  go_wp2_with (go_at_call 85; refine (contains_any _ _ _ _ hrow3).mono ?_; rintro e w' ⟨rfl, rfl⟩)
                  go_ret
                  refine ⟨ret_bool (gokB_false fun h => h2 ?_).symm, hq0⟩
                  rw [← HU2.out]; exact h.symm j hlt2 _ (List.getElem_mem _)
              · go_wp2
                go_round
                case rel => exact ⟨j + 1, by omega, by go_num, okTo2_succ hlt2 hr2 (by rw [show g[j].length = t from by omega]; exact hr3)⟩
                case measure => simp [intOf]; omega
          · go_wp2
            go_ret
            exact ⟨ret_bool (gokB_true (gok_of hn hr (by omega) hr2 (by omega))).symm, hq0⟩
  · by_cases h1 : g.length < 1
    · go_enter Tryd.func51, Tryd.ntmps51
      go_wp2
      go_ret
      exact ⟨ret_bool (gokB_false fun h => hn ⟨h.lo, h.hi⟩).symm, (Below.refl _ _).alloc (Nat.le_refl _) _⟩
    · go_enter Tryd.func51, Tryd.ntmps51
      go_wp2
      go_ret
      exact ⟨ret_bool (gokB_false fun h => hn ⟨h.lo, h.hi⟩).symm, (Below.refl _ _).alloc (Nat.le_refl _) _⟩
end Go.Proofs.YtpdlcnpmljfclaaDoor
