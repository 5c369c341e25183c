/- Pruning: near vertices, may a vertex go; the reference's and the program's. -/
import Derived.Test.YtfccpencgengaaaPruneM
import Derived.Test.YtfccpencgengaaaTriPrune
import Derived.Test.YtfccpencgengaaaInto2
namespace Go.Proofs.Ytfccpencgengaaa
open Go.RowKit
theorem l19LessP_any {S : Nat → Prop} {u : Value} {m v : Nat} {w : World} (hu : SlI S w .i64 u (bitsI m)) (hm : m < 4294967296) (hv : v < 32) :
    Calls Try.prog 34 #[u, .int .i64 (v : Int)] w fun e w' => ∃ x, e = .returned x ∧ OwnB w' w.heap.size 2 x (andN m (bit v)) ∧ Below w.heap.size w w' := by
  have hle := less_bits hm hv
  have hbl := bitsI_len m
  generalize bitsI m = xs at hu hle hbl
  obtain ⟨ua, ub, uo, uc, rfl, hul, hua, huc0⟩ := hu
  have HL := Lib.hid hle; clear hle
  go_enter Try.func34, Try.ntmps34
  go_wp2
  go_loopw [5, 6] (fun o i wr => ∃ k : Nat, k ≤ xs.length ∧ i = .int .i64 k ∧ Own wr w.heap.size 2 1 o (lessL (xs.take k) v).length ((lessL (xs.take k) v).map (.int .i64)) ∧ Below w.heap.size w wr) (fun _ i _ => xs.length - (intOf i).toNat)
  case atStart =>
    refine ⟨0, Nat.zero_le _, rfl, ?_, (Below.refl _ _).alloc (Nat.le_refl _) _⟩
    have := World.ownsRow_lit (base := w.heap.size) (e := 2) (size := 1) w #[] 0 (Nat.le_refl _) (by unfold maxLen; omega) rfl
    simpa [Own, lessL] using this
  case round =>
    obtain ⟨k, hk, rfl, hown, hq⟩ := hrel
    have hB := hq.size
    have hll : (lessL (xs.take k) v).length ≤ 32 := by
      have h1 := List.length_filter_le (fun x => !decide (x = (v : Int))) (xs.take k)
      have h2 : (xs.take k).length ≤ xs.length := by simp; omega
      unfold lessL; omega
    by_cases hlt : k < xs.length
    · have hcell := (hq.cell (p := ⟨ub, uo + k, none⟩) (cell_lt (huc0 k hlt))).trans (huc0 k hlt)
      obtain ⟨rfl, -⟩ := hua (by omega)
      have hst : lessL (xs.take (k + 1)) v = if xs[k] = (v : Int) then lessL (xs.take k) v else lessL (xs.take k) v ++ [xs[k]] := by
        unfold lessL
        rw [List.take_succ_eq_append_getElem hlt, List.filter_append]
        by_cases h : xs[k] = (v : Int) <;> simp [h]
      generalize xs[k] = x at hcell hst
      by_cases hx : x = (v : Int)
      · have hb : (x != (v : Int)) = false := by rw [bne_eq_false_iff_eq]; exact hx
        rw [if_pos hx] at hst
        have HS := Lib.hid hst; clear hst hx
        go_wp2
        go_roundw
        case rel => exact ⟨k + 1, by omega, by go_num, by rw [HS.out]; exact hown, hq⟩
        case measure => simp [intOf]; omega
      · have hb : (x != (v : Int)) = true := by rw [bne_iff_ne]; exact hx
        rw [if_neg hx] at hst
        have HS := Lib.hid hst; clear hst hx
        go_wp2_with (at_builtin; refine wpList_append1 elI64 rfl _ _ rfl hown rfl rfl rfl (by omega) hB ?_; intro v' w2 hown1 hkept hmv)
        go_roundw
        case rel => exact ⟨k + 1, by omega, by go_num, by rw [HS.out]; simpa using hown1, hkept.below hq hB hown.ge⟩
        case measure => simp [intOf]; omega
    · obtain rfl : k = xs.length := by omega
      rw [List.take_length] at hown
      go_wp2
      go_ret
      refine ⟨_, rfl, ?_, hq⟩
      unfold OwnB
      rw [← HL.out]; exact hown
set_option maxHeartbeats 400000 in
theorem l1Same_any {S S' : Nat → Prop} (v u : Value) (xs ys : List Int) (w : World) (hv : SlI S w .i64 v xs) (hu : SlI S' w .i64 u ys) :
    Calls Try.prog 67 #[v, u] w fun e w' => e = .returned (.bool (decide (xs = ys))) ∧ Drawn w w' := by
  obtain ⟨a, b, off, cap, rfl, hl, ha, hc0⟩ := hv
  obtain ⟨a', b', off', cap', rfl, hl', ha', hc0'⟩ := hu
  by_cases hne : xs.length = ys.length
  · have hn0 : ((xs.length : Int) != ys.length) = false := by simp [hne]
    have HN := Lib.hid hne; clear hne
    go_enter Try.func67, Try.ntmps67
    go_wp2
    go_loopw [5] (fun i wr => ∃ k : Nat, k ≤ xs.length ∧ i = .int .i64 k ∧ xs.take k = ys.take k ∧ Drawn w wr) (fun i _ => xs.length - (intOf i).toNat)
    case atStart => exact ⟨0, Nat.zero_le _, rfl, rfl, Drawn.refl _⟩
    case round =>
      obtain ⟨k, hk, rfl, he, hq⟩ := hrel
      have HE := Lib.hid he; clear he
      have hc := hc0.drawn hq
      have hc' := hc0'.drawn hq
      by_cases hlt : k < xs.length
      · have hlt' : k < ys.length := by have := HN.out; omega
        have hcell := hc k hlt
        have hcell' := hc' k hlt'
        obtain ⟨rfl, hS⟩ := ha (by omega)
        obtain ⟨rfl, hS'⟩ := ha' (by omega)
        by_cases heq : xs[k] = ys[k]
        · have hb : (xs[k] != ys[k]) = false := by simp [heq]
          have HQ := Lib.hid heq; clear heq
          go_wp2
          go_quiet (fail)
          go_wp2
          go_roundw
          case rel =>
            refine ⟨k + 1, by omega, by go_num, ?_, hq.drewN _⟩
            rw [List.take_succ_eq_append_getElem hlt, List.take_succ_eq_append_getElem hlt', HE.out, HQ.out]
          case measure => simp [intOf]; omega
        · have hb : (xs[k] != ys[k]) = true := by simpa using heq
          go_wp2
          go_quiet (fail)
          go_wp2
          go_ret
          exact ⟨ret_bool (by have : ¬ xs = ys := fun h => heq (by subst h; rfl)
                              simp [this]), hq.drewN _⟩
      · go_wp2
        go_ret
        refine ⟨ret_bool ?_, hq⟩
        have h1 := HE.out
        rw [List.take_of_length_le (by omega), List.take_of_length_le (by have := HN.out; omega)] at h1
        simp [h1]
  · have hn0 : ((xs.length : Int) != ys.length) = true := by rw [bne_iff_ne]; omega
    go_enter Try.func67, Try.ntmps67
    go_wp2
    go_ret
    exact ⟨ret_bool (by have : ¬ xs = ys := fun h => hne (by subst h; rfl)
                        simp [this]), Drawn.refl _⟩
set_option maxRecDepth 100000 in
set_option maxHeartbeats 1000000 in
theorem l18Near_any {S S' : Nat → Prop} {v u : Value} {g : List (List Int)} {s x : Nat} {but : Int} {w : World} (hg : GOk g) (hv : SlR S w v g) (hu : SlI S' w .i64 u (bitsI s)) (hs : s < 2 ^ g.length) (hx : x < g.length) :
    Calls Try.prog 66 #[.agg #[v], u, .int .i64 (x : Int), .int .i64 but] w fun e w' => ∃ o, e = .returned o ∧ OwnB w' w.heap.size 2 o (andN (nrN (netsL g) s x) (bq but)) ∧ Below w.heap.size w w' := by
  have h16 := hg.hi
  have hle := nearL_bits hg hs hx but
  have hln : g[x].length ≤ 16 := by have := rise_len (hg.rise x hx) (by omega); omega
  have hbl := bitsI_len s
  have hq0 : Below w.heap.size w (w.alloc (.cells #[v] 29)) := (Below.refl _ _).alloc (Nat.le_refl _) _
  have hu0 := hu.below hq0 (Nat.le_refl _)
  obtain ⟨va, vb, vo, vc, f, rfl, hvl, hva, hvr⟩ := hv
  obtain ⟨rfl, -⟩ := hva (by omega)
  obtain ⟨hvcell, hrow⟩ := hvr x hx
  obtain ⟨ra, rb, ro, rc, hre, hrl, hra, hrcells⟩ := hrow
  rw [hre] at hvcell
  clear hvr hre
  generalize bitsI s = left at hu hu0 hle hbl
  generalize hxs : g[x] = xs at hrl hra hrcells hle hln hvcell
  clear hxs
  have HL := Lib.hid hle; clear hle
  have hvc0 := (hq0.cell (p := ⟨vb, vo + x, none⟩) (cell_lt hvcell)).trans hvcell
  obtain ⟨ua, uc, rfl⟩ := hu.slice
  go_enter Try.func66, Try.ntmps66
  go_wp2
  go_loopw [9, 10, 11] (fun o i q wr => ∃ k : Nat, k ≤ xs.length ∧ i = .int .i64 k ∧ Own wr (w.heap.size + 1) 2 1 o (nearL (xs.take k) left but).length ((nearL (xs.take k) left but).map (.int .i64)) ∧ Below w.heap.size w wr ∧ wr.cell? ⟨w.heap.size, 0, none⟩ = some (.slice (some ⟨vb, vo, none⟩) g.length vc)) (fun _ i _ _ => xs.length - (intOf i).toNat)
  case atStart =>
    refine ⟨0, Nat.zero_le _, rfl, ?_, ((Below.refl _ _).alloc (Nat.le_refl _) _).alloc (by simp) _, by simp [go_sem]⟩
    have := World.ownsRow_lit (base := w.heap.size + 1) (e := 2) (size := 1) (w.alloc (.cells #[.slice (some ⟨vb, vo, none⟩) g.length vc] 29)) #[] 0 (by simp) (by unfold maxLen; omega) rfl
    simpa [Own, nearL] using this
  case round =>
    obtain ⟨k, hk, rfl, hown, hq, hc4⟩ := hrel
    have hB := hq.size
    have hB1 : w.heap.size + 1 ≤ wr.heap.size := by have := cell_lt hc4; simp at this; omega
    have hll : (nearL (xs.take k) left but).length ≤ 16 := by
      have h1 := List.length_filter_le (fun u => decide (u ≠ but) && decide (u ∈ left)) (xs.take k)
      have h2 : (xs.take k).length ≤ xs.length := by simp; omega
      unfold nearL; omega
    have hvc := (hq.cell (p := ⟨vb, vo + x, none⟩) (cell_lt hvcell)).trans hvcell
    by_cases hlt : k < xs.length
    · have hcell := (hq.cell (p := ⟨rb, ro + k, none⟩) (cell_lt (hrcells k hlt))).trans (hrcells k hlt)
      obtain ⟨rfl, -⟩ := hra (by omega)
      have hst : nearL (xs.take (k + 1)) left but = if xs[k] ≠ but ∧ xs[k] ∈ left then nearL (xs.take k) left but ++ [xs[k]] else nearL (xs.take k) left but := by
        unfold nearL
        rw [List.take_succ_eq_append_getElem hlt, List.filter_append]
        by_cases h : xs[k] = but <;> by_cases h2 : xs[k] ∈ left <;> simp [h, h2]
        all_goals (try (subst h; simp [h2]))
      have hua := hu.below hq (Nat.le_refl _)
      generalize xs[k] = y at hcell hst
      by_cases hy : y = but
      · have hb : (y != but) = false := by rw [bne_eq_false_iff_eq]; exact hy
        rw [if_neg (fun h => h.1 hy)] at hst
        have HS := Lib.hid hst; clear hst hy
        go_wp2
        go_roundw
        case rel => exact ⟨k + 1, by omega, by go_num, by rw [HS.out]; exact hown, hq, hc4⟩
        case measure => simp [intOf]; omega
      have hb : (y != but) = true := by rw [bne_iff_ne]; exact hy
      have hhas := l1Has_any _ _ y _ hua
      by_cases hm : y ∈ left
      · rw [if_pos ⟨hy, hm⟩] at hst
        rw [decide_eq_true hm] at hhas
        have HS := Lib.hid hst; clear hst hy hm
        go_wp2_with (first | (go_at_call 32; refine hhas.mono ?_; rintro e w' ⟨rfl, rfl⟩) | (at_builtin; refine wpList_append1 elI64 rfl _ _ rfl hown rfl rfl rfl (by omega) hB1 ?_; intro v' w2 hown1 hkept hmv))
        go_roundw
        case rel => exact ⟨k + 1, by omega, by go_num, by rw [HS.out]; simpa using hown1, hkept.below hq hB (fun k h => by have := hown.ge k h; omega), (World.cell?_of_block (a := ⟨w.heap.size, 0, none⟩) (hkept.2.2.2.2 _ (cell_lt hc4) (fun e => by have := hown.ge _ e.symm; simp at this; omega))).trans hc4⟩
        case measure => simp [intOf]; omega
      · rw [if_neg (fun h => hm h.2)] at hst
        rw [decide_eq_false hm] at hhas
        have HS := Lib.hid hst; clear hst hy hm
        go_wp2_with (go_at_call 32; refine hhas.mono ?_; rintro e w' ⟨rfl, rfl⟩)
        go_roundw
        case rel => exact ⟨k + 1, by omega, by go_num, by rw [HS.out]; exact hown, hq, hc4⟩
        case measure => simp [intOf]; omega
    · obtain rfl : k = xs.length := by omega
      rw [List.take_length] at hown
      go_wp2
      go_ret
      refine ⟨_, rfl, ?_, hq⟩
      unfold OwnB
      rw [← HL.out]; exact Own.weak hown (by omega)
end Go.Proofs.Ytfccpencgengaaa
