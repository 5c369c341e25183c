/- FourPath of the reference and of the program; the law. -/
import Derived.Test.YtakcoihndobmpaaFourM
import Derived.Test.YtakcoihndobmpaaJoin
import Derived.Test.YtakcoihndobmpaaLawEmb
namespace Go.Proofs.Ytakcoihndobmpaa
open Go.RowKit
theorem lit2 (S : Nat → Prop) (w : World) (E : TypeId) (a b : Nat) (hS : S w.heap.size) : SlI S (w.alloc (.cells #[.int .i64 (a : Int), .int .i64 (b : Int)] E)) .i64 (.slice (some ⟨w.heap.size, 0, none⟩) 2 2) (natsI [a, b]) := by
  refine ⟨some ⟨w.heap.size, 0, none⟩, w.heap.size, 0, 2, rfl, by simp [natsI], fun _ => ⟨rfl, hS⟩, fun i hi => ?_⟩
  match i, hi with
  | 0, _ => simp [natsI, go_sem]
  | 1, _ => simp [natsI, go_sem]
  | _ + 2, h => simp [natsI] at h; omega
theorem lit3 (S : Nat → Prop) (w : World) (E : TypeId) (a b c : Nat) (hS : S w.heap.size) : SlI S (w.alloc (.cells #[.int .i64 (a : Int), .int .i64 (b : Int), .int .i64 (c : Int)] E)) .i64 (.slice (some ⟨w.heap.size, 0, none⟩) 3 3) (natsI [a, b, c]) := by
  refine ⟨some ⟨w.heap.size, 0, none⟩, w.heap.size, 0, 3, rfl, by simp [natsI], fun _ => ⟨rfl, hS⟩, fun i hi => ?_⟩
  match i, hi with
  | 0, _ => simp [natsI, go_sem]
  | 1, _ => simp [natsI, go_sem]
  | 2, _ => simp [natsI, go_sem]
  | _ + 3, h => simp [natsI] at h; omega
theorem lit4 (S : Nat → Prop) (w : World) (E : TypeId) (a b c d : Nat) (hS : S w.heap.size) : SlI S (w.alloc (.cells #[.int .i64 (a : Int), .int .i64 (b : Int), .int .i64 (c : Int), .int .i64 (d : Int)] E)) .i64 (.slice (some ⟨w.heap.size, 0, none⟩) 4 4) (natsI [a, b, c, d]) := by
  refine ⟨some ⟨w.heap.size, 0, none⟩, w.heap.size, 0, 4, rfl, by simp [natsI], fun _ => ⟨rfl, hS⟩, fun i hi => ?_⟩
  match i, hi with
  | 0, _ => simp [natsI, go_sem]
  | 1, _ => simp [natsI, go_sem]
  | 2, _ => simp [natsI, go_sem]
  | 3, _ => simp [natsI, go_sem]
  | _ + 4, h => simp [natsI] at h; omega
set_option maxHeartbeats 4000000 in
theorem l16Path_any {S S' : Nat → Prop} {v u : Value} {g : List (List Int)} {p : List Nat} {w : World} (hg : GOk g) (hv : SlR S w v g) (hu : SlI S' w .i64 u (natsI p)) (hp : ∀ a ∈ p, a < g.length) (hpl : p.length ≤ 16) :
    Calls Try.prog 41 #[.agg #[v], u] w fun e w' => e = .returned (.bool (pathB g p)) ∧ Below w.heap.size w w' := by
  have hq0 : Below w.heap.size w (w.alloc (.cells #[v] 27)) := (Below.refl _ _).alloc (Nat.le_refl _) _
  have h16 := hg.hi
  obtain ⟨a, b, off, cap, f, rfl, hl, ha, hc0⟩ := hv
  obtain ⟨ub, uo, ucap, hue, huc0⟩ := hu.at_
  obtain ⟨ua, uc, rfl⟩ := hu.slice
  simp only [natsI_len] at hue huc0 hu ⊢
  go_enter Try.func41, Try.ntmps41
  go_wp2
  go_loopw [5] (fun i wr => ∃ k : Nat, k ≤ p.length ∧ i = .int .i64 k ∧ PairsTo g p k ∧ Below w.heap.size w wr ∧ wr.cell? ⟨w.heap.size, 0, none⟩ = some (.slice a g.length cap)) (fun i _ => p.length - (intOf i).toNat)
  case atStart => exact ⟨0, Nat.zero_le _, rfl, (fun _ _ h => by omega), hq0, by simp⟩
  case round =>
    obtain ⟨k, hk, rfl, hpr, hq, hbx⟩ := hrel
    have HP := Lib.hid hpr; clear hpr
    by_cases hlt : k < p.length
    case neg =>
      have hB : pathB g p = true := pathB_true fun i j hij hj => HP.out i j (by omega) hij hj
      have HB := Lib.hid hB; clear hB
      go_wp2
      go_ret
      exact ⟨ret_bool HB.out.symm, hq⟩
    go_wp2
    go_loopw [6] (fun i wr => ∃ r : Nat, k < r ∧ r ≤ p.length ∧ i = .int .i64 r ∧ RowTo g p k r ∧ Below w.heap.size w wr ∧ wr.cell? ⟨w.heap.size, 0, none⟩ = some (.slice a g.length cap)) (fun i _ => p.length - (intOf i).toNat)
    case atStart => exact ⟨k + 1, by omega, by omega, by go_num, (fun _ _ h => by omega), hq, hbx⟩
    case round =>
      clear hq hbx
      obtain ⟨r, hkr, hr, rfl, hrw, hq, hbx⟩ := hrel
      have HR := Lib.hid hrw; clear hrw
      by_cases hlt2 : r < p.length
      case neg =>
        go_wp2
        go_roundw
        case rel => exact ⟨k + 1, by omega, by go_num, pairsTo_succ HP.out HR.out (by omega), hq, hbx⟩
        case measure => simp [intOf]; omega
      have huc := fun (i : Nat) (h : i < p.length) => huc0 i h
      have hue2 := hue (by omega)
      simp only [Value.slice.injEq] at hue2
      obtain ⟨rfl, -, rfl⟩ := hue2
      have hlo : (⟨ub, uo, none⟩ : Addr).block < w.heap.size := by have := cell_lt (huc k hlt); exact this
      have e1 : wr.cell? ⟨ub, uo + k, none⟩ = some (.int .i64 ((p.getD k 0 : Nat) : Int)) := by
        rw [hq.cell (p := ⟨ub, uo + k, none⟩) hlo, huc k hlt, natsI_get]; simp [hlt]
      have e2 : wr.cell? ⟨ub, uo + r, none⟩ = some (.int .i64 ((p.getD r 0 : Nat) : Int)) := by
        rw [hq.cell (p := ⟨ub, uo + r, none⟩) hlo, huc r hlt2, natsI_get]; simp [hlt2]
      have hxl : p.getD k 0 < g.length := by
        have : p.getD k 0 = p[k] := by simp [hlt]
        rw [this]; exact hp _ (List.getElem_mem _)
      have hyl : p.getD r 0 < g.length := by
        have : p.getD r 0 = p[r] := by simp [hlt2]
        rw [this]; exact hp _ (List.getElem_mem _)
      have hpb : pairB g p k r = (!decide (p.getD k 0 = p.getD r 0) && (decide (((p.getD r 0 : Nat) : Int) ∈ g.getD (p.getD k 0) []) == decide (r = k + 1))) := rfl
      have hbad : pairB g p k r = false → pathB g p = false := fun h => pathB_false fun h2 => by have := h2 k r hkr hlt2; rw [h] at this; cases this
      generalize p.getD k 0 = x at e1 hxl hpb
      generalize p.getD r 0 = y at e2 hyl hpb
      clear huc huc0
      obtain ⟨hcell, hrow⟩ := (hc0.below hq (Nat.le_refl _)) x hxl
      have hgx : g.getD x [] = g[x] := by simp [hxl]
      rw [hgx] at hpb
      obtain ⟨rfl, -⟩ := ha (by omega)
      have hhas := fun (w2 : World) (h : SlI S w2 .i64 (f x) g[x]) => l1Has_any (f x) g[x] (y : Int) w2 h
      have HBAD := Lib.hid hbad; clear hbad
      by_cases hxy : x = y
      · have hb1 : ((x : Int) == (y : Int)) = true := by rw [beq_iff_eq]; omega
        have hb1n : (x == y) = true := by rw [beq_iff_eq]; omega
        have hpf : pairB g p k r = false := by rw [hpb]; simp [hxy]
        have HPF := Lib.hid hpf; clear hpf hpb hhas hxy
        go_wp2
        go_quiet (fail)
        go_wp2
        go_ret
        exact ⟨ret_bool (HBAD.out HPF.out).symm, hq.drewN' _⟩
      have hb1 : ((x : Int) == (y : Int)) = false := by rw [beq_eq_false_iff_ne]; omega
      have hb1n : (x == y) = false := by rw [beq_eq_false_iff_ne]; omega
      have hd : decide (x = y) = false := by simpa using hxy
      rw [hd] at hpb
      have hkk : (((r : Nat) : Int) == ((k : Nat) : Int) + 1) = decide (r = k + 1) := by
        rw [Bool.eq_iff_iff, beq_iff_eq, decide_eq_true_eq]; omega
      have hd2 : decide (r = k + 1) = true ∨ decide (r = k + 1) = false := by cases decide (r = k + 1) <;> simp
      generalize decide (r = k + 1) = b2 at hpb hkk hd2
      have hd3 : decide ((y : Int) ∈ g[x]) = true ∨ decide ((y : Int) ∈ g[x]) = false := by cases decide ((y : Int) ∈ g[x]) <;> simp
      generalize decide ((y : Int) ∈ g[x]) = b1 at hpb hhas hd3
      clear hd hxy
      have HPB := Lib.hid hpb; clear hpb
      rcases hd2 with rfl | rfl <;> rcases hd3 with rfl | rfl
      all_goals
        first
        | (have hpt : pairB g p k r = true := by rw [HPB.out]; rfl
           have HPT := Lib.hid hpt; clear hpt HPB
           go_wp2
           go_quiet ((go_at_call 44; exact quiet_same (hhas _ (hrow.drewN _))))
           go_wp2
           go_roundw
           case rel => exact ⟨r + 1, by omega, by omega, by go_num, rowTo_succ HR.out HPT.out, hq.drewN' _, hbx⟩
           case measure => simp [intOf]; omega)
        | (have hpf : pairB g p k r = false := by rw [HPB.out]; rfl
           have HPF := Lib.hid hpf; clear hpf HPB
           go_wp2
           go_quiet ((go_at_call 44; exact quiet_same (hhas _ (hrow.drewN _))))
           go_wp2
           go_ret
           exact ⟨ret_bool (HBAD.out HPF.out).symm, hq.drewN' _⟩)
set_option maxHeartbeats 8000000 in
theorem specFourPath_any {S : Nat → Prop} {v : Value} {g : List (List Int)} {w : World} (hv : SlR S w v g) :
    Calls Try.prog 23 #[.agg #[v]] w (TwoP (fun _ => True) (fourF g) w) := by
  have hq0 : Below w.heap.size w (w.alloc (.cells #[v] 27)) := (Below.refl _ _).alloc (Nat.le_refl _) _
  obtain ⟨va, vc, rfl⟩ := hv.slice
  have hgo := specGraphOk_any _ _ _ (hv.below hq0 (Nat.le_refl _))
  by_cases hgg : gokB g = true
  case neg =>
    have hgg' : gokB g = false := by simpa using hgg
    rw [hgg'] at hgo
    have HE := Lib.hid (show fourF g = none by simp [fourF, hgg'])
    clear hgg hgg'
    go_enter Try.func23, Try.ntmps23
    go_wp2_with (go_at_call 34; (with_reducible refine hgo.mono ?_); rintro e w1 ⟨rfl, hb1⟩)
    go_ret2
    rw [HE.out]
    have hq1 := hq0.trans (hb1.mono hq0.size)
    exact ⟨_, rfl, SlI.empty _ _ _ _, hq1.alloc hq1.size _⟩
  rw [hgg] at hgo
  have hg := gokB_iff.1 hgg
  have h16 := hg.hi
  have hE : fourF g = (restR g 3 [] 0).1 := by rw [fourF, hgg, if_pos rfl, fitO_four]
  have hE2 := four_any g
  rw [← hE] at hE2
  have HE := Lib.hid hE; have HE2 := Lib.hid hE2; clear hE hE2 hgg
  have HN := fun (n : Nat) (hn : n < g.length) => (show ∀ a ∈ [n], a < g.length from fun a ha => by simp at ha; omega)
  go_enter Try.func23, Try.ntmps23
  go_wp2_with (go_at_call 34; (with_reducible refine hgo.mono ?_); rintro e w1 ⟨rfl, hb1⟩; have hq1 := hq0.trans (hb1.mono hq0.size); have c3 : w1.cell? ⟨w.heap.size, 0, none⟩ = some (.slice va g.length vc) := (hb1.cell (p := ⟨w.heap.size, 0, none⟩) (by simp; try omega)).trans (by simp [go_sem]))
  clear hgo
  go_loopw [5] (fun i wr => ∃ k : Nat, k ≤ g.length ∧ i = .int .i64 k ∧ restR g 3 [] k = restR g 3 [] 0 ∧ Below w.heap.size w wr ∧ wr.cell? ⟨w.heap.size, 0, none⟩ = some (.slice va g.length vc)) (fun i _ => g.length - (intOf i).toNat)
  case atStart => exact ⟨0, Nat.zero_le _, rfl, rfl, hq1, c3⟩
  case round =>
    clear hq1 c3
    obtain ⟨k, hk, rfl, hT, hq, hbx⟩ := hrel
    by_cases hlt : k < g.length
    case neg =>
      obtain rfl : k = g.length := by omega
      rw [restR_end] at hT
      have HT := Lib.hid hT; clear hT
      go_wp2
      go_ret2
      have hF : fourF g = none := by rw [HE.out, ← HT.out]
      rw [hF]
      exact ⟨_, rfl, SlI.empty _ _ _ _, hq.alloc hq.size _⟩
    rw [restR_step hg (by simp) hlt (by simp) (pathB_nil g)] at hT
    have HT := Lib.hid hT; clear hT
    go_wp2
    go_loopw [6] (fun i wr => ∃ r : Nat, r ≤ g.length ∧ i = .int .i64 r ∧ orE (restR g 2 [k] r) (restR g 3 [] (k + 1)) = restR g 3 [] 0 ∧ Below w.heap.size w wr ∧ wr.cell? ⟨w.heap.size, 0, none⟩ = some (.slice va g.length vc)) (fun i _ => g.length - (intOf i).toNat)
    case atStart => exact ⟨0, Nat.zero_le _, rfl, HT.out, hq, hbx⟩
    case round =>
      clear hq hbx HT
      obtain ⟨r, hr, rfl, hT, hq, hbx⟩ := hrel
      by_cases hlt2 : r < g.length
      case neg =>
        obtain rfl : r = g.length := by omega
        rw [restR_end, orE_no] at hT
        have HT := Lib.hid hT; clear hT
        go_wp2
        go_roundw
        case rel => exact ⟨k + 1, by omega, by go_num, HT.out, hq, hbx⟩
        case measure => simp [intOf]; omega
      have hpk : pathB g [k] = true := pathB_true fun i j hij hj => by simp at hj; omega
      rw [restR_step hg (by simpa using hlt) hlt2 (by simp) hpk] at hT
      have HT := Lib.hid (show orE (orE (restR g 1 [k, r] 0) (restR g 2 [k] (r + 1))) (restR g 3 [] (k + 1)) = restR g 3 [] 0 from hT); clear hT hpk
      go_wp2
      go_loopw [7] (fun i wr => ∃ j : Nat, j ≤ g.length ∧ i = .int .i64 j ∧ orE (orE (restR g 1 [k, r] j) (restR g 2 [k] (r + 1))) (restR g 3 [] (k + 1)) = restR g 3 [] 0 ∧ Below w.heap.size w wr ∧ wr.cell? ⟨w.heap.size, 0, none⟩ = some (.slice va g.length vc)) (fun i _ => g.length - (intOf i).toNat)
      case atStart => exact ⟨0, Nat.zero_le _, rfl, HT.out, hq, hbx⟩
      case round =>
        clear hq hbx HT
        obtain ⟨w3, rfl⟩ : ∃ x : World, x = wr := ⟨_, rfl⟩
        obtain ⟨j, hj, rfl, hT, hq, hbx⟩ := hrel
        by_cases hlt3 : j < g.length
        case neg =>
          obtain rfl : j = g.length := by omega
          rw [restR_end, orE_no] at hT
          have HT := Lib.hid hT; clear hT
          go_wp2
          go_roundw
          case rel => exact ⟨r + 1, by omega, by go_num, HT.out, hq, hbx⟩
          case measure => simp [intOf]; omega
        have hq2 := hq.alloc hq.size (.cells #[.int .i64 (k : Int), .int .i64 (r : Int)] 2)
        have hb2 : (w3.alloc (.cells #[.int .i64 (k : Int), .int .i64 (r : Int)] 2)).cell? ⟨w.heap.size, 0, none⟩ = some (.slice va g.length vc) := (World.cell?_alloc_some w3 ⟨w.heap.size, 0, none⟩ _ (by rw [hbx]; rfl)).trans hbx
        have hlp := l16Path_any hg (hv.below hq2 (Nat.le_refl _)) (lit2 (fun _ => True) w3 2 k r trivial) (by intro a ha; simp at ha; omega) (by simp)
        cases hpb : pathB g [k, r]
        · rw [hpb] at hlp
          rw [restR_no hpb, orE_no] at hT
          have HT := Lib.hid hT; clear hT hpb
          go_wp2_with (go_at_call 41; (with_reducible refine hlp.mono ?_); rintro e w4 ⟨rfl, hb4⟩)
          have hb4c := (hb4.cell (cell_lt hb2)).trans hb2
          have hq4 := hq2.trans (hb4.mono hq2.size)
          clear hlp
          go_roundw
          case rel => exact ⟨r + 1, by omega, by go_num, HT.out, hq4, hb4c⟩
          case measure => simp [intOf]; omega
        rw [hpb] at hlp
        rw [restR_step hg (by intro a ha; simp at ha; omega) hlt3 (by simp) hpb] at hT
        have HT := Lib.hid (show orE (orE (orE (restR g 0 [k, r, j] 0) (restR g 1 [k, r] (j + 1))) (restR g 2 [k] (r + 1))) (restR g 3 [] (k + 1)) = restR g 3 [] 0 from hT); clear hT hpb
        go_wp2_with (go_at_call 41; (with_reducible refine hlp.mono ?_); rintro e w4 ⟨rfl, hb4⟩)
        have hb4c := (hb4.cell (cell_lt hb2)).trans hb2
        have hq4 := hq2.trans (hb4.mono hq2.size)
        clear hlp hq2 hb2 hb4 hbx
        go_loopw [8] (fun i wr => ∃ m : Nat, m ≤ g.length ∧ i = .int .i64 m ∧ orE (orE (orE (restR g 0 [k, r, j] m) (restR g 1 [k, r] (j + 1))) (restR g 2 [k] (r + 1))) (restR g 3 [] (k + 1)) = restR g 3 [] 0 ∧ Below w.heap.size w wr ∧ wr.cell? ⟨w.heap.size, 0, none⟩ = some (.slice va g.length vc)) (fun i _ => g.length - (intOf i).toNat)
        case atStart => exact ⟨0, Nat.zero_le _, rfl, HT.out, hq4, hb4c⟩
        case round =>
          clear hq hq4 hb4c HT
          obtain ⟨w5, rfl⟩ : ∃ x : World, x = wr := ⟨_, rfl⟩
          obtain ⟨m, hm, rfl, hT, hq, hbx⟩ := hrel
          by_cases hlt4 : m < g.length
          case neg =>
            obtain rfl : m = g.length := by omega
            rw [restR_end, orE_no] at hT
            have HT := Lib.hid hT; clear hT
            go_wp2
            go_roundw
            case rel => exact ⟨j + 1, by omega, by go_num, HT.out, hq, hbx⟩
            case measure => simp [intOf]; omega
          have hq2 := hq.alloc hq.size (.cells #[.int .i64 (k : Int), .int .i64 (r : Int), .int .i64 (j : Int)] 2)
          have hb2 : (w5.alloc (.cells #[.int .i64 (k : Int), .int .i64 (r : Int), .int .i64 (j : Int)] 2)).cell? ⟨w.heap.size, 0, none⟩ = some (.slice va g.length vc) := (World.cell?_alloc_some w5 ⟨w.heap.size, 0, none⟩ _ (by rw [hbx]; rfl)).trans hbx
          have hlp := l16Path_any hg (hv.below hq2 (Nat.le_refl _)) (lit3 (fun _ => True) w5 2 k r j trivial) (by intro a ha; simp at ha; omega) (by simp)
          cases hpb : pathB g [k, r, j]
          · rw [hpb] at hlp
            rw [restR_no hpb, orE_no] at hT
            have HT := Lib.hid hT; clear hT hpb
            go_wp2_with (go_at_call 41; (with_reducible refine hlp.mono ?_); rintro e w6 ⟨rfl, hb6⟩)
            have hb6c := (hb6.cell (cell_lt hb2)).trans hb2
            have hq6 := hq2.trans (hb6.mono hq2.size)
            clear hlp
            go_roundw
            case rel => exact ⟨j + 1, by omega, by go_num, HT.out, hq6, hb6c⟩
            case measure => simp [intOf]; omega
          rw [hpb] at hlp
          rw [restR_leaf hg (by intro a ha; simp at ha; omega) hlt4 (by simp) hpb] at hT
          have hT := (show orE (orE (orE (if pathB g [k, r, j, m] = true then (some [k, r, j, m], true) else restR g 0 [k, r, j] (m + 1)) (restR g 1 [k, r] (j + 1))) (restR g 2 [k] (r + 1))) (restR g 3 [] (k + 1)) = restR g 3 [] 0 from hT)
          have hlq := fun (w6 : World) (hb6 : Below w.heap.size w w6) => l16Path_any hg (hv.below (hb6.alloc hb6.size (.cells #[.int .i64 (k : Int), .int .i64 (r : Int), .int .i64 (j : Int), .int .i64 (m : Int)] 2)) (Nat.le_refl _)) (lit4 (fun _ => True) w6 2 k r j m trivial) (by intro a ha; simp at ha; omega) (by simp)
          clear hpb
          cases hpb : pathB g [k, r, j, m]
          · rw [hpb] at hlq
            rw [hpb] at hT
            simp only [Bool.false_eq_true, if_false] at hT
            have HT := Lib.hid hT; clear hT hpb
            go_wp2_with fail
            (with_reducible refine hlp.mono ?_)
            rintro e w6 ⟨rfl, hb6⟩
            have hb6c := (hb6.cell (cell_lt hb2)).trans hb2
            have hq6 := hq2.trans (hb6.mono hq2.size)
            clear hlp hq2 hb2 hb6 hbx
            have hq7 := hq6.alloc hq6.size (.cells #[.int .i64 (k : Int), .int .i64 (r : Int), .int .i64 (j : Int), .int .i64 (m : Int)] 2)
            have hb7 : (w6.alloc (.cells #[.int .i64 (k : Int), .int .i64 (r : Int), .int .i64 (j : Int), .int .i64 (m : Int)] 2)).cell? ⟨w.heap.size, 0, none⟩ = some (.slice va g.length vc) := (World.cell?_alloc_some w6 ⟨w.heap.size, 0, none⟩ _ (by rw [hb6c]; rfl)).trans hb6c
            go_wp2_with fail
            (with_reducible refine (hlq w6 hq6).mono ?_)
            rintro e w8 ⟨rfl, hb8⟩
            have hb8c := (hb8.cell (cell_lt hb7)).trans hb7
            have hq8 := hq7.trans (hb8.mono hq7.size)
            clear hlq
            go_wp2
            go_roundw
            case rel => exact ⟨m + 1, by omega, by go_num, HT.out, hq8, hb8c⟩
            case measure => simp [intOf]; omega
          · rw [hpb] at hlq
            rw [hpb] at hT
            simp only [if_true, orE] at hT
            have HT := Lib.hid hT; clear hT hpb
            go_wp2_with fail
            (with_reducible refine hlp.mono ?_)
            rintro e w6 ⟨rfl, hb6⟩
            have hb6c := (hb6.cell (cell_lt hb2)).trans hb2
            have hq6 := hq2.trans (hb6.mono hq2.size)
            clear hlp hq2 hb2 hb6 hbx
            have hq7 := hq6.alloc hq6.size (.cells #[.int .i64 (k : Int), .int .i64 (r : Int), .int .i64 (j : Int), .int .i64 (m : Int)] 2)
            go_wp2_with fail
            (with_reducible refine (hlq w6 hq6).mono ?_)
            rintro e w8 ⟨rfl, hb8⟩
            have hq8 := hq7.trans (hb8.mono hq7.size)
            clear hlq
            go_wp2
            go_ret2
            have hF : fourF g = some [k, r, j, m] := by rw [HE.out, ← HT.out]
            rw [hF]
            exact ⟨_, rfl, lit4 _ _ _ _ _ _ _ trivial, hq8.alloc hq8.size _⟩
set_option maxHeartbeats 4000000 in
theorem implFourPath_any {S : Nat → Prop} {v : Value} {g : List (List Int)} {w : World} (hv : SlR S w v g) :
    Calls Try.prog 24 #[.agg #[v]] w (TwoO 2 (fourF g) w) := by
  have hq0 : Below w.heap.size w (w.alloc (.cells #[v] 27)) := (Below.refl _ _).alloc (Nat.le_refl _) _
  obtain ⟨va, vc, rfl⟩ := hv.slice
  have hgo := implGraphOk_any _ _ _ (hv.below hq0 (Nat.le_refl _))
  by_cases hgg : gokB g = true
  case neg =>
    have hgg' : gokB g = false := by simpa using hgg
    rw [hgg'] at hgo
    have HE := Lib.hid (show fourF g = none by simp [fourF, hgg'])
    clear hgg hgg'
    go_enter Try.func24, Try.ntmps24
    go_wp2_with fail
    refine hgo.mono ?_
    rintro e w1 ⟨rfl, hb1⟩
    go_wp2
    go_ret2
    rw [HE.out]
    exact ⟨_, rfl, Own.nil _ _ _ _, hq0.trans (hb1.mono hq0.size)⟩
  rw [hgg] at hgo
  have hg := gokB_iff.1 hgg
  have h16 := hg.hi
  have HE := Lib.hid (show fourF g = fitO (netsL g) q4 by simp [fourF, hgg])
  clear hgg
  have q := nilInts
  go_enter Try.func24, Try.ntmps24
  go_wp2_with fail
  refine hgo.mono ?_
  rintro e w1 ⟨rfl, hb1⟩
  have hq1 := hq0.trans (hb1.mono hq0.size)
  have c3 : w1.cell? ⟨w.heap.size, 0, none⟩ = some (.slice va g.length vc) := (hb1.cell (p := ⟨w.heap.size, 0, none⟩) (by simp; try omega)).trans (by simp [go_sem])
  clear hgo
  go_wp2_with fail
  refine (netsOf_any _ _ _ (hv.below hq1 (Nat.le_refl _)) hg).mono ?_
  rintro e w2 ⟨x1, rfl, hx1, hb2⟩
  have hq2 := hq1.trans (hb2.mono hq1.size)
  go_wp2_with fail
  refine pathNets_any.mono ?_
  rintro e w3 ⟨x2, rfl, hx2, hb3⟩
  have hq3 := hq2.trans (hb3.mono hq2.size)
  have hh := Own.ints (xs := natsI (netsL g)) (hx1.below hb3 (Nat.le_refl _)) (by omega)
  have hp2 := Own.ints (xs := natsI q4) hx2 (by omega)
  go_wp2_with fail
  refine (firstFit_any hh hp2 (by rw [netsL_len]; omega) (by decide) (netsL_lt hg) (by decide)).mono ?_
  rintro e w4 ⟨r, rfl, hr0, hr, hb4⟩
  have hq4 := hq3.trans (hb4.mono hq3.size)
  have hfl := fun r => four_len (g := g) (r := r)
  cases hf : fitO (netsL g) q4 with
  | none =>
    rw [hf] at hr0 HE
    obtain rfl := hr0 rfl
    clear hr hfl hf
    go_wp2
    go_ret2
    rw [HE.out]
    exact ⟨_, rfl, Own.nil _ _ _ _, hq4⟩
  | some r' =>
    have hl := hfl r' hf
    rw [hf] at hr HE
    simp only [Option.getD_some] at hr
    have hri := hr.ints (xs := natsI r') (by omega)
    obtain ⟨rb, ro, rcap, hre, -⟩ := hri.at_
    have hre := hre (by rw [natsI_len]; omega)
    subst hre
    have HLL := Lib.hid hl
    clear hr0 hfl hf hl
    go_wp2_with fail
    refine (wide_any hri (by have := HLL.out; rw [natsI_len]; omega)).mono ?_
    rintro e w5 ⟨u, rfl, hu, hb5⟩
    obtain ⟨ua, uc, rfl⟩ := hu.isSlice
    rw [natsI_len] at hu ⊢
    go_wp2
    go_ret2
    rw [HE.out]
    exact ⟨_, rfl, hu.weak hq4.size, hq4.trans (hb5.mono hq4.size)⟩
theorem conFourPath {g0 : List (List Int)} (hsm0 : SmallR g0 1048576) : ∃ (r0 : List Int) (r1 : Bool), (∀ {S0 : Nat → Prop} {v0 : Value} {w : World}, SlR S0 w v0 g0 → Calls Try.prog 23 #[.agg #[v0]] w fun e w' => ∃ u0, e = .returned (.tuple #[u0, .bool r1]) ∧ SlI (fun b => b < w'.heap.size) w' .i64 u0 r0 ∧ Below w.heap.size w w') ∧
    (∀ {S0 : Nat → Prop} {v0 : Value} {w : World}, SlR S0 w v0 g0 → Calls Try.prog 24 #[.agg #[v0]] w fun e w' => ∃ u0, e = .returned (.tuple #[u0, .bool r1]) ∧ Own w' w.heap.size 2 1 u0 r0.length (r0.map (.int .i64)) ∧ Below w.heap.size w w') ∧
    r0.length ≤ 1048576 := by
  exact ⟨natsI ((fourF g0).getD []), (fourF g0).isSome, fun h0 => (specFourPath_any h0).mono fun e w' h => outP h, fun h0 => (implFourPath_any h0).mono fun e w' h => outO h, fourF_long g0⟩
set_option maxHeartbeats 16000000 in
theorem lawFourPath_any {S0 : Nat → Prop} (v0 : Value) (g0 : List (List Int)) (w : World) (hv0 : SlR S0 w v0 g0) :
    Calls Try.prog 7 #[.agg #[v0]] w fun e w' => e = .returned (.bool true) ∧ Below w.heap.size w w' := by
  obtain ⟨a0, c0, rfl⟩ := hv0.slice
  have q0 : Below w.heap.size w (w.alloc (.cells #[.slice a0 g0.length c0] 24)) := (Below.refl _ _).alloc (Nat.le_refl _) _
  go_enter Try.func7, Try.ntmps7
  go_wp2_with fail
  refine (szGraph_any _ _ _ _ (hv0.below q0 (Nat.le_refl _)) (by omega) (by omega)).mono ?_
  rintro e w1 ⟨r1, rfl, hr1, hs1, hm1, hb1⟩
  have q1 := q0.trans (hb1.mono q0.size)
  have z0 := q0.size
  have z1 : w.heap.size + 1 ≤ w1.heap.size := by have := hb1.size; simp at this; omega
  have b0_1 : w1.cell? ⟨w.heap.size, 0, none⟩ = some (.slice a0 g0.length c0) := (hb1.cell (p := ⟨w.heap.size, 0, none⟩) (by simp <;> omega)).trans (by simp [go_sem])
  by_cases hneg1 : r1 < 0
  case pos =>
    go_wp2
    go_ret
    exact ⟨rfl, q1⟩
  have hsm0 : SmallR g0 1048576 := hm1 (by omega)
  obtain ⟨r0, r1, hS, hI, hN0⟩ := conFourPath hsm0
  have hB0 : r0.length ≤ 9223372036854775807 := by omega
  go_wp2_with fail
  refine (toGraphR_any (hv0.below q1 (Nat.le_refl _)) hsm0).mono ?_
  rintro e w2 ⟨x2, rfl, y2_2, hb2⟩
  have q2 := q1.trans (hb2.mono q1.size)
  have z2 := hb2.size
  have b0_2 : w2.cell? ⟨w.heap.size, 0, none⟩ = some (.slice a0 g0.length c0) := (hb2.cell (p := ⟨w.heap.size, 0, none⟩) (cell_lt b0_1)).trans b0_1
  obtain ⟨xa2, xc2, rfl⟩ := y2_2.isSlice
  go_wp2_with fail
  refine (hS (y2_2.rows hsm0)).mono ?_
  rintro e w3 ⟨w0u0, rfl, w0_0_3, hb3⟩
  have q3 := q2.trans (hb3.mono q2.size)
  have z3 := hb3.size
  have b0_3 : w3.cell? ⟨w.heap.size, 0, none⟩ = some (.slice a0 g0.length c0) := (hb3.cell (p := ⟨w.heap.size, 0, none⟩) (cell_lt b0_2)).trans b0_2
  have y2_3 := y2_2.below hb3 (Nat.le_refl _)
  obtain ⟨w0a0, w0c0, rfl⟩ := w0_0_3.slice
  go_wp2_with fail
  refine (toGraphR_any (hv0.below q3 (Nat.le_refl _)) hsm0).mono ?_
  rintro e w4 ⟨x4, rfl, y4_4, hb4⟩
  have q4 := q3.trans (hb4.mono q3.size)
  have z4 := hb4.size
  have b0_4 : w4.cell? ⟨w.heap.size, 0, none⟩ = some (.slice a0 g0.length c0) := (hb4.cell (p := ⟨w.heap.size, 0, none⟩) (cell_lt b0_3)).trans b0_3
  have y2_4 := y2_3.below hb4 (Nat.le_refl _)
  have w0_0_4 := w0_0_3.below hb4 (Nat.le_refl _)
  obtain ⟨xa4, xc4, rfl⟩ := y4_4.isSlice
  have hb5 : Below w4.heap.size w4 (w4.alloc (.cells #[.slice xa4 g0.length xc4] 27)) := (Below.refl _ _).alloc (Nat.le_refl _) _
  obtain ⟨w5, ew5⟩ : ∃ x, x = (w4.alloc (.cells #[.slice xa4 g0.length xc4] 27)) := ⟨_, rfl⟩
  rw [← ew5] at hb5
  have l5_5 : w5.cell? ⟨w4.heap.size, 0, none⟩ = some (.slice xa4 g0.length xc4) := by rw [ew5]; simp [go_sem]
  have zz5 : w5.heap.size = w4.heap.size + 1 := by rw [ew5]; simp
  have q5 := q4.trans (hb5.mono q4.size)
  have z5 := hb5.size
  have b0_5 : w5.cell? ⟨w.heap.size, 0, none⟩ = some (.slice a0 g0.length c0) := (hb5.cell (p := ⟨w.heap.size, 0, none⟩) (cell_lt b0_4)).trans b0_4
  have y2_5 := y2_4.below hb5 (Nat.le_refl _)
  have w0_0_5 := w0_0_4.below hb5 (Nat.le_refl _)
  have y4_5 := y4_4.below hb5 (Nat.le_refl _)
  have b0_5e : (w4.alloc (.cells #[.slice xa4 g0.length xc4] 27)).cell? ⟨w.heap.size, 0, none⟩ = some (.slice a0 g0.length c0) := by rw [← ew5]; exact b0_5
  have l5_5e : (w4.alloc (.cells #[.slice xa4 g0.length xc4] 27)).cell? ⟨w4.heap.size, 0, none⟩ = some (.slice xa4 g0.length xc4) := by rw [← ew5]; exact l5_5
  go_wp2_with fail
  rw [← ew5]
  refine (hI (y4_5.rows hsm0)).mono ?_
  rintro e w6 ⟨g0u0, rfl, g0_0_6, hb6⟩
  have q6 := q5.trans (hb6.mono q5.size)
  have z6 := hb6.size
  have b0_6 : w6.cell? ⟨w.heap.size, 0, none⟩ = some (.slice a0 g0.length c0) := (hb6.cell (p := ⟨w.heap.size, 0, none⟩) (cell_lt b0_5)).trans b0_5
  have l5_6 : w6.cell? ⟨w4.heap.size, 0, none⟩ = some (.slice xa4 g0.length xc4) := (hb6.cell (p := ⟨w4.heap.size, 0, none⟩) (cell_lt l5_5)).trans l5_5
  have y2_6 := y2_5.below hb6 (Nat.le_refl _)
  have w0_0_6 := w0_0_5.below hb6 (Nat.le_refl _)
  have y4_6 := y4_5.below hb6 (Nat.le_refl _)
  obtain ⟨g0a0, g0c0, rfl⟩ := g0_0_6.isSlice
  go_wp2_with fail
  refine (eqI_same (Own.ints g0_0_6 hB0) w0_0_6).mono ?_
  rintro e w7 ⟨rfl, hb7⟩
  have q7 := q6.trans (hb7.mono q6.size)
  have z7 := hb7.size
  have b0_7 : w7.cell? ⟨w.heap.size, 0, none⟩ = some (.slice a0 g0.length c0) := (hb7.cell (p := ⟨w.heap.size, 0, none⟩) (cell_lt b0_6)).trans b0_6
  have l5_7 : w7.cell? ⟨w4.heap.size, 0, none⟩ = some (.slice xa4 g0.length xc4) := (hb7.cell (p := ⟨w4.heap.size, 0, none⟩) (cell_lt l5_6)).trans l5_6
  have y2_7 := y2_6.below hb7 (Nat.le_refl _)
  have w0_0_7 := w0_0_6.below hb7 (Nat.le_refl _)
  have y4_7 := y4_6.below hb7 (Nat.le_refl _)
  have g0_0_7 := g0_0_6.below hb7 (Nat.le_refl _)
  go_wp2
  refine wp_region_held_drew (S := (fun w' => w'.cell? ⟨w.heap.size, 0, none⟩ = some (.slice a0 g0.length c0) ∧ w'.cell? ⟨w4.heap.size, 0, none⟩ = some (.slice xa4 g0.length xc4))) (by kernel_rfl) ?_ (fun hHeld => ?_)
  · first | exact ⟨‹_›, ‹_›⟩ | assumption | (simp [*, go_sem])
  refine wpAnyH_take (i := 0) (v := ?v1) (by simp only [List.getElem?_toArray, List.getElem?_cons_zero]; exact rfl) (by kernel_rfl) (by kernel_rfl) (by kernel_rfl) (by intro _ _ _ h; exact h) (Or.inl ⟨by rfl, ?y1⟩) hHeld ?_
  case y1 => (intro w hSw; (try dsimp only at hSw); go_simp; try (with_reducible rfl))
  try simp only [Act.put, List.setIfInBounds_toArray, List.set_cons_zero, List.set_cons_succ]
  refine wpAnyH_take (i := 1) (v := ?v2) (by simp only [List.getElem?_toArray, List.getElem?_cons_succ, List.getElem?_cons_zero]; exact rfl) (by kernel_rfl) (by kernel_rfl) (by kernel_rfl) (by intro _ _ _ h; exact h) (Or.inl ⟨by rfl, ?y2⟩) hHeld ?_
  case y2 => (intro w hSw; (try dsimp only at hSw); go_simp; try (with_reducible rfl))
  try simp only [Act.put, List.setIfInBounds_toArray, List.set_cons_zero, List.set_cons_succ]
  refine wpAnyH_ready (rs := [2]) (by kernel_rfl) (by simp) ?_
  refine AllReadyH.cons (by simp only [List.getElem?_toArray, List.getElem?_cons_succ, List.getElem?_cons_zero]; exact rfl) (fun K hK => ?_) AllReadyH.nil
  go_simp
  have q7d := q7.drew
  have y2_7k := y2_7
  have y2_7 := y2_7.below ((Below.refl w7.heap.size w7).drew) (Nat.le_refl _)
  have w0_0_7k := w0_0_7
  have w0_0_7 := w0_0_7.below ((Below.refl w7.heap.size w7).drew) (Nat.le_refl _)
  have y4_7k := y4_7
  have y4_7 := y4_7.below ((Below.refl w7.heap.size w7).drew) (Nat.le_refl _)
  have g0_0_7k := g0_0_7
  have g0_0_7 := g0_0_7.below ((Below.refl w7.heap.size w7).drew) (Nat.le_refl _)
  refine (toGraph_any _ _ _ (hv0.below q7d (Nat.le_refl _)) hsm0).mono ?_
  rintro e w8 ⟨x8, rfl, y8_8, hb8⟩
  replace hb8 : Below w7.heap.size w7 w8 := ⟨hb8.os, hb8.tape, hb8.output, hb8.size, hb8.block⟩
  replace y2_7 := y2_7k
  replace w0_0_7 := w0_0_7k
  replace y4_7 := y4_7k
  replace g0_0_7 := g0_0_7k
  have q8 := q7.trans (hb8.mono q7.size)
  have z8 := hb8.size
  have b0_8 : w8.cell? ⟨w.heap.size, 0, none⟩ = some (.slice a0 g0.length c0) := (hb8.cell (p := ⟨w.heap.size, 0, none⟩) (cell_lt b0_7)).trans b0_7
  have l5_8 : w8.cell? ⟨w4.heap.size, 0, none⟩ = some (.slice xa4 g0.length xc4) := (hb8.cell (p := ⟨w4.heap.size, 0, none⟩) (cell_lt l5_7)).trans l5_7
  have y2_8 := y2_7.below hb8 (Nat.le_refl _)
  have w0_0_8 := w0_0_7.below hb8 (Nat.le_refl _)
  have y4_8 := y4_7.below hb8 (Nat.le_refl _)
  have g0_0_8 := g0_0_7.below hb8 (Nat.le_refl _)
  try dsimp only
  refine hK.out _ _ ?h4 (fun hHeld => ?_)
  case h4 => first | exact ⟨‹_›, ‹_›⟩ | assumption | (simp [*, go_sem])
  clear hK K
  try simp only [Act.put, List.setIfInBounds_toArray, List.set_cons_zero, List.set_cons_succ]
  refine wpAnyH_ready (rs := [3]) (by kernel_rfl) (by simp) ?_
  refine AllReadyH.cons (by simp only [List.getElem?_toArray, List.getElem?_cons_succ, List.getElem?_cons_zero]; exact rfl) (fun K hK => ?_) AllReadyH.nil
  go_simp
  refine (eqG_same (y4_8.rows hsm0) y8_8).mono ?_
  rintro e w9 ⟨rfl, hb9⟩
  have q9 := q8.trans (hb9.mono q8.size)
  have z9 := hb9.size
  have b0_9 : w9.cell? ⟨w.heap.size, 0, none⟩ = some (.slice a0 g0.length c0) := (hb9.cell (p := ⟨w.heap.size, 0, none⟩) (cell_lt b0_8)).trans b0_8
  have l5_9 : w9.cell? ⟨w4.heap.size, 0, none⟩ = some (.slice xa4 g0.length xc4) := (hb9.cell (p := ⟨w4.heap.size, 0, none⟩) (cell_lt l5_8)).trans l5_8
  have y2_9 := y2_8.below hb9 (Nat.le_refl _)
  have w0_0_9 := w0_0_8.below hb9 (Nat.le_refl _)
  have y4_9 := y4_8.below hb9 (Nat.le_refl _)
  have g0_0_9 := g0_0_8.below hb9 (Nat.le_refl _)
  have y8_9 := y8_8.below hb9 (Nat.le_refl _)
  try dsimp only
  refine hK.out _ _ ?h6 (fun hHeld => ?_)
  case h6 => first | exact ⟨‹_›, ‹_›⟩ | assumption | (simp [*, go_sem])
  clear hK K
  try simp only [Act.put, List.setIfInBounds_toArray, List.set_cons_zero, List.set_cons_succ]
  refine wpAnyH_take (i := 4) (v := ?v7) (by simp only [List.getElem?_toArray, List.getElem?_cons_succ, List.getElem?_cons_zero]; exact rfl) (by kernel_rfl) (by kernel_rfl) (by kernel_rfl) (by intro _ _ _ h; exact h) (Or.inl ⟨by rfl, ?y7⟩) hHeld ?_
  case y7 => (intro w hSw; (try dsimp only at hSw); go_simp; try (with_reducible rfl))
  try simp only [Act.put, List.setIfInBounds_toArray, List.set_cons_zero, List.set_cons_succ]
  refine wpAnyH_done (by kernel_rfl) ?_ _
  go_wp2_with fail
  refine (markG_any y4_9 hsm0 (by omega) (by omega) (by omega)).mono ?_
  rintro e w10 ⟨k10, rfl, hk10, hl10, ht10⟩
  have q10 := ht10.below q9 (by have := q9.size; omega) q9.size
  have z10 := ht10.size
  have b0_10 : w10.cell? ⟨w.heap.size, 0, none⟩ = some (.slice a0 g0.length c0) := (ht10.cell (p := ⟨w.heap.size, 0, none⟩) (cell_lt b0_9) (by have : w.heap.size < w9.heap.size := cell_lt b0_9; show w.heap.size < _ ∨ _ ≤ w.heap.size; omega)).trans b0_9
  have l5_10 : w10.cell? ⟨w4.heap.size, 0, none⟩ = some (.slice xa4 g0.length xc4) := (ht10.cell (p := ⟨w4.heap.size, 0, none⟩) (cell_lt l5_9) (by have : w4.heap.size < w9.heap.size := cell_lt l5_9; show w4.heap.size < _ ∨ _ ≤ w4.heap.size; omega)).trans l5_9
  have y2_10 := y2_9.between ht10 (by omega)
  have w0_0_10 := w0_0_9.between ht10 (fun b (hb : b < w3.heap.size) => ⟨by omega, by omega⟩)
  have g0_0_10 := g0_0_9.between ht10 (by omega)
  have hkn10 : ¬ k10 < 0 := by omega
  go_wp2_with fail
  refine (eqI_same (Own.ints g0_0_10 hB0) w0_0_10).mono ?_
  rintro e w11 ⟨rfl, hb11⟩
  have q11 := q10.trans (hb11.mono q10.size)
  have z11 := hb11.size
  have b0_11 : w11.cell? ⟨w.heap.size, 0, none⟩ = some (.slice a0 g0.length c0) := (hb11.cell (p := ⟨w.heap.size, 0, none⟩) (cell_lt b0_10)).trans b0_10
  have l5_11 : w11.cell? ⟨w4.heap.size, 0, none⟩ = some (.slice xa4 g0.length xc4) := (hb11.cell (p := ⟨w4.heap.size, 0, none⟩) (cell_lt l5_10)).trans l5_10
  have y2_11 := y2_10.below hb11 (Nat.le_refl _)
  have w0_0_11 := w0_0_10.below hb11 (Nat.le_refl _)
  have g0_0_11 := g0_0_10.below hb11 (Nat.le_refl _)
  go_wp2_with fail
  refine (markI_any g0_0_11 hN0).mono ?_
  rintro e w12 ⟨rfl, g0_0_12, ht12⟩
  have q12 := ht12.below q11 (by have := q11.size; omega) q11.size
  have z12 := ht12.size
  have b0_12 : w12.cell? ⟨w.heap.size, 0, none⟩ = some (.slice a0 g0.length c0) := (ht12.cell (p := ⟨w.heap.size, 0, none⟩) (cell_lt b0_11) (by have : w.heap.size < w11.heap.size := cell_lt b0_11; show w.heap.size < _ ∨ _ ≤ w.heap.size; omega)).trans b0_11
  have l5_12 : w12.cell? ⟨w4.heap.size, 0, none⟩ = some (.slice xa4 g0.length xc4) := (ht12.cell (p := ⟨w4.heap.size, 0, none⟩) (cell_lt l5_11) (by have : w4.heap.size < w11.heap.size := cell_lt l5_11; show w4.heap.size < _ ∨ _ ≤ w4.heap.size; omega)).trans l5_11
  have y2_12 := y2_11.between ht12 (by omega)
  have w0_0_12 := w0_0_11.between ht12 (fun b (hb : b < w3.heap.size) => ⟨by omega, by omega⟩)
  go_wp2_with fail
  refine (heldI_any (Own.ints g0_0_12 hB0) hN0).mono ?_
  rintro e w13 ⟨rfl, hb13⟩
  have q13 := q12.trans (hb13.mono q12.size)
  have z13 := hb13.size
  have b0_13 : w13.cell? ⟨w.heap.size, 0, none⟩ = some (.slice a0 g0.length c0) := (hb13.cell (p := ⟨w.heap.size, 0, none⟩) (cell_lt b0_12)).trans b0_12
  have l5_13 : w13.cell? ⟨w4.heap.size, 0, none⟩ = some (.slice xa4 g0.length xc4) := (hb13.cell (p := ⟨w4.heap.size, 0, none⟩) (cell_lt l5_12)).trans l5_12
  have y2_13 := y2_12.below hb13 (Nat.le_refl _)
  have w0_0_13 := w0_0_12.below hb13 (Nat.le_refl _)
  have g0_0_13 := g0_0_12.below hb13 (Nat.le_refl _)
  have hmn13 : ¬ (1 + (r0.length : Int)) < 0 := by omega
  go_wp2_with fail
  refine (toGraphR_any (hv0.below q13 (Nat.le_refl _)) hsm0).mono ?_
  rintro e w14 ⟨x14, rfl, y14_14, hb14⟩
  have q14 := q13.trans (hb14.mono q13.size)
  have z14 := hb14.size
  have b0_14 : w14.cell? ⟨w.heap.size, 0, none⟩ = some (.slice a0 g0.length c0) := (hb14.cell (p := ⟨w.heap.size, 0, none⟩) (cell_lt b0_13)).trans b0_13
  have l5_14 : w14.cell? ⟨w4.heap.size, 0, none⟩ = some (.slice xa4 g0.length xc4) := (hb14.cell (p := ⟨w4.heap.size, 0, none⟩) (cell_lt l5_13)).trans l5_13
  have y2_14 := y2_13.below hb14 (Nat.le_refl _)
  have w0_0_14 := w0_0_13.below hb14 (Nat.le_refl _)
  have g0_0_14 := g0_0_13.below hb14 (Nat.le_refl _)
  obtain ⟨xa14, xc14, rfl⟩ := y14_14.isSlice
  go_wp2_with fail
  refine (hI (y14_14.rows hsm0)).mono ?_
  rintro e w15 ⟨h0u0, rfl, h0_0_15, hb15⟩
  have q15 := q14.trans (hb15.mono q14.size)
  have z15 := hb15.size
  have b0_15 : w15.cell? ⟨w.heap.size, 0, none⟩ = some (.slice a0 g0.length c0) := (hb15.cell (p := ⟨w.heap.size, 0, none⟩) (cell_lt b0_14)).trans b0_14
  have l5_15 : w15.cell? ⟨w4.heap.size, 0, none⟩ = some (.slice xa4 g0.length xc4) := (hb15.cell (p := ⟨w4.heap.size, 0, none⟩) (cell_lt l5_14)).trans l5_14
  have y2_15 := y2_14.below hb15 (Nat.le_refl _)
  have w0_0_15 := w0_0_14.below hb15 (Nat.le_refl _)
  have g0_0_15 := g0_0_14.below hb15 (Nat.le_refl _)
  have y14_15 := y14_14.below hb15 (Nat.le_refl _)
  obtain ⟨h0a0, h0c0, rfl⟩ := h0_0_15.isSlice
  go_wp2_with fail
  refine (eqI_same (Own.ints h0_0_15 hB0) w0_0_15).mono ?_
  rintro e w16 ⟨rfl, hb16⟩
  have q16 := q15.trans (hb16.mono q15.size)
  have z16 := hb16.size
  have b0_16 : w16.cell? ⟨w.heap.size, 0, none⟩ = some (.slice a0 g0.length c0) := (hb16.cell (p := ⟨w.heap.size, 0, none⟩) (cell_lt b0_15)).trans b0_15
  have l5_16 : w16.cell? ⟨w4.heap.size, 0, none⟩ = some (.slice xa4 g0.length xc4) := (hb16.cell (p := ⟨w4.heap.size, 0, none⟩) (cell_lt l5_15)).trans l5_15
  have y2_16 := y2_15.below hb16 (Nat.le_refl _)
  have w0_0_16 := w0_0_15.below hb16 (Nat.le_refl _)
  have g0_0_16 := g0_0_15.below hb16 (Nat.le_refl _)
  have y14_16 := y14_15.below hb16 (Nat.le_refl _)
  have h0_0_16 := h0_0_15.below hb16 (Nat.le_refl _)
  go_wp2_with fail
  refine (heldI_any (Own.ints g0_0_16 hB0) hN0).mono ?_
  rintro e w17 ⟨rfl, hb17⟩
  have q17 := q16.trans (hb17.mono q16.size)
  have z17 := hb17.size
  have b0_17 : w17.cell? ⟨w.heap.size, 0, none⟩ = some (.slice a0 g0.length c0) := (hb17.cell (p := ⟨w.heap.size, 0, none⟩) (cell_lt b0_16)).trans b0_16
  have l5_17 : w17.cell? ⟨w4.heap.size, 0, none⟩ = some (.slice xa4 g0.length xc4) := (hb17.cell (p := ⟨w4.heap.size, 0, none⟩) (cell_lt l5_16)).trans l5_16
  have y2_17 := y2_16.below hb17 (Nat.le_refl _)
  have w0_0_17 := w0_0_16.below hb17 (Nat.le_refl _)
  have g0_0_17 := g0_0_16.below hb17 (Nat.le_refl _)
  have y14_17 := y14_16.below hb17 (Nat.le_refl _)
  have h0_0_17 := h0_0_16.below hb17 (Nat.le_refl _)
  have hmn17 : ¬ (1 + (r0.length : Int)) < 0 := by omega
  go_wp2
  go_ret
  exact ⟨rfl, q17⟩
end Go.Proofs.Ytakcoihndobmpaa
