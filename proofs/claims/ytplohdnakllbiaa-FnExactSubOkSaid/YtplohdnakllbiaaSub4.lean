/- Both programs' test of the hubs. -/
import Derived.Test.YtplohdnakllbiaaSub3
namespace Go.Proofs.Ytplohdnakllbiaa
open Go.RowKit
open Classical in
noncomputable def incB (xs : List Int) : Bool := decide (IncP xs)
theorem inc_true {xs : List Int} (h : IncP xs) : incB xs = true := by simp [incB, h]
theorem inc_false {xs : List Int} (h : ¬ IncP xs) : incB xs = false := by simp [incB, h]
theorem inc_bad {xs : List Int} {k : Nat} (h0 : 0 < k) (hk : k < xs.length) (h : xs[k] ≤ xs[k - 1]) : ¬ IncP xs := fun hp => by
  have := hp k h0 hk hk
  rw [getD_get (by omega), getD_get hk] at this; omega
theorem SlI.dropS {S : Nat → Prop} {w : World} {k : IntKind} {b off n c m : Nat} {xs : List Int} (h : SlI S w k (.slice (some ⟨b, off, none⟩) n c) xs) (hm : m ≤ n) : SlI S w k (.slice (if c = m then some ⟨b, off, none⟩ else some ⟨b, off + m, none⟩) (n - m) (c - m)) (xs.drop m) := by
  obtain ⟨h1, h2, h3⟩ := h.capOf
  by_cases e : m < n
  · rw [if_neg (by omega)]; exact h.drop e
  · have e1 : xs.drop m = [] := List.drop_eq_nil_of_le (by omega)
    have e2 : n - m = 0 := by omega
    rw [e1, e2]
    exact ⟨_, b, off, c - m, rfl, ⟨Nat.zero_le _, by omega⟩, fun h => by simp at h, fun i hi => by simp at hi⟩
set_option maxHeartbeats 1000000 in
theorem rises_any {S : Nat → Prop} (v : Value) (xs : List Int) (w : World) (hv : SlI S w .i64 v xs) :
    Calls Try.prog 66 #[v] w fun e w' => e = .returned (.bool (incB xs)) ∧ Drawn w w' := by
  have hlen := hv.len
  obtain ⟨a, b, off, cap, rfl, hl, ha, hc0⟩ := hv
  go_enter Try.func66, Try.ntmps66
  go_wp2
  go_loopw [3] (fun i wr => ∃ k : Nat, 1 ≤ k ∧ (k = 1 ∨ k ≤ xs.length) ∧ i = .int .i64 k ∧ IncTo xs k ∧ Drawn w wr) (fun i _ => xs.length - (intOf i).toNat)
  case atStart => exact ⟨1, by omega, .inl rfl, rfl, incTo_one _, Drawn.refl _⟩
  case round =>
    obtain ⟨k, hk1, hk, rfl, hI, hq⟩ := hrel
    have hc := hc0.drawn hq
    have HI := Lib.hid hI
    clear hI
    by_cases hlt : k < xs.length
    case neg =>
      go_wp2
      go_ret
      exact ⟨ret_bool (inc_true fun i h0 hi hl => HI.out i h0 (by omega) hl).symm, hq⟩
    have c1 := hc k hlt
    have c2 := hc (k - 1) (by omega)
    obtain ⟨rfl, hS⟩ := ha (by omega)
    have hw2 : IntKind.i64.wrap ((k : Int) - 1) = (k : Int) - 1 := IntWalk.i64_in _ (by omega)
    have hw3 : ((k : Int) - 1).toNat = k - 1 := by omega
    have hw4 : (0 : Int) ≤ (k : Int) - 1 := by omega
    have hw5 : (k : Int) - 1 < xs.length := by omega
    have hw6 : (1 : Int) ≤ (k : Int) := by omega
    by_cases hle : xs[k] ≤ xs[k - 1]
    · have hcb : decide (xs[k] ≤ xs[k - 1]) = true := by simpa using hle
      have HB := Lib.hid (inc_false (inc_bad (by omega) hlt hle))
      clear hle
      go_wp2
      go_quiet (fail)
      go_wp2
      go_ret
      exact ⟨ret_bool HB.out.symm, hq.drewN _⟩
    · have hcb : decide (xs[k] ≤ xs[k - 1]) = false := by simpa using hle
      have HB := Lib.hid (incTo_succ HI.out (by rw [getD_get (by omega), getD_get hlt]; omega))
      clear hle
      go_wp2
      go_quiet (fail)
      go_wp2
      go_roundw
      case rel => exact ⟨k + 1, by omega, .inr (by omega), by go_num, HB.out, hq.drewN _⟩
      case measure => simp [intOf]; omega
set_option maxRecDepth 100000 in
set_option maxHeartbeats 8000000 in
theorem hubsSpec_any {S S' : Nat → Prop} {v u : Value} {g : List (List Int)} {xs : List Int} {k : Int} {w : World} (hg : g.length ≤ 16) (hv : SlR S w v g) (hu : SlI S' w .i64 u xs) :
    Calls Try.prog 32 #[.agg #[v], .int .i64 k, u] w fun e w' => e = .returned (.bool (hubsB g.length k xs)) ∧ Below w.heap.size w w' := by
  have ha := side1_le k
  have hb := side2_le k
  have hsd := sides_spec k
  have hgb := fun (W : World) (hb : Below w.heap.size w W) => hv.below hb (Nat.le_refl _)
  have hub := fun (W : World) (hb : Below w.heap.size w W) => hu.below hb (Nat.le_refl _)
  have hth := fun (W : World) (hb : Below w.heap.size w W) (x : Int) => l1There_any (x := x) hg (hgb W hb)
  have F0 := Lib.hid (show xs.length ≠ side1 k + side2 k → hubsB g.length k xs = false from fun h => hubs_false fun hp => h hp.len)
  have F1 := Lib.hid (show ¬ IncP (xs.take (side1 k)) → hubsB g.length k xs = false from fun h => hubs_false fun hp => h hp.inc1)
  have F2 := Lib.hid (show ¬ IncP (xs.drop (side1 k)) → hubsB g.length k xs = false from fun h => hubs_false fun hp => h hp.inc2)
  have F3 := Lib.hid (show k = 2 → ¬ (xs.getD 0 0 < xs.getD 3 0) → hubsB g.length k xs = false from fun e h => hubs_false fun hp => h (hp.first e))
  have F4 := Lib.hid (show ∀ i, i < xs.length → ¬ HubAt g.length xs i → hubsB g.length k xs = false from fun i hi h => hubs_false fun hp => h (hp.all i hi))
  have F5 := Lib.hid (show side1 k ≠ 0 → xs.length = side1 k + side2 k → IncP (xs.take (side1 k)) → IncP (xs.drop (side1 k)) → (k = 2 → xs.getD 0 0 < xs.getD 3 0) → (∀ i, i < xs.length → HubAt g.length xs i) → hubsB g.length k xs = true from fun h1 h2 h3 h4 h5 h6 => hubs_true ⟨h1, h2, h3, h4, h5, h6⟩)
  have E0 := Lib.hid (show side1 k = 0 → hubsB g.length k xs = false from fun h => hubs_false fun hp => hp.some h)
  have K2 := Lib.hid (show k = 2 → side1 k = 3 ∧ side2 k = 3 from fun e => by subst e; exact ⟨rfl, rfl⟩)
  generalize side1 k = a at *
  generalize side2 k = b at *
  obtain ⟨ga, gc, rfl⟩ := hv.slice
  have hu' := hu
  obtain ⟨ua, ub, uo, uc, rfl, hul, hua, hut⟩ := hu
  have hq0 : Below w.heap.size w (w.alloc (.cells #[.slice ga g.length gc] 31)) := (Below.refl _ _).alloc (Nat.le_refl _) _
  by_cases h0 : a = 0
  · subst h0
    have HE := Lib.hid (E0.out rfl)
    clear E0 F0 F1 F2 F3 F4 F5 K2 hth hgb hub
    go_enter Try.func32, Try.ntmps32
    go_wp2_with (go_at_call 63; refine (hsd _).mono ?_; rintro e w' ⟨rfl, rfl⟩)
    go_quiet (fail)
    go_wp2
    go_ret
    exact ⟨ret_bool HE.out.symm, hq0.drewN' _⟩
  have hx1 : ((a : Int) == 0) = false := by rw [beq_eq_false_iff_ne]; omega
  have hx2 : (a == 0) = false := by rw [beq_eq_false_iff_ne]; exact h0
  have H0 := Lib.hid h0
  clear h0
  have hw1 : IntKind.i64.wrap ((a : Int) + (b : Int)) = (a : Int) + (b : Int) := IntWalk.i64_in _ (by omega)
  by_cases hlen : xs.length = a + b
  case neg =>
    have HE := Lib.hid (F0.out hlen)
    have hn1 : ((xs.length : Int) != (a : Int) + (b : Int)) = true := by rw [bne_iff_ne]; omega
    have hn2 : (xs.length != a + b) = true := by rw [bne_iff_ne]; exact hlen
    clear E0 F0 F1 F2 F3 F4 F5 K2 hth hgb hub hlen
    go_enter Try.func32, Try.ntmps32
    go_wp2_with (go_at_call 63; refine (hsd _).mono ?_; rintro e w' ⟨rfl, rfl⟩)
    go_quiet (fail)
    go_wp2
    go_ret
    exact ⟨ret_bool HE.out.symm, hq0.drewN' _⟩
  have hn1 : ((xs.length : Int) != (a : Int) + (b : Int)) = false := by rw [bne_eq_false_iff_eq]; omega
  have hn2 : (xs.length != a + b) = false := by rw [bne_eq_false_iff_eq]; exact hlen
  have hal : a ≤ xs.length := by omega
  have hac : a ≤ uc := by omega
  have hpos : 0 < xs.length := by have := H0.out; omega
  have HL := Lib.hid hlen
  clear hlen
  obtain ⟨rfl, -⟩ := hua hpos
  have hut1 := hu'.take (m := a) hal
  have hut2 := hu'.dropS (m := a) hal
  obtain ⟨ad, had⟩ : ∃ ad : Option Addr, (if uc = a then some (⟨ub, uo, none⟩ : Addr) else some ⟨ub, uo + a, none⟩) = ad := ⟨_, rfl⟩
  rw [had] at hut2
  by_cases hi1 : IncP (xs.take a)
  case neg =>
    have HE := Lib.hid (F1.out hi1)
    have hr1 := fun n => quiet_drawn (rises_any _ _ ((w.alloc (.cells #[.slice ga g.length gc] 31)).drewN n) ((hut1.below hq0 (Nat.le_refl _)).drewN n))
    rw [inc_false hi1] at hr1
    clear E0 F0 F1 F2 F3 F4 F5 K2 hth hgb hub hi1 hut1 hut2
    go_enter Try.func32, Try.ntmps32
    go_wp2_with (go_at_call 63; refine (hsd _).mono ?_; rintro e w' ⟨rfl, rfl⟩)
    go_quiet ((go_at_call 66; exact hr1 _))
    go_wp2
    go_ret
    exact ⟨ret_bool HE.out.symm, hq0.drewN' _⟩
  have hr1 := fun n => quiet_drawn (rises_any _ _ ((w.alloc (.cells #[.slice ga g.length gc] 31)).drewN n) ((hut1.below hq0 (Nat.le_refl _)).drewN n))
  rw [inc_true hi1] at hr1
  have HI1 := Lib.hid hi1
  clear hi1
  by_cases hi2 : IncP (xs.drop a)
  case neg =>
    have HE := Lib.hid (F2.out hi2)
    have hr2 := fun n => quiet_drawn (rises_any _ _ ((w.alloc (.cells #[.slice ga g.length gc] 31)).drewN n) ((hut2.below hq0 (Nat.le_refl _)).drewN n))
    rw [inc_false hi2] at hr2
    clear E0 F0 F1 F2 F3 F4 F5 K2 hth hgb hub hi2 hut1 hut2
    go_enter Try.func32, Try.ntmps32
    go_wp2_with (go_at_call 63; refine (hsd _).mono ?_; rintro e w' ⟨rfl, rfl⟩)
    go_quiet ((go_at_call 66; first | (with_reducible exact hr1 _) | (with_reducible exact hr2 _)))
    go_wp2
    go_ret
    exact ⟨ret_bool HE.out.symm, hq0.drewN' _⟩
  have hr2 := fun n => quiet_drawn (rises_any _ _ ((w.alloc (.cells #[.slice ga g.length gc] 31)).drewN n) ((hut2.below hq0 (Nat.le_refl _)).drewN n))
  rw [inc_true hi2] at hr2
  have HI2 := Lib.hid hi2
  clear hi2
  by_cases hk2 : k = 2 ∧ ¬ (xs.getD 0 0 < xs.getD 3 0)
  · obtain ⟨hk, hnl⟩ := hk2
    have HE := Lib.hid (F3.out hk hnl)
    have h6 : xs.length = 6 := by have h1 := (K2.out hk).1; have h2 := (K2.out hk).2; have := HL.out; omega
    have hcb : decide (xs.getD 3 0 ≤ xs.getD 0 0) = true := decide_eq_true (by omega)
    have c0 : w.cell? ⟨ub, uo, none⟩ = some (.int .i64 (xs.getD 0 0)) := by have := hut 0 (by omega); rw [Nat.add_zero] at this; rw [getD_get (by omega)]; exact this
    have c3 : w.cell? ⟨ub, uo + 3, none⟩ = some (.int .i64 (xs.getD 3 0)) := by rw [getD_get (by omega)]; exact hut 3 (by omega)
    have hk' : (k == 2) = true := by rw [beq_iff_eq]; exact hk
    have d0 := (hq0.cell (cell_lt c0)).trans c0
    have d3 := (hq0.cell (cell_lt c3)).trans c3
    have l3 : (3 : Int) < xs.length := by omega
    have l0 : (0 : Int) < xs.length := by omega
    have l3' : 3 < xs.length := by omega
    clear E0 F0 F1 F2 F3 F4 F5 K2 hth hgb hub hut1 hut2 hnl h6 hk
    generalize xs.getD 3 0 = x3 at *
    generalize xs.getD 0 0 = x0 at *
    go_enter Try.func32, Try.ntmps32
    go_wp2_with (go_at_call 63; refine (hsd _).mono ?_; rintro e w' ⟨rfl, rfl⟩)
    go_quiet ((go_at_call 66; first | (with_reducible exact hr1 _) | (with_reducible exact hr2 _)))
    go_wp2
    go_ret
    exact ⟨ret_bool HE.out.symm, hq0.drewN' _⟩
  have hT := Lib.hid (show k = 2 → xs.getD 0 0 < xs.getD 3 0 from fun e => Classical.byContradiction fun h => hk2 ⟨e, h⟩)
  clear hk2
  have HALL := Lib.hid (show (∀ i, i < xs.length → HubAt g.length xs i) → hubsB g.length k xs = true from F5.out H0.out HL.out HI1.out HI2.out hT.out)
  by_cases hk : k = 2
  · have h6 : xs.length = 6 := by have h1 := (K2.out hk).1; have h2 := (K2.out hk).2; have := HL.out; omega
    have hnl := hT.out hk
    have hcb : decide (xs.getD 3 0 ≤ xs.getD 0 0) = false := decide_eq_false (by omega)
    have c0 : w.cell? ⟨ub, uo, none⟩ = some (.int .i64 (xs.getD 0 0)) := by have := hut 0 (by omega); rw [Nat.add_zero] at this; rw [getD_get (by omega)]; exact this
    have c3 : w.cell? ⟨ub, uo + 3, none⟩ = some (.int .i64 (xs.getD 3 0)) := by rw [getD_get (by omega)]; exact hut 3 (by omega)
    have hk' : (k == 2) = true := by rw [beq_iff_eq]; exact hk
    have d0 := (hq0.cell (cell_lt c0)).trans c0
    have d3 := (hq0.cell (cell_lt c3)).trans c3
    have l3 : (3 : Int) < xs.length := by omega
    have l0 : (0 : Int) < xs.length := by omega
    have l3' : 3 < xs.length := by omega
    clear E0 F0 F1 F2 F3 F5 K2 hut1 hut2 hnl h6 hT hk
    generalize xs.getD 3 0 = x3 at *
    generalize xs.getD 0 0 = x0 at *
    go_enter Try.func32, Try.ntmps32
    go_wp2_with (go_at_call 63; refine (hsd _).mono ?_; rintro e w' ⟨rfl, rfl⟩)
    go_quiet ((go_at_call 66; first | (with_reducible exact hr1 _) | (with_reducible exact hr2 _)))
    go_wp2
    clear hr1 hr2 hsd
    have hcg0 : (w.alloc (.cells #[.slice ga g.length gc] 31)).cell? ⟨w.heap.size, 0, none⟩ = some (.slice ga g.length gc) := by simp [go_sem]
    go_loopw [9] (fun i wr => ∃ k : Nat, k ≤ xs.length ∧ i = .int .i64 k ∧ RowKit.Hid (∀ j, j < k → HubAt g.length xs j) ∧ Below w.heap.size w wr ∧ wr.cell? ⟨w.heap.size, 0, none⟩ = some (.slice ga g.length gc)) (fun i _ => xs.length - (intOf i).toNat)
    case atStart => exact ⟨0, Nat.zero_le _, rfl, Lib.hid (fun _ h => by omega), hq0.drewN' _, hcg0⟩
    case round =>
      clear hq0 hcg0
      obtain ⟨j, hj, rfl, HT, hq, hcg⟩ := hrel
      obtain ⟨wi, rfl⟩ : ∃ wx : World, wx = wr := ⟨_, rfl⟩
      by_cases hlt : j < xs.length
      case neg =>
        obtain rfl : j = xs.length := by omega
        have HE := Lib.hid (HALL.out HT.out)
        go_wp2
        go_ret
        exact ⟨ret_bool HE.out.symm, hq⟩
      have hjc : j ≤ uc := by omega
      have hcp0 := hut j hlt
      have hcp := (hq.cell (p := ⟨ub, uo + j, none⟩) (cell_lt hcp0)).trans hcp0
      have htr := fun (W : World) (hb : Below w.heap.size w W) => hth W hb xs[j]
      have hdt := fun (W : World) (hb : Below w.heap.size w W) => l1Has_any _ _ xs[j] W ((hub W hb).take (m := j) (by omega))
      have eg := getD_get (d := (0 : Int)) hlt
      by_cases hin : 0 ≤ xs[j] ∧ xs[j] ≤ (g.length : Int) - 1
      case neg =>
        rw [inB_false hin] at htr
        have HE := Lib.hid (F4.out j hlt fun h => hin ⟨by rw [← eg]; exact h.lo, by rw [← eg]; have := h.hi; omega⟩)
        clear hin hdt eg
        generalize xs[j] = x at *
        go_wp2
        refine wp_region_held_drew (S := (fun w' => w'.cell? ⟨w.heap.size, 0, none⟩ = some (.slice ga g.length gc) ∧ w'.cell? ⟨ub, uo + j, none⟩ = some (.int .i64 x))) (by kernel_rfl) ?_ (fun hHeld => ?_)
        · first | exact ⟨‹_›, ‹_›⟩ | assumption | (simp [*, go_sem])
        have hqd := hq.drew
        generalize wi.drew = wd at hqd hHeld ⊢
        have hHeld2 := hHeld
        obtain ⟨d0, d1⟩ := hHeld2
        refine wpAnyH_take (i := 0) (v := ?v1) (by simp only [List.getElem?_toArray, List.getElem?_cons_zero]; exact rfl) (by kernel_rfl) (by kernel_rfl) (by kernel_rfl) (by intro _ _ _ h; exact h) (Or.inl ⟨by rfl, ?y1⟩) hHeld ?_
        case y1 => (intro w hSw; (try dsimp only at hSw); go_simp; try (with_reducible rfl))
        try simp only [Act.put, List.setIfInBounds_toArray, List.set_cons_zero, List.set_cons_succ]
        refine wpAnyH_take (i := 1) (v := ?v2) (by simp only [List.getElem?_toArray, List.getElem?_cons_succ, List.getElem?_cons_zero]; exact rfl) (by kernel_rfl) (by kernel_rfl) (by kernel_rfl) (by intro _ _ _ h; exact h) (Or.inl ⟨by rfl, ?y2⟩) hHeld ?_
        case y2 => (intro w hSw; (try dsimp only at hSw); go_simp; try (with_reducible rfl))
        try simp only [Act.put, List.setIfInBounds_toArray, List.set_cons_zero, List.set_cons_succ]
        refine wpAnyH_take (i := 2) (v := ?v3) (by simp only [List.getElem?_toArray, List.getElem?_cons_succ, List.getElem?_cons_zero]; exact rfl) (by kernel_rfl) (by kernel_rfl) (by kernel_rfl) (by intro _ _ _ h; exact h) (Or.inl ⟨by rfl, ?y3⟩) hHeld ?_
        case y3 => (intro w hSw; (try dsimp only at hSw); go_simp; try (with_reducible rfl))
        try simp only [Act.put, List.setIfInBounds_toArray, List.set_cons_zero, List.set_cons_succ]
        refine wpAnyH_take (i := 3) (v := ?v4) (by simp only [List.getElem?_toArray, List.getElem?_cons_succ, List.getElem?_cons_zero]; exact rfl) (by kernel_rfl) (by kernel_rfl) (by kernel_rfl) (by intro _ _ _ h; exact h) (Or.inl ⟨by rfl, ?y4⟩) hHeld ?_
        case y4 => (intro w hSw; (try dsimp only at hSw); go_simp; try (with_reducible rfl))
        try simp only [Act.put, List.setIfInBounds_toArray, List.set_cons_zero, List.set_cons_succ]
        refine wpAnyH_take (i := 4) (v := ?v5) (by simp only [List.getElem?_toArray, List.getElem?_cons_succ, List.getElem?_cons_zero]; exact rfl) (by kernel_rfl) (by kernel_rfl) (by kernel_rfl) (by intro _ _ _ h; exact h) (Or.inl ⟨by rfl, ?y5⟩) hHeld ?_
        case y5 => (intro w hSw; (try dsimp only at hSw); go_simp; try (with_reducible rfl))
        try simp only [Act.put, List.setIfInBounds_toArray, List.set_cons_zero, List.set_cons_succ]
        refine wpAnyH_ready (rs := [5]) (by kernel_rfl) (by simp) ?_
        refine AllReadyH.cons (by simp only [List.getElem?_toArray, List.getElem?_cons_succ, List.getElem?_cons_zero]; exact rfl) (fun K hK => ?_) AllReadyH.nil
        go_simp
        refine (htr _ hqd).mono ?_
        rintro e wn ⟨rfl, hbn⟩
        have hqn := hqd.trans (hbn.mono hqd.size)
        have d0 := (hbn.cell (cell_lt d0)).trans d0
        have d1 := (hbn.cell (cell_lt d1)).trans d1
        try dsimp only
        refine hK.out _ _ ?h7 (fun hHeld => ?_)
        case h7 => first | exact ⟨‹_›, ‹_›⟩ | assumption | (simp [*, go_sem])
        clear hK K
        try simp only [Act.put, List.setIfInBounds_toArray, List.set_cons_zero, List.set_cons_succ]
        refine wpAnyH_take (i := 6) (v := ?v8) (by simp only [List.getElem?_toArray, List.getElem?_cons_succ, List.getElem?_cons_zero]; exact rfl) (by kernel_rfl) (by kernel_rfl) (by kernel_rfl) (by intro _ _ _ h; exact h) (Or.inl ⟨by rfl, ?y8⟩) hHeld ?_
        case y8 => (intro w hSw; (try dsimp only at hSw); go_simp; try (with_reducible rfl))
        try simp only [Act.put, List.setIfInBounds_toArray, List.set_cons_zero, List.set_cons_succ]
        refine wpAnyH_take (i := 7) (v := ?v9) (by simp only [List.getElem?_toArray, List.getElem?_cons_succ, List.getElem?_cons_zero]; exact rfl) (by kernel_rfl) (by kernel_rfl) (by kernel_rfl) (by intro _ _ _ h; exact h) (Or.inl ⟨by rfl, ?y9⟩) hHeld ?_
        case y9 => (intro w hSw; (try dsimp only at hSw); go_simp; try (with_reducible rfl))
        try simp only [Act.put, List.setIfInBounds_toArray, List.set_cons_zero, List.set_cons_succ]
        refine wpAnyH_take (i := 8) (by simp only [List.getElem?_toArray, List.getElem?_cons_succ, List.getElem?_cons_zero]; exact rfl) (by kernel_rfl) (by kernel_rfl) (by kernel_rfl) (by intro _ _ _ h; exact h) (Or.inr ⟨by rfl, rfl⟩) hHeld ?_
        try simp only [Act.put, List.setIfInBounds_toArray, List.set_cons_zero, List.set_cons_succ]
        refine wpAnyH_take (i := 9) (by simp only [List.getElem?_toArray, List.getElem?_cons_succ, List.getElem?_cons_zero]; exact rfl) (by kernel_rfl) (by kernel_rfl) (by kernel_rfl) (by intro _ _ _ h; exact h) (Or.inr ⟨by rfl, rfl⟩) hHeld ?_
        try simp only [Act.put, List.setIfInBounds_toArray, List.set_cons_zero, List.set_cons_succ]
        refine wpAnyH_take (i := 10) (by simp only [List.getElem?_toArray, List.getElem?_cons_succ, List.getElem?_cons_zero]; exact rfl) (by kernel_rfl) (by kernel_rfl) (by kernel_rfl) (by intro _ _ _ h; exact h) (Or.inr ⟨by rfl, rfl⟩) hHeld ?_
        try simp only [Act.put, List.setIfInBounds_toArray, List.set_cons_zero, List.set_cons_succ]
        refine wpAnyH_take (i := 11) (by simp only [List.getElem?_toArray, List.getElem?_cons_succ, List.getElem?_cons_zero]; exact rfl) (by kernel_rfl) (by kernel_rfl) (by kernel_rfl) (by intro _ _ _ h; exact h) (Or.inr ⟨by rfl, rfl⟩) hHeld ?_
        try simp only [Act.put, List.setIfInBounds_toArray, List.set_cons_zero, List.set_cons_succ]
        refine wpAnyH_take (i := 12) (by simp only [List.getElem?_toArray, List.getElem?_cons_succ, List.getElem?_cons_zero]; exact rfl) (by kernel_rfl) (by kernel_rfl) (by kernel_rfl) (by intro _ _ _ h; exact h) (Or.inr ⟨by rfl, rfl⟩) hHeld ?_
        try simp only [Act.put, List.setIfInBounds_toArray, List.set_cons_zero, List.set_cons_succ]
        refine wpAnyH_take (i := 13) (by simp only [List.getElem?_toArray, List.getElem?_cons_succ, List.getElem?_cons_zero]; exact rfl) (by kernel_rfl) (by kernel_rfl) (by kernel_rfl) (by intro _ _ _ h; exact h) (Or.inr ⟨by rfl, rfl⟩) hHeld ?_
        try simp only [Act.put, List.setIfInBounds_toArray, List.set_cons_zero, List.set_cons_succ]
        refine wpAnyH_take (i := 14) (by simp only [List.getElem?_toArray, List.getElem?_cons_succ, List.getElem?_cons_zero]; exact rfl) (by kernel_rfl) (by kernel_rfl) (by kernel_rfl) (by intro _ _ _ h; exact h) (Or.inr ⟨by rfl, rfl⟩) hHeld ?_
        try simp only [Act.put, List.setIfInBounds_toArray, List.set_cons_zero, List.set_cons_succ]
        refine wpAnyH_take (i := 15) (by simp only [List.getElem?_toArray, List.getElem?_cons_succ, List.getElem?_cons_zero]; exact rfl) (by kernel_rfl) (by kernel_rfl) (by kernel_rfl) (by intro _ _ _ h; exact h) (Or.inr ⟨by rfl, rfl⟩) hHeld ?_
        try simp only [Act.put, List.setIfInBounds_toArray, List.set_cons_zero, List.set_cons_succ]
        refine wpAnyH_take (i := 16) (v := ?v18) (by simp only [List.getElem?_toArray, List.getElem?_cons_succ, List.getElem?_cons_zero]; exact rfl) (by kernel_rfl) (by kernel_rfl) (by kernel_rfl) (by intro _ _ _ h; exact h) (Or.inl ⟨by rfl, ?y18⟩) hHeld ?_
        case y18 => (intro w hSw; (try dsimp only at hSw); go_simp; try (with_reducible rfl))
        try simp only [Act.put, List.setIfInBounds_toArray, List.set_cons_zero, List.set_cons_succ]
        refine wpAnyH_done (by kernel_rfl) ?_ _
        go_wp2
        go_ret
        exact ⟨ret_bool HE.out.symm, hqn⟩
      rw [inB_true hin] at htr
      by_cases hin2 : xs[j] ∈ xs.take j
      case pos =>
        rw [decide_eq_true hin2] at hdt
        have HE := Lib.hid (F4.out j hlt fun h => h.new (by rw [eg]; exact hin2))
        clear hin2 hin eg
        generalize xs[j] = x at *
        go_wp2
        refine wp_region_held_drew (S := (fun w' => w'.cell? ⟨w.heap.size, 0, none⟩ = some (.slice ga g.length gc) ∧ w'.cell? ⟨ub, uo + j, none⟩ = some (.int .i64 x))) (by kernel_rfl) ?_ (fun hHeld => ?_)
        · first | exact ⟨‹_›, ‹_›⟩ | assumption | (simp [*, go_sem])
        have hqd := hq.drew
        generalize wi.drew = wd at hqd hHeld ⊢
        have hHeld2 := hHeld
        obtain ⟨d0, d1⟩ := hHeld2
        refine wpAnyH_take (i := 0) (v := ?v19) (by simp only [List.getElem?_toArray, List.getElem?_cons_zero]; exact rfl) (by kernel_rfl) (by kernel_rfl) (by kernel_rfl) (by intro _ _ _ h; exact h) (Or.inl ⟨by rfl, ?y19⟩) hHeld ?_
        case y19 => (intro w hSw; (try dsimp only at hSw); go_simp; try (with_reducible rfl))
        try simp only [Act.put, List.setIfInBounds_toArray, List.set_cons_zero, List.set_cons_succ]
        refine wpAnyH_take (i := 1) (v := ?v20) (by simp only [List.getElem?_toArray, List.getElem?_cons_succ, List.getElem?_cons_zero]; exact rfl) (by kernel_rfl) (by kernel_rfl) (by kernel_rfl) (by intro _ _ _ h; exact h) (Or.inl ⟨by rfl, ?y20⟩) hHeld ?_
        case y20 => (intro w hSw; (try dsimp only at hSw); go_simp; try (with_reducible rfl))
        try simp only [Act.put, List.setIfInBounds_toArray, List.set_cons_zero, List.set_cons_succ]
        refine wpAnyH_take (i := 2) (v := ?v21) (by simp only [List.getElem?_toArray, List.getElem?_cons_succ, List.getElem?_cons_zero]; exact rfl) (by kernel_rfl) (by kernel_rfl) (by kernel_rfl) (by intro _ _ _ h; exact h) (Or.inl ⟨by rfl, ?y21⟩) hHeld ?_
        case y21 => (intro w hSw; (try dsimp only at hSw); go_simp; try (with_reducible rfl))
        try simp only [Act.put, List.setIfInBounds_toArray, List.set_cons_zero, List.set_cons_succ]
        refine wpAnyH_take (i := 3) (v := ?v22) (by simp only [List.getElem?_toArray, List.getElem?_cons_succ, List.getElem?_cons_zero]; exact rfl) (by kernel_rfl) (by kernel_rfl) (by kernel_rfl) (by intro _ _ _ h; exact h) (Or.inl ⟨by rfl, ?y22⟩) hHeld ?_
        case y22 => (intro w hSw; (try dsimp only at hSw); go_simp; try (with_reducible rfl))
        try simp only [Act.put, List.setIfInBounds_toArray, List.set_cons_zero, List.set_cons_succ]
        refine wpAnyH_take (i := 4) (v := ?v23) (by simp only [List.getElem?_toArray, List.getElem?_cons_succ, List.getElem?_cons_zero]; exact rfl) (by kernel_rfl) (by kernel_rfl) (by kernel_rfl) (by intro _ _ _ h; exact h) (Or.inl ⟨by rfl, ?y23⟩) hHeld ?_
        case y23 => (intro w hSw; (try dsimp only at hSw); go_simp; try (with_reducible rfl))
        try simp only [Act.put, List.setIfInBounds_toArray, List.set_cons_zero, List.set_cons_succ]
        refine wpAnyH_ready (rs := [5]) (by kernel_rfl) (by simp) ?_
        refine AllReadyH.cons (by simp only [List.getElem?_toArray, List.getElem?_cons_succ, List.getElem?_cons_zero]; exact rfl) (fun K hK => ?_) AllReadyH.nil
        go_simp
        refine (htr _ hqd).mono ?_
        rintro e wn ⟨rfl, hbn⟩
        have hqd := hqd.trans (hbn.mono hqd.size)
        have d0 := (hbn.cell (cell_lt d0)).trans d0
        have d1 := (hbn.cell (cell_lt d1)).trans d1
        obtain ⟨wd, rfl⟩ : ∃ wx : World, wx = wn := ⟨_, rfl⟩
        try dsimp only
        refine hK.out _ _ ?h25 (fun hHeld => ?_)
        case h25 => first | exact ⟨‹_›, ‹_›⟩ | assumption | (simp [*, go_sem])
        clear hK K
        try simp only [Act.put, List.setIfInBounds_toArray, List.set_cons_zero, List.set_cons_succ]
        refine wpAnyH_take (i := 6) (v := ?v26) (by simp only [List.getElem?_toArray, List.getElem?_cons_succ, List.getElem?_cons_zero]; exact rfl) (by kernel_rfl) (by kernel_rfl) (by kernel_rfl) (by intro _ _ _ h; exact h) (Or.inl ⟨by rfl, ?y26⟩) hHeld ?_
        case y26 => (intro w hSw; (try dsimp only at hSw); go_simp; try (with_reducible rfl))
        try simp only [Act.put, List.setIfInBounds_toArray, List.set_cons_zero, List.set_cons_succ]
        refine wpAnyH_take (i := 7) (v := ?v27) (by simp only [List.getElem?_toArray, List.getElem?_cons_succ, List.getElem?_cons_zero]; exact rfl) (by kernel_rfl) (by kernel_rfl) (by kernel_rfl) (by intro _ _ _ h; exact h) (Or.inl ⟨by rfl, ?y27⟩) hHeld ?_
        case y27 => (intro w hSw; (try dsimp only at hSw); go_simp; try (with_reducible rfl))
        try simp only [Act.put, List.setIfInBounds_toArray, List.set_cons_zero, List.set_cons_succ]
        refine wpAnyH_take (i := 8) (v := ?v28) (by simp only [List.getElem?_toArray, List.getElem?_cons_succ, List.getElem?_cons_zero]; exact rfl) (by kernel_rfl) (by kernel_rfl) (by kernel_rfl) (by intro _ _ _ h; exact h) (Or.inl ⟨by rfl, ?y28⟩) hHeld ?_
        case y28 => (intro w hSw; (try dsimp only at hSw); go_simp; try (with_reducible rfl))
        try simp only [Act.put, List.setIfInBounds_toArray, List.set_cons_zero, List.set_cons_succ]
        refine wpAnyH_take (i := 9) (v := ?v29) (by simp only [List.getElem?_toArray, List.getElem?_cons_succ, List.getElem?_cons_zero]; exact rfl) (by kernel_rfl) (by kernel_rfl) (by kernel_rfl) (by intro _ _ _ h; exact h) (Or.inl ⟨by rfl, ?y29⟩) hHeld ?_
        case y29 => (intro w hSw; (try dsimp only at hSw); go_simp; try (with_reducible rfl))
        try simp only [Act.put, List.setIfInBounds_toArray, List.set_cons_zero, List.set_cons_succ]
        refine wpAnyH_take (i := 10) (v := ?v30) (by simp only [List.getElem?_toArray, List.getElem?_cons_succ, List.getElem?_cons_zero]; exact rfl) (by kernel_rfl) (by kernel_rfl) (by kernel_rfl) (by intro _ _ _ h; exact h) (Or.inl ⟨by rfl, ?y30⟩) hHeld ?_
        case y30 => (intro w hSw; (try dsimp only at hSw); go_simp; try (with_reducible rfl))
        try simp only [Act.put, List.setIfInBounds_toArray, List.set_cons_zero, List.set_cons_succ]
        refine wpAnyH_take (i := 11) (v := ?v31) (by simp only [List.getElem?_toArray, List.getElem?_cons_succ, List.getElem?_cons_zero]; exact rfl) (by kernel_rfl) (by kernel_rfl) (by kernel_rfl) (by intro _ _ _ h; exact h) (Or.inl ⟨by rfl, ?y31⟩) hHeld ?_
        case y31 => (intro w hSw; (try dsimp only at hSw); go_simp; try (with_reducible rfl))
        try simp only [Act.put, List.setIfInBounds_toArray, List.set_cons_zero, List.set_cons_succ]
        refine wpAnyH_take (i := 12) (v := ?v32) (by simp only [List.getElem?_toArray, List.getElem?_cons_succ, List.getElem?_cons_zero]; exact rfl) (by kernel_rfl) (by kernel_rfl) (by kernel_rfl) (by intro _ _ _ h; exact h) (Or.inl ⟨by rfl, ?y32⟩) hHeld ?_
        case y32 => (intro w hSw; (try dsimp only at hSw); go_simp; try (with_reducible rfl))
        try simp only [Act.put, List.setIfInBounds_toArray, List.set_cons_zero, List.set_cons_succ]
        refine wpAnyH_take (i := 13) (v := ?v33) (by simp only [List.getElem?_toArray, List.getElem?_cons_succ, List.getElem?_cons_zero]; exact rfl) (by kernel_rfl) (by kernel_rfl) (by kernel_rfl) (by intro _ _ _ h; exact h) (Or.inl ⟨by rfl, ?y33⟩) hHeld ?_
        case y33 => (intro w hSw; (try dsimp only at hSw); go_simp; try (with_reducible rfl))
        try simp only [Act.put, List.setIfInBounds_toArray, List.set_cons_zero, List.set_cons_succ]
        refine wpAnyH_take (i := 14) (v := ?v34) (by simp only [List.getElem?_toArray, List.getElem?_cons_succ, List.getElem?_cons_zero]; exact rfl) (by kernel_rfl) (by kernel_rfl) (by kernel_rfl) (by intro _ _ _ h; exact h) (Or.inl ⟨by rfl, ?y34⟩) hHeld ?_
        case y34 => (intro w hSw; (try dsimp only at hSw); go_simp; try (with_reducible rfl))
        try simp only [Act.put, List.setIfInBounds_toArray, List.set_cons_zero, List.set_cons_succ]
        refine wpAnyH_ready (rs := [15]) (by kernel_rfl) (by simp) ?_
        refine AllReadyH.cons (by simp only [List.getElem?_toArray, List.getElem?_cons_succ, List.getElem?_cons_zero]; exact rfl) (fun K hK => ?_) AllReadyH.nil
        go_simp
        refine (hdt _ hqd).mono ?_
        rintro e wn ⟨rfl, rfl⟩
        try dsimp only
        refine hK.out _ _ ?h36 (fun hHeld => ?_)
        case h36 => first | exact ⟨‹_›, ‹_›⟩ | assumption | (simp [*, go_sem])
        clear hK K
        try simp only [Act.put, List.setIfInBounds_toArray, List.set_cons_zero, List.set_cons_succ]
        refine wpAnyH_take (i := 16) (v := ?v37) (by simp only [List.getElem?_toArray, List.getElem?_cons_succ, List.getElem?_cons_zero]; exact rfl) (by kernel_rfl) (by kernel_rfl) (by kernel_rfl) (by intro _ _ _ h; exact h) (Or.inl ⟨by rfl, ?y37⟩) hHeld ?_
        case y37 => (intro w hSw; (try dsimp only at hSw); go_simp; try (with_reducible rfl))
        try simp only [Act.put, List.setIfInBounds_toArray, List.set_cons_zero, List.set_cons_succ]
        refine wpAnyH_done (by kernel_rfl) ?_ _
        go_wp2
        go_ret
        exact ⟨ret_bool HE.out.symm, hqd⟩
      rw [decide_eq_false hin2] at hdt
      have HN := Lib.hid (show ∀ i, i < j + 1 → HubAt g.length xs i from fun i hi => by
        by_cases e : i = j
        · subst e; exact ⟨by rw [eg]; exact hin.1, by rw [eg]; omega, by rw [eg]; exact hin2⟩
        · exact HT.out i (by omega))
      clear hin2 hin eg
      generalize xs[j] = x at *
      go_wp2
      refine wp_region_held_drew (S := (fun w' => w'.cell? ⟨w.heap.size, 0, none⟩ = some (.slice ga g.length gc) ∧ w'.cell? ⟨ub, uo + j, none⟩ = some (.int .i64 x))) (by kernel_rfl) ?_ (fun hHeld => ?_)
      · first | exact ⟨‹_›, ‹_›⟩ | assumption | (simp [*, go_sem])
      have hqd := hq.drew
      generalize wi.drew = wd at hqd hHeld ⊢
      have hHeld2 := hHeld
      obtain ⟨d0, d1⟩ := hHeld2
      refine wpAnyH_take (i := 0) (v := ?v38) (by simp only [List.getElem?_toArray, List.getElem?_cons_zero]; exact rfl) (by kernel_rfl) (by kernel_rfl) (by kernel_rfl) (by intro _ _ _ h; exact h) (Or.inl ⟨by rfl, ?y38⟩) hHeld ?_
      case y38 => (intro w hSw; (try dsimp only at hSw); go_simp; try (with_reducible rfl))
      try simp only [Act.put, List.setIfInBounds_toArray, List.set_cons_zero, List.set_cons_succ]
      refine wpAnyH_take (i := 1) (v := ?v39) (by simp only [List.getElem?_toArray, List.getElem?_cons_succ, List.getElem?_cons_zero]; exact rfl) (by kernel_rfl) (by kernel_rfl) (by kernel_rfl) (by intro _ _ _ h; exact h) (Or.inl ⟨by rfl, ?y39⟩) hHeld ?_
      case y39 => (intro w hSw; (try dsimp only at hSw); go_simp; try (with_reducible rfl))
      try simp only [Act.put, List.setIfInBounds_toArray, List.set_cons_zero, List.set_cons_succ]
      refine wpAnyH_take (i := 2) (v := ?v40) (by simp only [List.getElem?_toArray, List.getElem?_cons_succ, List.getElem?_cons_zero]; exact rfl) (by kernel_rfl) (by kernel_rfl) (by kernel_rfl) (by intro _ _ _ h; exact h) (Or.inl ⟨by rfl, ?y40⟩) hHeld ?_
      case y40 => (intro w hSw; (try dsimp only at hSw); go_simp; try (with_reducible rfl))
      try simp only [Act.put, List.setIfInBounds_toArray, List.set_cons_zero, List.set_cons_succ]
      refine wpAnyH_take (i := 3) (v := ?v41) (by simp only [List.getElem?_toArray, List.getElem?_cons_succ, List.getElem?_cons_zero]; exact rfl) (by kernel_rfl) (by kernel_rfl) (by kernel_rfl) (by intro _ _ _ h; exact h) (Or.inl ⟨by rfl, ?y41⟩) hHeld ?_
      case y41 => (intro w hSw; (try dsimp only at hSw); go_simp; try (with_reducible rfl))
      try simp only [Act.put, List.setIfInBounds_toArray, List.set_cons_zero, List.set_cons_succ]
      refine wpAnyH_take (i := 4) (v := ?v42) (by simp only [List.getElem?_toArray, List.getElem?_cons_succ, List.getElem?_cons_zero]; exact rfl) (by kernel_rfl) (by kernel_rfl) (by kernel_rfl) (by intro _ _ _ h; exact h) (Or.inl ⟨by rfl, ?y42⟩) hHeld ?_
      case y42 => (intro w hSw; (try dsimp only at hSw); go_simp; try (with_reducible rfl))
      try simp only [Act.put, List.setIfInBounds_toArray, List.set_cons_zero, List.set_cons_succ]
      refine wpAnyH_ready (rs := [5]) (by kernel_rfl) (by simp) ?_
      refine AllReadyH.cons (by simp only [List.getElem?_toArray, List.getElem?_cons_succ, List.getElem?_cons_zero]; exact rfl) (fun K hK => ?_) AllReadyH.nil
      go_simp
      refine (htr _ hqd).mono ?_
      rintro e wn ⟨rfl, hbn⟩
      have hqd := hqd.trans (hbn.mono hqd.size)
      have d0 := (hbn.cell (cell_lt d0)).trans d0
      have d1 := (hbn.cell (cell_lt d1)).trans d1
      obtain ⟨wd, rfl⟩ : ∃ wx : World, wx = wn := ⟨_, rfl⟩
      try dsimp only
      refine hK.out _ _ ?h44 (fun hHeld => ?_)
      case h44 => first | exact ⟨‹_›, ‹_›⟩ | assumption | (simp [*, go_sem])
      clear hK K
      try simp only [Act.put, List.setIfInBounds_toArray, List.set_cons_zero, List.set_cons_succ]
      refine wpAnyH_take (i := 6) (v := ?v45) (by simp only [List.getElem?_toArray, List.getElem?_cons_succ, List.getElem?_cons_zero]; exact rfl) (by kernel_rfl) (by kernel_rfl) (by kernel_rfl) (by intro _ _ _ h; exact h) (Or.inl ⟨by rfl, ?y45⟩) hHeld ?_
      case y45 => (intro w hSw; (try dsimp only at hSw); go_simp; try (with_reducible rfl))
      try simp only [Act.put, List.setIfInBounds_toArray, List.set_cons_zero, List.set_cons_succ]
      refine wpAnyH_take (i := 7) (v := ?v46) (by simp only [List.getElem?_toArray, List.getElem?_cons_succ, List.getElem?_cons_zero]; exact rfl) (by kernel_rfl) (by kernel_rfl) (by kernel_rfl) (by intro _ _ _ h; exact h) (Or.inl ⟨by rfl, ?y46⟩) hHeld ?_
      case y46 => (intro w hSw; (try dsimp only at hSw); go_simp; try (with_reducible rfl))
      try simp only [Act.put, List.setIfInBounds_toArray, List.set_cons_zero, List.set_cons_succ]
      refine wpAnyH_take (i := 8) (v := ?v47) (by simp only [List.getElem?_toArray, List.getElem?_cons_succ, List.getElem?_cons_zero]; exact rfl) (by kernel_rfl) (by kernel_rfl) (by kernel_rfl) (by intro _ _ _ h; exact h) (Or.inl ⟨by rfl, ?y47⟩) hHeld ?_
      case y47 => (intro w hSw; (try dsimp only at hSw); go_simp; try (with_reducible rfl))
      try simp only [Act.put, List.setIfInBounds_toArray, List.set_cons_zero, List.set_cons_succ]
      refine wpAnyH_take (i := 9) (v := ?v48) (by simp only [List.getElem?_toArray, List.getElem?_cons_succ, List.getElem?_cons_zero]; exact rfl) (by kernel_rfl) (by kernel_rfl) (by kernel_rfl) (by intro _ _ _ h; exact h) (Or.inl ⟨by rfl, ?y48⟩) hHeld ?_
      case y48 => (intro w hSw; (try dsimp only at hSw); go_simp; try (with_reducible rfl))
      try simp only [Act.put, List.setIfInBounds_toArray, List.set_cons_zero, List.set_cons_succ]
      refine wpAnyH_take (i := 10) (v := ?v49) (by simp only [List.getElem?_toArray, List.getElem?_cons_succ, List.getElem?_cons_zero]; exact rfl) (by kernel_rfl) (by kernel_rfl) (by kernel_rfl) (by intro _ _ _ h; exact h) (Or.inl ⟨by rfl, ?y49⟩) hHeld ?_
      case y49 => (intro w hSw; (try dsimp only at hSw); go_simp; try (with_reducible rfl))
      try simp only [Act.put, List.setIfInBounds_toArray, List.set_cons_zero, List.set_cons_succ]
      refine wpAnyH_take (i := 11) (v := ?v50) (by simp only [List.getElem?_toArray, List.getElem?_cons_succ, List.getElem?_cons_zero]; exact rfl) (by kernel_rfl) (by kernel_rfl) (by kernel_rfl) (by intro _ _ _ h; exact h) (Or.inl ⟨by rfl, ?y50⟩) hHeld ?_
      case y50 => (intro w hSw; (try dsimp only at hSw); go_simp; try (with_reducible rfl))
      try simp only [Act.put, List.setIfInBounds_toArray, List.set_cons_zero, List.set_cons_succ]
      refine wpAnyH_take (i := 12) (v := ?v51) (by simp only [List.getElem?_toArray, List.getElem?_cons_succ, List.getElem?_cons_zero]; exact rfl) (by kernel_rfl) (by kernel_rfl) (by kernel_rfl) (by intro _ _ _ h; exact h) (Or.inl ⟨by rfl, ?y51⟩) hHeld ?_
      case y51 => (intro w hSw; (try dsimp only at hSw); go_simp; try (with_reducible rfl))
      try simp only [Act.put, List.setIfInBounds_toArray, List.set_cons_zero, List.set_cons_succ]
      refine wpAnyH_take (i := 13) (v := ?v52) (by simp only [List.getElem?_toArray, List.getElem?_cons_succ, List.getElem?_cons_zero]; exact rfl) (by kernel_rfl) (by kernel_rfl) (by kernel_rfl) (by intro _ _ _ h; exact h) (Or.inl ⟨by rfl, ?y52⟩) hHeld ?_
      case y52 => (intro w hSw; (try dsimp only at hSw); go_simp; try (with_reducible rfl))
      try simp only [Act.put, List.setIfInBounds_toArray, List.set_cons_zero, List.set_cons_succ]
      refine wpAnyH_take (i := 14) (v := ?v53) (by simp only [List.getElem?_toArray, List.getElem?_cons_succ, List.getElem?_cons_zero]; exact rfl) (by kernel_rfl) (by kernel_rfl) (by kernel_rfl) (by intro _ _ _ h; exact h) (Or.inl ⟨by rfl, ?y53⟩) hHeld ?_
      case y53 => (intro w hSw; (try dsimp only at hSw); go_simp; try (with_reducible rfl))
      try simp only [Act.put, List.setIfInBounds_toArray, List.set_cons_zero, List.set_cons_succ]
      refine wpAnyH_ready (rs := [15]) (by kernel_rfl) (by simp) ?_
      refine AllReadyH.cons (by simp only [List.getElem?_toArray, List.getElem?_cons_succ, List.getElem?_cons_zero]; exact rfl) (fun K hK => ?_) AllReadyH.nil
      go_simp
      refine (hdt _ hqd).mono ?_
      rintro e wn ⟨rfl, rfl⟩
      try dsimp only
      refine hK.out _ _ ?h55 (fun hHeld => ?_)
      case h55 => first | exact ⟨‹_›, ‹_›⟩ | assumption | (simp [*, go_sem])
      clear hK K
      try simp only [Act.put, List.setIfInBounds_toArray, List.set_cons_zero, List.set_cons_succ]
      refine wpAnyH_take (i := 16) (v := ?v56) (by simp only [List.getElem?_toArray, List.getElem?_cons_succ, List.getElem?_cons_zero]; exact rfl) (by kernel_rfl) (by kernel_rfl) (by kernel_rfl) (by intro _ _ _ h; exact h) (Or.inl ⟨by rfl, ?y56⟩) hHeld ?_
      case y56 => (intro w hSw; (try dsimp only at hSw); go_simp; try (with_reducible rfl))
      try simp only [Act.put, List.setIfInBounds_toArray, List.set_cons_zero, List.set_cons_succ]
      refine wpAnyH_done (by kernel_rfl) ?_ _
      go_wp2
      go_roundw
      case rel => exact ⟨j + 1, by omega, by go_num, HN, hqd, d0⟩
      case measure => simp [intOf]; omega
  · have hk' : (k == 2) = false := by rw [beq_eq_false_iff_ne]; exact hk
    clear E0 F0 F1 F2 F3 F5 K2 hut1 hut2 hT hk
    go_enter Try.func32, Try.ntmps32
    go_wp2_with (go_at_call 63; refine (hsd _).mono ?_; rintro e w' ⟨rfl, rfl⟩)
    go_quiet ((go_at_call 66; first | (with_reducible exact hr1 _) | (with_reducible exact hr2 _)))
    go_wp2
    clear hr1 hr2 hsd
    have hcg0 : (w.alloc (.cells #[.slice ga g.length gc] 31)).cell? ⟨w.heap.size, 0, none⟩ = some (.slice ga g.length gc) := by simp [go_sem]
    go_loopw [9] (fun i wr => ∃ k : Nat, k ≤ xs.length ∧ i = .int .i64 k ∧ RowKit.Hid (∀ j, j < k → HubAt g.length xs j) ∧ Below w.heap.size w wr ∧ wr.cell? ⟨w.heap.size, 0, none⟩ = some (.slice ga g.length gc)) (fun i _ => xs.length - (intOf i).toNat)
    case atStart => exact ⟨0, Nat.zero_le _, rfl, Lib.hid (fun _ h => by omega), hq0.drewN' _, hcg0⟩
    case round =>
      clear hq0 hcg0
      obtain ⟨j, hj, rfl, HT, hq, hcg⟩ := hrel
      obtain ⟨wi, rfl⟩ : ∃ wx : World, wx = wr := ⟨_, rfl⟩
      by_cases hlt : j < xs.length
      case neg =>
        obtain rfl : j = xs.length := by omega
        have HE := Lib.hid (HALL.out HT.out)
        go_wp2
        go_ret
        exact ⟨ret_bool HE.out.symm, hq⟩
      have hjc : j ≤ uc := by omega
      have hcp0 := hut j hlt
      have hcp := (hq.cell (p := ⟨ub, uo + j, none⟩) (cell_lt hcp0)).trans hcp0
      have htr := fun (W : World) (hb : Below w.heap.size w W) => hth W hb xs[j]
      have hdt := fun (W : World) (hb : Below w.heap.size w W) => l1Has_any _ _ xs[j] W ((hub W hb).take (m := j) (by omega))
      have eg := getD_get (d := (0 : Int)) hlt
      by_cases hin : 0 ≤ xs[j] ∧ xs[j] ≤ (g.length : Int) - 1
      case neg =>
        rw [inB_false hin] at htr
        have HE := Lib.hid (F4.out j hlt fun h => hin ⟨by rw [← eg]; exact h.lo, by rw [← eg]; have := h.hi; omega⟩)
        clear hin hdt eg
        generalize xs[j] = x at *
        go_wp2
        refine wp_region_held_drew (S := (fun w' => w'.cell? ⟨w.heap.size, 0, none⟩ = some (.slice ga g.length gc) ∧ w'.cell? ⟨ub, uo + j, none⟩ = some (.int .i64 x))) (by kernel_rfl) ?_ (fun hHeld => ?_)
        · first | exact ⟨‹_›, ‹_›⟩ | assumption | (simp [*, go_sem])
        have hqd := hq.drew
        generalize wi.drew = wd at hqd hHeld ⊢
        have hHeld2 := hHeld
        obtain ⟨d0, d1⟩ := hHeld2
        refine wpAnyH_take (i := 0) (v := ?v57) (by simp only [List.getElem?_toArray, List.getElem?_cons_zero]; exact rfl) (by kernel_rfl) (by kernel_rfl) (by kernel_rfl) (by intro _ _ _ h; exact h) (Or.inl ⟨by rfl, ?y57⟩) hHeld ?_
        case y57 => (intro w hSw; (try dsimp only at hSw); go_simp; try (with_reducible rfl))
        try simp only [Act.put, List.setIfInBounds_toArray, List.set_cons_zero, List.set_cons_succ]
        refine wpAnyH_take (i := 1) (v := ?v58) (by simp only [List.getElem?_toArray, List.getElem?_cons_succ, List.getElem?_cons_zero]; exact rfl) (by kernel_rfl) (by kernel_rfl) (by kernel_rfl) (by intro _ _ _ h; exact h) (Or.inl ⟨by rfl, ?y58⟩) hHeld ?_
        case y58 => (intro w hSw; (try dsimp only at hSw); go_simp; try (with_reducible rfl))
        try simp only [Act.put, List.setIfInBounds_toArray, List.set_cons_zero, List.set_cons_succ]
        refine wpAnyH_take (i := 2) (v := ?v59) (by simp only [List.getElem?_toArray, List.getElem?_cons_succ, List.getElem?_cons_zero]; exact rfl) (by kernel_rfl) (by kernel_rfl) (by kernel_rfl) (by intro _ _ _ h; exact h) (Or.inl ⟨by rfl, ?y59⟩) hHeld ?_
        case y59 => (intro w hSw; (try dsimp only at hSw); go_simp; try (with_reducible rfl))
        try simp only [Act.put, List.setIfInBounds_toArray, List.set_cons_zero, List.set_cons_succ]
        refine wpAnyH_take (i := 3) (v := ?v60) (by simp only [List.getElem?_toArray, List.getElem?_cons_succ, List.getElem?_cons_zero]; exact rfl) (by kernel_rfl) (by kernel_rfl) (by kernel_rfl) (by intro _ _ _ h; exact h) (Or.inl ⟨by rfl, ?y60⟩) hHeld ?_
        case y60 => (intro w hSw; (try dsimp only at hSw); go_simp; try (with_reducible rfl))
        try simp only [Act.put, List.setIfInBounds_toArray, List.set_cons_zero, List.set_cons_succ]
        refine wpAnyH_take (i := 4) (v := ?v61) (by simp only [List.getElem?_toArray, List.getElem?_cons_succ, List.getElem?_cons_zero]; exact rfl) (by kernel_rfl) (by kernel_rfl) (by kernel_rfl) (by intro _ _ _ h; exact h) (Or.inl ⟨by rfl, ?y61⟩) hHeld ?_
        case y61 => (intro w hSw; (try dsimp only at hSw); go_simp; try (with_reducible rfl))
        try simp only [Act.put, List.setIfInBounds_toArray, List.set_cons_zero, List.set_cons_succ]
        refine wpAnyH_ready (rs := [5]) (by kernel_rfl) (by simp) ?_
        refine AllReadyH.cons (by simp only [List.getElem?_toArray, List.getElem?_cons_succ, List.getElem?_cons_zero]; exact rfl) (fun K hK => ?_) AllReadyH.nil
        go_simp
        refine (htr _ hqd).mono ?_
        rintro e wn ⟨rfl, hbn⟩
        have hqn := hqd.trans (hbn.mono hqd.size)
        have d0 := (hbn.cell (cell_lt d0)).trans d0
        have d1 := (hbn.cell (cell_lt d1)).trans d1
        try dsimp only
        refine hK.out _ _ ?h63 (fun hHeld => ?_)
        case h63 => first | exact ⟨‹_›, ‹_›⟩ | assumption | (simp [*, go_sem])
        clear hK K
        try simp only [Act.put, List.setIfInBounds_toArray, List.set_cons_zero, List.set_cons_succ]
        refine wpAnyH_take (i := 6) (v := ?v64) (by simp only [List.getElem?_toArray, List.getElem?_cons_succ, List.getElem?_cons_zero]; exact rfl) (by kernel_rfl) (by kernel_rfl) (by kernel_rfl) (by intro _ _ _ h; exact h) (Or.inl ⟨by rfl, ?y64⟩) hHeld ?_
        case y64 => (intro w hSw; (try dsimp only at hSw); go_simp; try (with_reducible rfl))
        try simp only [Act.put, List.setIfInBounds_toArray, List.set_cons_zero, List.set_cons_succ]
        refine wpAnyH_take (i := 7) (v := ?v65) (by simp only [List.getElem?_toArray, List.getElem?_cons_succ, List.getElem?_cons_zero]; exact rfl) (by kernel_rfl) (by kernel_rfl) (by kernel_rfl) (by intro _ _ _ h; exact h) (Or.inl ⟨by rfl, ?y65⟩) hHeld ?_
        case y65 => (intro w hSw; (try dsimp only at hSw); go_simp; try (with_reducible rfl))
        try simp only [Act.put, List.setIfInBounds_toArray, List.set_cons_zero, List.set_cons_succ]
        refine wpAnyH_take (i := 8) (by simp only [List.getElem?_toArray, List.getElem?_cons_succ, List.getElem?_cons_zero]; exact rfl) (by kernel_rfl) (by kernel_rfl) (by kernel_rfl) (by intro _ _ _ h; exact h) (Or.inr ⟨by rfl, rfl⟩) hHeld ?_
        try simp only [Act.put, List.setIfInBounds_toArray, List.set_cons_zero, List.set_cons_succ]
        refine wpAnyH_take (i := 9) (by simp only [List.getElem?_toArray, List.getElem?_cons_succ, List.getElem?_cons_zero]; exact rfl) (by kernel_rfl) (by kernel_rfl) (by kernel_rfl) (by intro _ _ _ h; exact h) (Or.inr ⟨by rfl, rfl⟩) hHeld ?_
        try simp only [Act.put, List.setIfInBounds_toArray, List.set_cons_zero, List.set_cons_succ]
        refine wpAnyH_take (i := 10) (by simp only [List.getElem?_toArray, List.getElem?_cons_succ, List.getElem?_cons_zero]; exact rfl) (by kernel_rfl) (by kernel_rfl) (by kernel_rfl) (by intro _ _ _ h; exact h) (Or.inr ⟨by rfl, rfl⟩) hHeld ?_
        try simp only [Act.put, List.setIfInBounds_toArray, List.set_cons_zero, List.set_cons_succ]
        refine wpAnyH_take (i := 11) (by simp only [List.getElem?_toArray, List.getElem?_cons_succ, List.getElem?_cons_zero]; exact rfl) (by kernel_rfl) (by kernel_rfl) (by kernel_rfl) (by intro _ _ _ h; exact h) (Or.inr ⟨by rfl, rfl⟩) hHeld ?_
        try simp only [Act.put, List.setIfInBounds_toArray, List.set_cons_zero, List.set_cons_succ]
        refine wpAnyH_take (i := 12) (by simp only [List.getElem?_toArray, List.getElem?_cons_succ, List.getElem?_cons_zero]; exact rfl) (by kernel_rfl) (by kernel_rfl) (by kernel_rfl) (by intro _ _ _ h; exact h) (Or.inr ⟨by rfl, rfl⟩) hHeld ?_
        try simp only [Act.put, List.setIfInBounds_toArray, List.set_cons_zero, List.set_cons_succ]
        refine wpAnyH_take (i := 13) (by simp only [List.getElem?_toArray, List.getElem?_cons_succ, List.getElem?_cons_zero]; exact rfl) (by kernel_rfl) (by kernel_rfl) (by kernel_rfl) (by intro _ _ _ h; exact h) (Or.inr ⟨by rfl, rfl⟩) hHeld ?_
        try simp only [Act.put, List.setIfInBounds_toArray, List.set_cons_zero, List.set_cons_succ]
        refine wpAnyH_take (i := 14) (by simp only [List.getElem?_toArray, List.getElem?_cons_succ, List.getElem?_cons_zero]; exact rfl) (by kernel_rfl) (by kernel_rfl) (by kernel_rfl) (by intro _ _ _ h; exact h) (Or.inr ⟨by rfl, rfl⟩) hHeld ?_
        try simp only [Act.put, List.setIfInBounds_toArray, List.set_cons_zero, List.set_cons_succ]
        refine wpAnyH_take (i := 15) (by simp only [List.getElem?_toArray, List.getElem?_cons_succ, List.getElem?_cons_zero]; exact rfl) (by kernel_rfl) (by kernel_rfl) (by kernel_rfl) (by intro _ _ _ h; exact h) (Or.inr ⟨by rfl, rfl⟩) hHeld ?_
        try simp only [Act.put, List.setIfInBounds_toArray, List.set_cons_zero, List.set_cons_succ]
        refine wpAnyH_take (i := 16) (v := ?v74) (by simp only [List.getElem?_toArray, List.getElem?_cons_succ, List.getElem?_cons_zero]; exact rfl) (by kernel_rfl) (by kernel_rfl) (by kernel_rfl) (by intro _ _ _ h; exact h) (Or.inl ⟨by rfl, ?y74⟩) hHeld ?_
        case y74 => (intro w hSw; (try dsimp only at hSw); go_simp; try (with_reducible rfl))
        try simp only [Act.put, List.setIfInBounds_toArray, List.set_cons_zero, List.set_cons_succ]
        refine wpAnyH_done (by kernel_rfl) ?_ _
        go_wp2
        go_ret
        exact ⟨ret_bool HE.out.symm, hqn⟩
      rw [inB_true hin] at htr
      by_cases hin2 : xs[j] ∈ xs.take j
      case pos =>
        rw [decide_eq_true hin2] at hdt
        have HE := Lib.hid (F4.out j hlt fun h => h.new (by rw [eg]; exact hin2))
        clear hin2 hin eg
        generalize xs[j] = x at *
        go_wp2
        refine wp_region_held_drew (S := (fun w' => w'.cell? ⟨w.heap.size, 0, none⟩ = some (.slice ga g.length gc) ∧ w'.cell? ⟨ub, uo + j, none⟩ = some (.int .i64 x))) (by kernel_rfl) ?_ (fun hHeld => ?_)
        · first | exact ⟨‹_›, ‹_›⟩ | assumption | (simp [*, go_sem])
        have hqd := hq.drew
        generalize wi.drew = wd at hqd hHeld ⊢
        have hHeld2 := hHeld
        obtain ⟨d0, d1⟩ := hHeld2
        refine wpAnyH_take (i := 0) (v := ?v75) (by simp only [List.getElem?_toArray, List.getElem?_cons_zero]; exact rfl) (by kernel_rfl) (by kernel_rfl) (by kernel_rfl) (by intro _ _ _ h; exact h) (Or.inl ⟨by rfl, ?y75⟩) hHeld ?_
        case y75 => (intro w hSw; (try dsimp only at hSw); go_simp; try (with_reducible rfl))
        try simp only [Act.put, List.setIfInBounds_toArray, List.set_cons_zero, List.set_cons_succ]
        refine wpAnyH_take (i := 1) (v := ?v76) (by simp only [List.getElem?_toArray, List.getElem?_cons_succ, List.getElem?_cons_zero]; exact rfl) (by kernel_rfl) (by kernel_rfl) (by kernel_rfl) (by intro _ _ _ h; exact h) (Or.inl ⟨by rfl, ?y76⟩) hHeld ?_
        case y76 => (intro w hSw; (try dsimp only at hSw); go_simp; try (with_reducible rfl))
        try simp only [Act.put, List.setIfInBounds_toArray, List.set_cons_zero, List.set_cons_succ]
        refine wpAnyH_take (i := 2) (v := ?v77) (by simp only [List.getElem?_toArray, List.getElem?_cons_succ, List.getElem?_cons_zero]; exact rfl) (by kernel_rfl) (by kernel_rfl) (by kernel_rfl) (by intro _ _ _ h; exact h) (Or.inl ⟨by rfl, ?y77⟩) hHeld ?_
        case y77 => (intro w hSw; (try dsimp only at hSw); go_simp; try (with_reducible rfl))
        try simp only [Act.put, List.setIfInBounds_toArray, List.set_cons_zero, List.set_cons_succ]
        refine wpAnyH_take (i := 3) (v := ?v78) (by simp only [List.getElem?_toArray, List.getElem?_cons_succ, List.getElem?_cons_zero]; exact rfl) (by kernel_rfl) (by kernel_rfl) (by kernel_rfl) (by intro _ _ _ h; exact h) (Or.inl ⟨by rfl, ?y78⟩) hHeld ?_
        case y78 => (intro w hSw; (try dsimp only at hSw); go_simp; try (with_reducible rfl))
        try simp only [Act.put, List.setIfInBounds_toArray, List.set_cons_zero, List.set_cons_succ]
        refine wpAnyH_take (i := 4) (v := ?v79) (by simp only [List.getElem?_toArray, List.getElem?_cons_succ, List.getElem?_cons_zero]; exact rfl) (by kernel_rfl) (by kernel_rfl) (by kernel_rfl) (by intro _ _ _ h; exact h) (Or.inl ⟨by rfl, ?y79⟩) hHeld ?_
        case y79 => (intro w hSw; (try dsimp only at hSw); go_simp; try (with_reducible rfl))
        try simp only [Act.put, List.setIfInBounds_toArray, List.set_cons_zero, List.set_cons_succ]
        refine wpAnyH_ready (rs := [5]) (by kernel_rfl) (by simp) ?_
        refine AllReadyH.cons (by simp only [List.getElem?_toArray, List.getElem?_cons_succ, List.getElem?_cons_zero]; exact rfl) (fun K hK => ?_) AllReadyH.nil
        go_simp
        refine (htr _ hqd).mono ?_
        rintro e wn ⟨rfl, hbn⟩
        have hqd := hqd.trans (hbn.mono hqd.size)
        have d0 := (hbn.cell (cell_lt d0)).trans d0
        have d1 := (hbn.cell (cell_lt d1)).trans d1
        obtain ⟨wd, rfl⟩ : ∃ wx : World, wx = wn := ⟨_, rfl⟩
        try dsimp only
        refine hK.out _ _ ?h81 (fun hHeld => ?_)
        case h81 => first | exact ⟨‹_›, ‹_›⟩ | assumption | (simp [*, go_sem])
        clear hK K
        try simp only [Act.put, List.setIfInBounds_toArray, List.set_cons_zero, List.set_cons_succ]
        refine wpAnyH_take (i := 6) (v := ?v82) (by simp only [List.getElem?_toArray, List.getElem?_cons_succ, List.getElem?_cons_zero]; exact rfl) (by kernel_rfl) (by kernel_rfl) (by kernel_rfl) (by intro _ _ _ h; exact h) (Or.inl ⟨by rfl, ?y82⟩) hHeld ?_
        case y82 => (intro w hSw; (try dsimp only at hSw); go_simp; try (with_reducible rfl))
        try simp only [Act.put, List.setIfInBounds_toArray, List.set_cons_zero, List.set_cons_succ]
        refine wpAnyH_take (i := 7) (v := ?v83) (by simp only [List.getElem?_toArray, List.getElem?_cons_succ, List.getElem?_cons_zero]; exact rfl) (by kernel_rfl) (by kernel_rfl) (by kernel_rfl) (by intro _ _ _ h; exact h) (Or.inl ⟨by rfl, ?y83⟩) hHeld ?_
        case y83 => (intro w hSw; (try dsimp only at hSw); go_simp; try (with_reducible rfl))
        try simp only [Act.put, List.setIfInBounds_toArray, List.set_cons_zero, List.set_cons_succ]
        refine wpAnyH_take (i := 8) (v := ?v84) (by simp only [List.getElem?_toArray, List.getElem?_cons_succ, List.getElem?_cons_zero]; exact rfl) (by kernel_rfl) (by kernel_rfl) (by kernel_rfl) (by intro _ _ _ h; exact h) (Or.inl ⟨by rfl, ?y84⟩) hHeld ?_
        case y84 => (intro w hSw; (try dsimp only at hSw); go_simp; try (with_reducible rfl))
        try simp only [Act.put, List.setIfInBounds_toArray, List.set_cons_zero, List.set_cons_succ]
        refine wpAnyH_take (i := 9) (v := ?v85) (by simp only [List.getElem?_toArray, List.getElem?_cons_succ, List.getElem?_cons_zero]; exact rfl) (by kernel_rfl) (by kernel_rfl) (by kernel_rfl) (by intro _ _ _ h; exact h) (Or.inl ⟨by rfl, ?y85⟩) hHeld ?_
        case y85 => (intro w hSw; (try dsimp only at hSw); go_simp; try (with_reducible rfl))
        try simp only [Act.put, List.setIfInBounds_toArray, List.set_cons_zero, List.set_cons_succ]
        refine wpAnyH_take (i := 10) (v := ?v86) (by simp only [List.getElem?_toArray, List.getElem?_cons_succ, List.getElem?_cons_zero]; exact rfl) (by kernel_rfl) (by kernel_rfl) (by kernel_rfl) (by intro _ _ _ h; exact h) (Or.inl ⟨by rfl, ?y86⟩) hHeld ?_
        case y86 => (intro w hSw; (try dsimp only at hSw); go_simp; try (with_reducible rfl))
        try simp only [Act.put, List.setIfInBounds_toArray, List.set_cons_zero, List.set_cons_succ]
        refine wpAnyH_take (i := 11) (v := ?v87) (by simp only [List.getElem?_toArray, List.getElem?_cons_succ, List.getElem?_cons_zero]; exact rfl) (by kernel_rfl) (by kernel_rfl) (by kernel_rfl) (by intro _ _ _ h; exact h) (Or.inl ⟨by rfl, ?y87⟩) hHeld ?_
        case y87 => (intro w hSw; (try dsimp only at hSw); go_simp; try (with_reducible rfl))
        try simp only [Act.put, List.setIfInBounds_toArray, List.set_cons_zero, List.set_cons_succ]
        refine wpAnyH_take (i := 12) (v := ?v88) (by simp only [List.getElem?_toArray, List.getElem?_cons_succ, List.getElem?_cons_zero]; exact rfl) (by kernel_rfl) (by kernel_rfl) (by kernel_rfl) (by intro _ _ _ h; exact h) (Or.inl ⟨by rfl, ?y88⟩) hHeld ?_
        case y88 => (intro w hSw; (try dsimp only at hSw); go_simp; try (with_reducible rfl))
        try simp only [Act.put, List.setIfInBounds_toArray, List.set_cons_zero, List.set_cons_succ]
        refine wpAnyH_take (i := 13) (v := ?v89) (by simp only [List.getElem?_toArray, List.getElem?_cons_succ, List.getElem?_cons_zero]; exact rfl) (by kernel_rfl) (by kernel_rfl) (by kernel_rfl) (by intro _ _ _ h; exact h) (Or.inl ⟨by rfl, ?y89⟩) hHeld ?_
        case y89 => (intro w hSw; (try dsimp only at hSw); go_simp; try (with_reducible rfl))
        try simp only [Act.put, List.setIfInBounds_toArray, List.set_cons_zero, List.set_cons_succ]
        refine wpAnyH_take (i := 14) (v := ?v90) (by simp only [List.getElem?_toArray, List.getElem?_cons_succ, List.getElem?_cons_zero]; exact rfl) (by kernel_rfl) (by kernel_rfl) (by kernel_rfl) (by intro _ _ _ h; exact h) (Or.inl ⟨by rfl, ?y90⟩) hHeld ?_
        case y90 => (intro w hSw; (try dsimp only at hSw); go_simp; try (with_reducible rfl))
        try simp only [Act.put, List.setIfInBounds_toArray, List.set_cons_zero, List.set_cons_succ]
        refine wpAnyH_ready (rs := [15]) (by kernel_rfl) (by simp) ?_
        refine AllReadyH.cons (by simp only [List.getElem?_toArray, List.getElem?_cons_succ, List.getElem?_cons_zero]; exact rfl) (fun K hK => ?_) AllReadyH.nil
        go_simp
        refine (hdt _ hqd).mono ?_
        rintro e wn ⟨rfl, rfl⟩
        try dsimp only
        refine hK.out _ _ ?h92 (fun hHeld => ?_)
        case h92 => first | exact ⟨‹_›, ‹_›⟩ | assumption | (simp [*, go_sem])
        clear hK K
        try simp only [Act.put, List.setIfInBounds_toArray, List.set_cons_zero, List.set_cons_succ]
        refine wpAnyH_take (i := 16) (v := ?v93) (by simp only [List.getElem?_toArray, List.getElem?_cons_succ, List.getElem?_cons_zero]; exact rfl) (by kernel_rfl) (by kernel_rfl) (by kernel_rfl) (by intro _ _ _ h; exact h) (Or.inl ⟨by rfl, ?y93⟩) hHeld ?_
        case y93 => (intro w hSw; (try dsimp only at hSw); go_simp; try (with_reducible rfl))
        try simp only [Act.put, List.setIfInBounds_toArray, List.set_cons_zero, List.set_cons_succ]
        refine wpAnyH_done (by kernel_rfl) ?_ _
        go_wp2
        go_ret
        exact ⟨ret_bool HE.out.symm, hqd⟩
      rw [decide_eq_false hin2] at hdt
      have HN := Lib.hid (show ∀ i, i < j + 1 → HubAt g.length xs i from fun i hi => by
        by_cases e : i = j
        · subst e; exact ⟨by rw [eg]; exact hin.1, by rw [eg]; omega, by rw [eg]; exact hin2⟩
        · exact HT.out i (by omega))
      clear hin2 hin eg
      generalize xs[j] = x at *
      go_wp2
      refine wp_region_held_drew (S := (fun w' => w'.cell? ⟨w.heap.size, 0, none⟩ = some (.slice ga g.length gc) ∧ w'.cell? ⟨ub, uo + j, none⟩ = some (.int .i64 x))) (by kernel_rfl) ?_ (fun hHeld => ?_)
      · first | exact ⟨‹_›, ‹_›⟩ | assumption | (simp [*, go_sem])
      have hqd := hq.drew
      generalize wi.drew = wd at hqd hHeld ⊢
      have hHeld2 := hHeld
      obtain ⟨d0, d1⟩ := hHeld2
      refine wpAnyH_take (i := 0) (v := ?v94) (by simp only [List.getElem?_toArray, List.getElem?_cons_zero]; exact rfl) (by kernel_rfl) (by kernel_rfl) (by kernel_rfl) (by intro _ _ _ h; exact h) (Or.inl ⟨by rfl, ?y94⟩) hHeld ?_
      case y94 => (intro w hSw; (try dsimp only at hSw); go_simp; try (with_reducible rfl))
      try simp only [Act.put, List.setIfInBounds_toArray, List.set_cons_zero, List.set_cons_succ]
      refine wpAnyH_take (i := 1) (v := ?v95) (by simp only [List.getElem?_toArray, List.getElem?_cons_succ, List.getElem?_cons_zero]; exact rfl) (by kernel_rfl) (by kernel_rfl) (by kernel_rfl) (by intro _ _ _ h; exact h) (Or.inl ⟨by rfl, ?y95⟩) hHeld ?_
      case y95 => (intro w hSw; (try dsimp only at hSw); go_simp; try (with_reducible rfl))
      try simp only [Act.put, List.setIfInBounds_toArray, List.set_cons_zero, List.set_cons_succ]
      refine wpAnyH_take (i := 2) (v := ?v96) (by simp only [List.getElem?_toArray, List.getElem?_cons_succ, List.getElem?_cons_zero]; exact rfl) (by kernel_rfl) (by kernel_rfl) (by kernel_rfl) (by intro _ _ _ h; exact h) (Or.inl ⟨by rfl, ?y96⟩) hHeld ?_
      case y96 => (intro w hSw; (try dsimp only at hSw); go_simp; try (with_reducible rfl))
      try simp only [Act.put, List.setIfInBounds_toArray, List.set_cons_zero, List.set_cons_succ]
      refine wpAnyH_take (i := 3) (v := ?v97) (by simp only [List.getElem?_toArray, List.getElem?_cons_succ, List.getElem?_cons_zero]; exact rfl) (by kernel_rfl) (by kernel_rfl) (by kernel_rfl) (by intro _ _ _ h; exact h) (Or.inl ⟨by rfl, ?y97⟩) hHeld ?_
      case y97 => (intro w hSw; (try dsimp only at hSw); go_simp; try (with_reducible rfl))
      try simp only [Act.put, List.setIfInBounds_toArray, List.set_cons_zero, List.set_cons_succ]
      refine wpAnyH_take (i := 4) (v := ?v98) (by simp only [List.getElem?_toArray, List.getElem?_cons_succ, List.getElem?_cons_zero]; exact rfl) (by kernel_rfl) (by kernel_rfl) (by kernel_rfl) (by intro _ _ _ h; exact h) (Or.inl ⟨by rfl, ?y98⟩) hHeld ?_
      case y98 => (intro w hSw; (try dsimp only at hSw); go_simp; try (with_reducible rfl))
      try simp only [Act.put, List.setIfInBounds_toArray, List.set_cons_zero, List.set_cons_succ]
      refine wpAnyH_ready (rs := [5]) (by kernel_rfl) (by simp) ?_
      refine AllReadyH.cons (by simp only [List.getElem?_toArray, List.getElem?_cons_succ, List.getElem?_cons_zero]; exact rfl) (fun K hK => ?_) AllReadyH.nil
      go_simp
      refine (htr _ hqd).mono ?_
      rintro e wn ⟨rfl, hbn⟩
      have hqd := hqd.trans (hbn.mono hqd.size)
      have d0 := (hbn.cell (cell_lt d0)).trans d0
      have d1 := (hbn.cell (cell_lt d1)).trans d1
      obtain ⟨wd, rfl⟩ : ∃ wx : World, wx = wn := ⟨_, rfl⟩
      try dsimp only
      refine hK.out _ _ ?h100 (fun hHeld => ?_)
      case h100 => first | exact ⟨‹_›, ‹_›⟩ | assumption | (simp [*, go_sem])
      clear hK K
      try simp only [Act.put, List.setIfInBounds_toArray, List.set_cons_zero, List.set_cons_succ]
      refine wpAnyH_take (i := 6) (v := ?v101) (by simp only [List.getElem?_toArray, List.getElem?_cons_succ, List.getElem?_cons_zero]; exact rfl) (by kernel_rfl) (by kernel_rfl) (by kernel_rfl) (by intro _ _ _ h; exact h) (Or.inl ⟨by rfl, ?y101⟩) hHeld ?_
      case y101 => (intro w hSw; (try dsimp only at hSw); go_simp; try (with_reducible rfl))
      try simp only [Act.put, List.setIfInBounds_toArray, List.set_cons_zero, List.set_cons_succ]
      refine wpAnyH_take (i := 7) (v := ?v102) (by simp only [List.getElem?_toArray, List.getElem?_cons_succ, List.getElem?_cons_zero]; exact rfl) (by kernel_rfl) (by kernel_rfl) (by kernel_rfl) (by intro _ _ _ h; exact h) (Or.inl ⟨by rfl, ?y102⟩) hHeld ?_
      case y102 => (intro w hSw; (try dsimp only at hSw); go_simp; try (with_reducible rfl))
      try simp only [Act.put, List.setIfInBounds_toArray, List.set_cons_zero, List.set_cons_succ]
      refine wpAnyH_take (i := 8) (v := ?v103) (by simp only [List.getElem?_toArray, List.getElem?_cons_succ, List.getElem?_cons_zero]; exact rfl) (by kernel_rfl) (by kernel_rfl) (by kernel_rfl) (by intro _ _ _ h; exact h) (Or.inl ⟨by rfl, ?y103⟩) hHeld ?_
      case y103 => (intro w hSw; (try dsimp only at hSw); go_simp; try (with_reducible rfl))
      try simp only [Act.put, List.setIfInBounds_toArray, List.set_cons_zero, List.set_cons_succ]
      refine wpAnyH_take (i := 9) (v := ?v104) (by simp only [List.getElem?_toArray, List.getElem?_cons_succ, List.getElem?_cons_zero]; exact rfl) (by kernel_rfl) (by kernel_rfl) (by kernel_rfl) (by intro _ _ _ h; exact h) (Or.inl ⟨by rfl, ?y104⟩) hHeld ?_
      case y104 => (intro w hSw; (try dsimp only at hSw); go_simp; try (with_reducible rfl))
      try simp only [Act.put, List.setIfInBounds_toArray, List.set_cons_zero, List.set_cons_succ]
      refine wpAnyH_take (i := 10) (v := ?v105) (by simp only [List.getElem?_toArray, List.getElem?_cons_succ, List.getElem?_cons_zero]; exact rfl) (by kernel_rfl) (by kernel_rfl) (by kernel_rfl) (by intro _ _ _ h; exact h) (Or.inl ⟨by rfl, ?y105⟩) hHeld ?_
      case y105 => (intro w hSw; (try dsimp only at hSw); go_simp; try (with_reducible rfl))
      try simp only [Act.put, List.setIfInBounds_toArray, List.set_cons_zero, List.set_cons_succ]
      refine wpAnyH_take (i := 11) (v := ?v106) (by simp only [List.getElem?_toArray, List.getElem?_cons_succ, List.getElem?_cons_zero]; exact rfl) (by kernel_rfl) (by kernel_rfl) (by kernel_rfl) (by intro _ _ _ h; exact h) (Or.inl ⟨by rfl, ?y106⟩) hHeld ?_
      case y106 => (intro w hSw; (try dsimp only at hSw); go_simp; try (with_reducible rfl))
      try simp only [Act.put, List.setIfInBounds_toArray, List.set_cons_zero, List.set_cons_succ]
      refine wpAnyH_take (i := 12) (v := ?v107) (by simp only [List.getElem?_toArray, List.getElem?_cons_succ, List.getElem?_cons_zero]; exact rfl) (by kernel_rfl) (by kernel_rfl) (by kernel_rfl) (by intro _ _ _ h; exact h) (Or.inl ⟨by rfl, ?y107⟩) hHeld ?_
      case y107 => (intro w hSw; (try dsimp only at hSw); go_simp; try (with_reducible rfl))
      try simp only [Act.put, List.setIfInBounds_toArray, List.set_cons_zero, List.set_cons_succ]
      refine wpAnyH_take (i := 13) (v := ?v108) (by simp only [List.getElem?_toArray, List.getElem?_cons_succ, List.getElem?_cons_zero]; exact rfl) (by kernel_rfl) (by kernel_rfl) (by kernel_rfl) (by intro _ _ _ h; exact h) (Or.inl ⟨by rfl, ?y108⟩) hHeld ?_
      case y108 => (intro w hSw; (try dsimp only at hSw); go_simp; try (with_reducible rfl))
      try simp only [Act.put, List.setIfInBounds_toArray, List.set_cons_zero, List.set_cons_succ]
      refine wpAnyH_take (i := 14) (v := ?v109) (by simp only [List.getElem?_toArray, List.getElem?_cons_succ, List.getElem?_cons_zero]; exact rfl) (by kernel_rfl) (by kernel_rfl) (by kernel_rfl) (by intro _ _ _ h; exact h) (Or.inl ⟨by rfl, ?y109⟩) hHeld ?_
      case y109 => (intro w hSw; (try dsimp only at hSw); go_simp; try (with_reducible rfl))
      try simp only [Act.put, List.setIfInBounds_toArray, List.set_cons_zero, List.set_cons_succ]
      refine wpAnyH_ready (rs := [15]) (by kernel_rfl) (by simp) ?_
      refine AllReadyH.cons (by simp only [List.getElem?_toArray, List.getElem?_cons_succ, List.getElem?_cons_zero]; exact rfl) (fun K hK => ?_) AllReadyH.nil
      go_simp
      refine (hdt _ hqd).mono ?_
      rintro e wn ⟨rfl, rfl⟩
      try dsimp only
      refine hK.out _ _ ?h111 (fun hHeld => ?_)
      case h111 => first | exact ⟨‹_›, ‹_›⟩ | assumption | (simp [*, go_sem])
      clear hK K
      try simp only [Act.put, List.setIfInBounds_toArray, List.set_cons_zero, List.set_cons_succ]
      refine wpAnyH_take (i := 16) (v := ?v112) (by simp only [List.getElem?_toArray, List.getElem?_cons_succ, List.getElem?_cons_zero]; exact rfl) (by kernel_rfl) (by kernel_rfl) (by kernel_rfl) (by intro _ _ _ h; exact h) (Or.inl ⟨by rfl, ?y112⟩) hHeld ?_
      case y112 => (intro w hSw; (try dsimp only at hSw); go_simp; try (with_reducible rfl))
      try simp only [Act.put, List.setIfInBounds_toArray, List.set_cons_zero, List.set_cons_succ]
      refine wpAnyH_done (by kernel_rfl) ?_ _
      go_wp2
      go_roundw
      case rel => exact ⟨j + 1, by omega, by go_num, HN, hqd, d0⟩
      case measure => simp [intOf]; omega
set_option maxRecDepth 100000 in
set_option maxHeartbeats 8000000 in
theorem goodHubs_any {S S' : Nat → Prop} {v u : Value} {g : List (List Int)} {xs : List Int} {k : Int} {w : World} (hg : g.length ≤ 16) (hv : SlR S w v g) (hu : SlI S' w .i64 u xs) :
    Calls Try.prog 39 #[.agg #[v], .int .i64 k, u] w fun e w' => e = .returned (.bool (hubsB g.length k xs)) ∧ Below w.heap.size w w' := by
  have ha := side1_le k
  have hb := side2_le k
  have hsd := sides_impl k
  have hub := fun (W : World) (hb : Below w.heap.size w W) => hu.below hb (Nat.le_refl _)
  have F0 := Lib.hid (show xs.length ≠ side1 k + side2 k → hubsB g.length k xs = false from fun h => hubs_false fun hp => h hp.len)
  have F1 := Lib.hid (show ¬ Rise (xs.take (side1 k)) g.length → hubsB g.length k xs = false from fun h => hubs_false fun hp => h hp.rise1)
  have F2 := Lib.hid (show ¬ Rise (xs.drop (side1 k)) g.length → hubsB g.length k xs = false from fun h => hubs_false fun hp => h hp.rise2)
  have F3 := Lib.hid (show k = 2 → ¬ (xs.getD 0 0 < xs.getD 3 0) → hubsB g.length k xs = false from fun e h => hubs_false fun hp => h (hp.first e))
  have F4 := Lib.hid (show ¬ xs.Nodup → hubsB g.length k xs = false from fun h => hubs_false fun hp => h hp.nodup)
  have F5 := Lib.hid (show side1 k ≠ 0 → xs.length = side1 k + side2 k → Rise (xs.take (side1 k)) g.length → Rise (xs.drop (side1 k)) g.length → xs.Nodup → (k = 2 → xs.getD 0 0 < xs.getD 3 0) → hubsB g.length k xs = true from fun h1 h2 h3 h4 h5 h6 => hubs_true (.of h1 h2 h3 h4 h5 h6))
  have E0 := Lib.hid (show side1 k = 0 → hubsB g.length k xs = false from fun h => hubs_false fun hp => hp.some h)
  have K2 := Lib.hid (show k = 2 → side1 k = 3 ∧ side2 k = 3 from fun e => by subst e; exact ⟨rfl, rfl⟩)
  generalize side1 k = a at *
  generalize side2 k = b at *
  obtain ⟨ga, gc, rfl⟩ := hv.slice
  have hu' := hu
  obtain ⟨ua, ub, uo, uc, rfl, hul, hua, hut⟩ := hu
  have hq0 : Below w.heap.size w (w.alloc (.cells #[.slice ga g.length gc] 31)) := (Below.refl _ _).alloc (Nat.le_refl _) _
  by_cases h0 : a = 0
  · subst h0
    have HE := Lib.hid (E0.out rfl)
    clear E0 F0 F1 F2 F3 F4 F5 K2 hub
    go_enter Try.func39, Try.ntmps39
    go_wp2_with (go_at_call 69; refine (hsd _).mono ?_; rintro e w' ⟨rfl, rfl⟩)
    go_ret
    exact ⟨ret_bool HE.out.symm, hq0⟩
  have hx1 : ((a : Int) == 0) = false := by rw [beq_eq_false_iff_ne]; omega
  have hx2 : (a == 0) = false := by rw [beq_eq_false_iff_ne]; exact h0
  have H0 := Lib.hid h0
  clear h0
  have hw1 : IntKind.i64.wrap ((a : Int) + (b : Int)) = (a : Int) + (b : Int) := IntWalk.i64_in _ (by omega)
  by_cases hlen : xs.length = a + b
  case neg =>
    have HE := Lib.hid (F0.out hlen)
    have hn1 : ((xs.length : Int) != (a : Int) + (b : Int)) = true := by rw [bne_iff_ne]; omega
    have hn2 : (xs.length != a + b) = true := by rw [bne_iff_ne]; exact hlen
    clear E0 F0 F1 F2 F3 F4 F5 K2 hub hlen
    go_enter Try.func39, Try.ntmps39
    go_wp2_with (go_at_call 69; refine (hsd _).mono ?_; rintro e w' ⟨rfl, rfl⟩)
    go_ret
    exact ⟨ret_bool HE.out.symm, hq0⟩
  have hn1 : ((xs.length : Int) != (a : Int) + (b : Int)) = false := by rw [bne_eq_false_iff_eq]; omega
  have hn2 : (xs.length != a + b) = false := by rw [bne_eq_false_iff_eq]; exact hlen
  have hal : a ≤ xs.length := by omega
  have hac : a ≤ uc := by omega
  have hpos : 0 < xs.length := by have := H0.out; omega
  have HL := Lib.hid hlen
  clear hlen
  obtain ⟨rfl, -⟩ := hua hpos
  have hut1 := hu'.take (m := a) hal
  have hut2 := hu'.dropS (m := a) hal
  obtain ⟨ad, had⟩ : ∃ ad : Option Addr, (if uc = a then some (⟨ub, uo, none⟩ : Addr) else some ⟨ub, uo + a, none⟩) = ad := ⟨_, rfl⟩
  rw [had] at hut2
  have hr1 := increasing_any _ _ (g.length : Int) (w.alloc (.cells #[.slice ga g.length gc] 31)) (hut1.below hq0 (Nat.le_refl _)) (by omega) (by omega)
  by_cases hi1 : Rise (xs.take a) g.length
  case neg =>
    have HE := Lib.hid (F1.out hi1)
    rw [riseB_false hi1] at hr1
    clear E0 F0 F1 F2 F3 F4 F5 K2 hub hi1 hut1 hut2
    go_enter Try.func39, Try.ntmps39
    go_wp2_with (first | (go_at_call 69; refine (hsd _).mono ?_; rintro e w' ⟨rfl, rfl⟩) | (go_at_call 67; (with_reducible refine hr1.mono ?_); rintro e w' ⟨rfl, rfl⟩))
    go_ret
    exact ⟨ret_bool HE.out.symm, hq0⟩
  rw [riseB_true hi1] at hr1
  have HI1 := Lib.hid hi1
  clear hi1
  have hr2 := increasing_any _ _ (g.length : Int) (w.alloc (.cells #[.slice ga g.length gc] 31)) (hut2.below hq0 (Nat.le_refl _)) (by omega) (by omega)
  by_cases hi2 : Rise (xs.drop a) g.length
  case neg =>
    have HE := Lib.hid (F2.out hi2)
    rw [riseB_false hi2] at hr2
    clear E0 F0 F1 F2 F3 F4 F5 K2 hub hi2 hut1 hut2
    go_enter Try.func39, Try.ntmps39
    go_wp2_with (first | (go_at_call 69; refine (hsd _).mono ?_; rintro e w' ⟨rfl, rfl⟩) | (go_at_call 67; (with_reducible refine hr1.mono ?_); rintro e w' ⟨rfl, rfl⟩) | (go_at_call 67; (with_reducible refine hr2.mono ?_); rintro e w' ⟨rfl, rfl⟩))
    go_ret
    exact ⟨ret_bool HE.out.symm, hq0⟩
  rw [riseB_true hi2] at hr2
  have HI2 := Lib.hid hi2
  clear hi2
  have hrg := rise_range HI1.out HI2.out
  have h32 : ∀ x ∈ xs, 0 ≤ x ∧ x < 32 := fun x hx => by have := hrg x hx; omega
  have hmk := fun (n : Nat) => quiet_same (maskOf_any _ _ ((w.alloc (.cells #[.slice ga g.length gc] 31)).drewN n) ((hu'.below hq0 (Nat.le_refl _)).drewN n) h32)
  have hm16 : maskL xs < 65536 := maskL_lt16 fun x hx => by have := hrg x hx; omega
  have hsz := fun (n : Nat) => quiet_drawn (size_any (maskL xs) ((w.alloc (.cells #[.slice ga g.length gc] 31)).drewN n) hm16)
  have hmz := mask_size h32
  have hms : (bitsI (maskL xs)).length ≤ 32 := bitsI_len _
  clear h32 hrg hm16
  generalize maskL xs = m at *
  generalize (bitsI m).length = bl at *
  by_cases hnd : xs.Nodup
  case neg =>
    have HE := Lib.hid (F4.out hnd)
    have hb1 : ((bl : Int) == xs.length) = false := by rw [beq_eq_false_iff_ne]; intro e; exact hnd (hmz.1 (by omega))
    have hb2 : (bl == xs.length) = false := by rw [beq_eq_false_iff_ne]; intro e; exact hnd (hmz.1 e)
    clear E0 F0 F1 F2 F3 F4 F5 K2 hub hnd hmz hut1 hut2
    go_enter Try.func39, Try.ntmps39
    go_wp2_with (first | (go_at_call 69; refine (hsd _).mono ?_; rintro e w' ⟨rfl, rfl⟩) | (go_at_call 67; (with_reducible refine hr1.mono ?_); rintro e w' ⟨rfl, rfl⟩) | (go_at_call 67; (with_reducible refine hr2.mono ?_); rintro e w' ⟨rfl, rfl⟩))
    go_quiet (first | (go_at_call 41; exact hmk _) | (go_at_call 70; exact hsz _))
    go_wp2
    go_ret
    exact ⟨ret_bool HE.out.symm, hq0.drewN' _⟩
  have hb1 : ((bl : Int) == xs.length) = true := by rw [beq_iff_eq]; have := hmz.2 hnd; omega
  have hb2 : (bl == xs.length) = true := by rw [beq_iff_eq]; exact hmz.2 hnd
  have HND := Lib.hid hnd
  clear hnd hmz hut1 hut2
  by_cases hk : k = 2
  case neg =>
    have HE := Lib.hid (F5.out H0.out HL.out HI1.out HI2.out HND.out (fun e => absurd e hk))
    have hk' : (k != 2) = true := by rw [bne_iff_ne]; exact hk
    clear E0 F0 F1 F2 F3 F4 F5 K2 hub hk
    go_enter Try.func39, Try.ntmps39
    go_wp2_with (first | (go_at_call 69; refine (hsd _).mono ?_; rintro e w' ⟨rfl, rfl⟩) | (go_at_call 67; (with_reducible refine hr1.mono ?_); rintro e w' ⟨rfl, rfl⟩) | (go_at_call 67; (with_reducible refine hr2.mono ?_); rintro e w' ⟨rfl, rfl⟩))
    go_quiet (first | (go_at_call 41; exact hmk _) | (go_at_call 70; exact hsz _))
    go_wp2
    go_ret
    exact ⟨ret_bool HE.out.symm, hq0.drewN' _⟩
  have h6 : xs.length = 6 := by have h1 := (K2.out hk).1; have h2 := (K2.out hk).2; have := HL.out; omega
  have hk' : (k != 2) = false := by rw [bne_eq_false_iff_eq]; exact hk
  have c0 : w.cell? ⟨ub, uo, none⟩ = some (.int .i64 (xs.getD 0 0)) := by have := hut 0 (by omega); rw [Nat.add_zero] at this; rw [getD_get (by omega)]; exact this
  have c3 : w.cell? ⟨ub, uo + 3, none⟩ = some (.int .i64 (xs.getD 3 0)) := by rw [getD_get (by omega)]; exact hut 3 (by omega)
  have d0 := (hq0.cell (cell_lt c0)).trans c0
  have d3 := (hq0.cell (cell_lt c3)).trans c3
  have l3 : (3 : Int) < xs.length := by omega
  have l0 : (0 : Int) < xs.length := by omega
  have l3' : 3 < xs.length := by omega
  have HE : RowKit.Hid (hubsB g.length k xs = decide (xs.getD 0 0 < xs.getD 3 0)) := Lib.hid (by
    by_cases h : xs.getD 0 0 < xs.getD 3 0
    · rw [decide_eq_true h, F5.out H0.out HL.out HI1.out HI2.out HND.out (fun _ => h)]
    · rw [decide_eq_false h, F3.out hk h])
  clear E0 F0 F1 F2 F3 F4 F5 K2 hub h6 hk
  generalize xs.getD 3 0 = x3 at *
  generalize xs.getD 0 0 = x0 at *
  go_enter Try.func39, Try.ntmps39
  go_wp2_with (first | (go_at_call 69; refine (hsd _).mono ?_; rintro e w' ⟨rfl, rfl⟩) | (go_at_call 67; (with_reducible refine hr1.mono ?_); rintro e w' ⟨rfl, rfl⟩) | (go_at_call 67; (with_reducible refine hr2.mono ?_); rintro e w' ⟨rfl, rfl⟩))
  go_quiet (first | (go_at_call 41; exact hmk _) | (go_at_call 70; exact hsz _))
  go_wp2
  go_ret
  exact ⟨ret_bool HE.out.symm, hq0.drewN' _⟩
end Go.Proofs.Ytplohdnakllbiaa
