/- Symmetries: how many complete paths there are; the reference's count. -/
import Derived.Test.YtplohdnakllbiaaFit7
namespace Go.Proofs.Ytplohdnakllbiaa
open Go.RowKit
def sumV (f : Nat → Nat) (l : List Nat) : Nat := (l.map f).sum
theorem sumV_snoc (f : Nat → Nat) (l : List Nat) (a : Nat) : sumV f (l ++ [a]) = sumV f l + f a := by simp [sumV]
def cntN (H Q : List Nat) : Nat → List Nat → Nat
  | 0, _ => 1
  | d + 1, q => sumV (fun v => if okB H Q q v = true then cntN H Q d (q ++ [v]) else 0) (List.range H.length)
theorem sumV_le {f : Nat → Nat} {m : Nat} (l : List Nat) (h : ∀ v ∈ l, f v ≤ m) : sumV f l ≤ l.length * m := by
  induction l with
  | nil => simp [sumV]
  | cons a l ih =>
    have h1 := ih (fun v hv => h v (by simp [hv]))
    have h2 := h a (by simp)
    have : sumV f (a :: l) = f a + sumV f l := by simp [sumV]
    rw [this, List.length_cons, Nat.succ_mul]; omega
theorem cntN_le (H Q : List Nat) : ∀ (d : Nat) (q : List Nat), cntN H Q d q ≤ H.length ^ d
  | 0, _ => by simp [cntN]
  | d + 1, q => by
    rw [cntN, Nat.pow_succ, Nat.mul_comm]
    have := sumV_le (f := fun v => if okB H Q q v = true then cntN H Q d (q ++ [v]) else 0) (m := H.length ^ d) (List.range H.length) (fun v _ => by
      split
      · exact cntN_le H Q d _
      · exact Nat.zero_le _)
    simpa using this
theorem pow_small {n d : Nat} (hn : n ≤ 8) (hd : d ≤ 8) : n ^ d ≤ 16777216 := by
  have h1 : n ^ d ≤ 8 ^ d := Nat.pow_le_pow_left hn d
  have h2 : 8 ^ d ≤ 8 ^ 8 := Nat.pow_le_pow_right (by decide) hd
  have h3 : 8 ^ 8 = 16777216 := by decide
  omega
def symEf (_ : List Nat) (s : Int) : Int × Bool := (IntKind.i64.wrap (s + 1), false)
theorem srch_sym (H Q : List Nat) : ∀ (d : Nat) (q : List Nat) (s : Int), 0 ≤ s → s + (H.length ^ d : Nat) ≤ 4611686018427387904 → srchF H Q symEf d q s = (s + cntN H Q d q, false)
  | 0, q, s, h0, h1 => by
    rw [srchF, symEf, IntWalk.i64_in _ (by simp at h1; omega), cntN]; rfl
  | d + 1, q, s, h0, h1 => by
    rw [srchF, cntN]
    have hpow : H.length ^ (d + 1) = H.length * H.length ^ d := by rw [Nat.pow_succ, Nat.mul_comm]
    have key : ∀ (l : List Nat) (s : Int), 0 ≤ s → s + (l.length * H.length ^ d : Nat) ≤ 4611686018427387904 →
        loopS (fun v s => if okB H Q q v = true then srchF H Q symEf d (q ++ [v]) s else (s, false)) l s = (s + sumV (fun v => if okB H Q q v = true then cntN H Q d (q ++ [v]) else 0) l, false) := by
      intro l
      induction l with
      | nil => intro s _ _; simp [loopS, sumV]
      | cons v l ih =>
        intro s hs hb
        have e1 : sumV (fun v => if okB H Q q v = true then cntN H Q d (q ++ [v]) else 0) (v :: l) = (if okB H Q q v = true then cntN H Q d (q ++ [v]) else 0) + sumV (fun v => if okB H Q q v = true then cntN H Q d (q ++ [v]) else 0) l := by simp [sumV]
        rw [List.length_cons, Nat.succ_mul] at hb
        have hc := cntN_le H Q d (q ++ [v])
        rw [loopS, e1]
        by_cases hok : okB H Q q v = true
        · simp only [hok, if_true]
          rw [srch_sym H Q d (q ++ [v]) s hs (by omega)]
          simp only [Bool.false_eq_true, if_false]
          rw [ih _ (by omega) (by omega)]
          congr 1; omega
        · simp only [hok, if_false, Bool.false_eq_true]
          rw [ih _ hs (by omega)]
          congr 1; omega
    exact key _ s h0 (by rw [List.length_range, ← hpow]; exact h1)
/-- The sum over the first vertices. -/
def sumTo (g : List (List Int)) (d : Nat) (q : List Nat) (k : Nat) : Nat := sumV (fun v => if okB (netsL g) (netsL g) q v = true then cntN (netsL g) (netsL g) d (q ++ [v]) else 0) (List.range k)
theorem sumTo_succ (g : List (List Int)) (d : Nat) (q : List Nat) (k : Nat) : sumTo g d q (k + 1) = sumTo g d q k + if okB (netsL g) (netsL g) q k = true then cntN (netsL g) (netsL g) d (q ++ [k]) else 0 := by
  unfold sumTo; rw [List.range_succ, sumV_snoc]
theorem sumTo_all (g : List (List Int)) (d : Nat) (q : List Nat) : cntN (netsL g) (netsL g) (d + 1) q = sumTo g d q g.length := by rw [cntN, netsL_len]; rfl
theorem sumTo_le (g : List (List Int)) (d : Nat) (q : List Nat) (k : Nat) (hk : k ≤ g.length) : sumTo g d q k ≤ g.length ^ (d + 1) := by
  have := sumV_le (f := fun v => if okB (netsL g) (netsL g) q v = true then cntN (netsL g) (netsL g) d (q ++ [v]) else 0) (m := g.length ^ d) (List.range k) (fun v _ => by
    split
    · have := cntN_le (netsL g) (netsL g) d (q ++ [v]); rwa [netsL_len] at this
    · exact Nat.zero_le _)
  rw [List.length_range] at this
  rw [Nat.pow_succ, Nat.mul_comm]
  exact Nat.le_trans this (Nat.mul_le_mul_right _ hk)
set_option maxHeartbeats 8000000 in
theorem l4Count_any {S : Nat → Prop} {gv : Value} {g : List (List Int)} (hg : GOk g) (hg8 : g.length ≤ 8) :
    ∀ (d : Nat) (q : List Nat) (u : Value) (w : World), SlR S w gv g → SlI (fun _ => True) w .i64 u (natsI q) → q.length + d = g.length → GP g.length q →
      Calls Try.prog 59 #[.agg #[gv], u] w fun e w' => e = .returned (.int .i64 (cntN (netsL g) (netsL g) d q : Int)) ∧ Below w.heap.size w w' := by
  intro d
  induction d with
  | zero =>
    intro q u w hvg hu hl hgp
    have hq0 : Below w.heap.size w (w.alloc (.cells #[gv] 31)) := (Below.refl _ _).alloc (Nat.le_refl _) _
    obtain ⟨ga, gc, rfl⟩ := hvg.slice
    obtain ⟨ua, uc, rfl⟩ := hu.slice
    have heb : ((((natsI q).length : Nat) : Int) == (g.length : Int)) = true := by rw [natsI_len, beq_iff_eq]; omega
    have hebn : ((natsI q).length == g.length) = true := by rw [natsI_len, beq_iff_eq]; omega
    have HE := Lib.hid (show cntN (netsL g) (netsL g) 0 q = 1 from rfl); clear hl
    go_enter Try.func59, Try.ntmps59
    go_wp2_with (go_at_call 60; (with_reducible refine (l1Size_any (hvg.below hq0 (Nat.le_refl _))).mono ?_); rintro e w1 ⟨rfl, hb1⟩)
    go_ret
    exact ⟨ret_int (by rw [HE.out]; rfl), hq0.trans (hb1.mono hq0.size)⟩
  | succ d ih =>
    intro q u w hvg hu hl hgp
    have hq0 : Below w.heap.size w (w.alloc (.cells #[gv] 31)) := (Below.refl _ _).alloc (Nat.le_refl _) _
    obtain ⟨ga, gc, rfl⟩ := hvg.slice
    obtain ⟨ua, uc, rfl⟩ := hu.slice
    simp only [natsI_len] at hu ⊢
    have hplt : q.length < g.length := by omega
    have heb : (((q.length : Nat) : Int) == (g.length : Int)) = false := by rw [beq_eq_false_iff_ne]; omega
    have hebn : (q.length == g.length) = false := by rw [beq_eq_false_iff_ne]; omega
    have hd8 : d + 1 ≤ 8 := by omega
    have hpw := pow_small hg8 hd8
    have HPD := Lib.hid hl; clear hl
    have HPW := Lib.hid hpw; clear hpw
    go_enter Try.func59, Try.ntmps59
    go_wp2_with (go_at_call 60; (with_reducible refine (l1Size_any (hvg.below hq0 (Nat.le_refl _))).mono ?_); rintro e w1 ⟨rfl, hb1⟩)
    have hq1 := hq0.trans (hb1.mono hq0.size)
    have c3 : w1.cell? ⟨w.heap.size, 0, none⟩ = some (.slice ga g.length gc) := (hb1.cell (p := ⟨w.heap.size, 0, none⟩) (by simp)).trans (by simp [go_sem])
    go_loopw [6, 7] (fun m i wr => ∃ k : Nat, k ≤ g.length ∧ i = .int .i64 k ∧ m = .int .i64 (sumTo g d q k : Int) ∧ Below w.heap.size w wr ∧ wr.cell? ⟨w.heap.size, 0, none⟩ = some (.slice ga g.length gc)) (fun _ i _ => g.length - (intOf i).toNat)
    case atStart => exact ⟨0, Nat.zero_le _, rfl, by simp [sumTo, sumV], hq1, c3⟩
    case round =>
      clear hb1 hq1 c3
      obtain ⟨k, hk, rfl, rfl, hqc, c3⟩ := hrel
      obtain ⟨wc, rfl⟩ : ∃ wc : World, wc = wr := ⟨_, rfl⟩
      by_cases hlt : k < g.length
      case neg =>
        obtain rfl : k = g.length := by omega
        have HE := Lib.hid (sumTo_all g d q)
        go_wp2_with (go_at_call 60; (with_reducible refine (l1Size_any (hvg.below hqc (Nat.le_refl _))).mono ?_); rintro e w1 ⟨rfl, hb1⟩)
        go_ret
        exact ⟨ret_int (by rw [HE.out]), hqc.trans (hb1.mono hqc.size)⟩
      have hok := okG_eq hg hg hgp.1 hplt hlt
      have HOK := Lib.hid hok; clear hok
      have hdn := decide_natsI (q := q) (v := k)
      have HSU := Lib.hid (sumTo_succ g d q k)
      have hle1 := sumTo_le g d q k hk
      have hle2 := HPW.out
      have hle3 : sumTo g d q k ≤ 16777216 := by omega
      clear hle1 hle2
      generalize hsm : sumTo g d q k = sm at *
      have HSM := Lib.hid hsm; clear hsm
      go_wp2_with (first
        | (go_at_call 60; (with_reducible refine (l1Size_any (hvg.below hqc (Nat.le_refl _))).mono ?_); rintro e wc ⟨rfl, hb1⟩; have hqc := hqc.trans (hb1.mono hqc.size); have c3 := (hb1.cell (cell_lt c3)).trans c3)
        | (go_at_call 35; (with_reducible refine (l1Has_any _ _ _ _ (hu.below hqc (Nat.le_refl _))).mono ?_); rintro e w' ⟨rfl, rfl⟩))
      clear hdn
      have h0 := Lib.hid (show (!decide (k ∈ q)) = (!decide (k ∈ q) && okGTo g g q k 0) by simp [okGTo])
      rw [h0.out]
      go_loopw [8, 9] (fun f j ws => ∃ r : Nat, r ≤ q.length ∧ j = .int .i64 r ∧ f = .bool (!decide (k ∈ q) && okGTo g g q k r) ∧ Below w.heap.size w ws ∧ ws.cell? ⟨w.heap.size, 0, none⟩ = some (.slice ga g.length gc)) (fun _ j _ => q.length - (intOf j).toNat)
      case atStart => exact ⟨0, Nat.zero_le _, rfl, rfl, hqc, c3⟩
      case round =>
        clear hb1 hqc c3
        obtain ⟨r, hr, rfl, rfl, hqc, c3⟩ := hrel
        obtain ⟨wc, rfl⟩ : ∃ wc : World, wc = wr := ⟨_, rfl⟩
        by_cases hf : (!decide (k ∈ q) && okGTo g g q k r) = true
        case neg =>
          have hf' : (!decide (k ∈ q) && okGTo g g q k r) = false := by simpa using hf
          have hok : okB (netsL g) (netsL g) q k = false := by
            rw [← HOK.out]
            cases hd : (!decide (k ∈ q)) with
            | false => rfl
            | true => rw [hd, Bool.true_and] at hf'; rw [Bool.true_and, okGTo_mono hf' hr]
          have hs := HSU.out
          rw [hok] at hs
          simp only [Bool.false_eq_true, if_false, Nat.add_zero] at hs
          have HS := Lib.hid hs; clear hs hok hf
          rw [hf']
          clear hf'
          by_cases hrl : r < q.length
          · have hb1 : decide ((r : Int) < (q.length : Int)) = true := by simp; omega
            have hb2 : decide (r < q.length) = true := by simpa using hrl
            go_wp2
            go_roundw
            case rel => exact ⟨k + 1, by omega, by go_num, by rw [HS.out], hqc, c3⟩
            case measure => simp [intOf]; omega
          · have hb1 : decide ((r : Int) < (q.length : Int)) = false := by simp; omega
            have hb2 : decide (r < q.length) = false := by simpa using hrl
            go_wp2
            go_roundw
            case rel => exact ⟨k + 1, by omega, by go_num, by rw [HS.out], hqc, c3⟩
            case measure => simp [intOf]; omega
        have hfd := hf
        rw [Bool.and_eq_true] at hfd
        rw [hf]
        by_cases hrl : r < q.length
        · have hqx : ∃ x : Nat, q.getD r 0 = x ∧ x < g.length := ⟨_, rfl, by
            have : q.getD r 0 = q[r] := by simp [hrl]
            rw [this]; exact hgp.1 _ (List.getElem_mem _)⟩
          obtain ⟨x, hx, hxg⟩ := hqx
          obtain ⟨ub, uo, ucap, hue, huc⟩ := (hu.below hqc (Nat.le_refl _)).at_
          have hue := hue (by rw [natsI_len]; omega)
          simp only [Value.slice.injEq] at hue
          obtain ⟨rfl, -, -⟩ := hue
          have e2 : wc.cell? ⟨ub, uo + r, none⟩ = some (.int .i64 (x : Int)) := by
            have := huc r (by rw [natsI_len]; exact hrl)
            rw [this, natsI_get, ← hx]; simp [hrl]
          clear huc
          have hsu := okGTo_succ g g q k r
          rw [hfd.2, Bool.true_and, hx] at hsu
          have HSU2 := Lib.hid (show (!decide (k ∈ q) && okGTo g g q k (r + 1)) = _ from by rw [hsu, hfd.1, Bool.true_and])
          have hb1 : decide ((r : Int) < (q.length : Int)) = true := by simp; omega
          have hb2 : decide (r < q.length) = true := by simpa using hrl
          clear hsu hf hfd hx
          generalize hA : decide ((q.length : Int) ∈ g.getD r []) = bA at HSU2
          generalize hC : decide ((k : Int) ∈ g.getD x []) = bC at HSU2
          have HA := Lib.hid hA; have HC := Lib.hid hC; clear hA hC
          have hrx : r < g.length := by omega
          go_wp2
          refine wp_region_held_drew (S := (fun w' => w'.cell? ⟨w.heap.size, 0, none⟩ = some (.slice ga g.length gc) ∧ w'.cell? ⟨ub, uo + r, none⟩ = some (.int .i64 (x : Int)))) (by kernel_rfl) ?_ (fun hHeld => ?_)
          · first | exact ⟨‹_›, ‹_›⟩ | (simp [*, go_sem])
          have hqc := hqc.drew
          generalize wc.drew = wd at hqc hHeld ⊢
          obtain ⟨c3, e2⟩ := hHeld
          have hHeld : (fun w' => World.cell? w' ⟨w.heap.size, 0, none⟩ = some (.slice ga g.length gc) ∧ World.cell? w' ⟨ub, uo + r, none⟩ = some (.int .i64 (x : Int))) wd := ⟨c3, e2⟩
          refine wpAnyH_take (i := 0) (v := ?v1) (by simp only [List.getElem?_toArray, List.getElem?_cons_zero]; exact rfl) (by kernel_rfl) (by kernel_rfl) (by kernel_rfl) (by intro _ _ _ h; exact h) (Or.inl ⟨by rfl, ?y1⟩) hHeld ?_
          case y1 => (intro w hSw; (try dsimp only at hSw); go_simp; try (with_reducible rfl))
          try simp only [Act.put, List.setIfInBounds_toArray, List.set_cons_zero, List.set_cons_succ]
          refine wpAnyH_take (i := 1) (v := ?v2) (by simp only [List.getElem?_toArray, List.getElem?_cons_succ, List.getElem?_cons_zero]; exact rfl) (by kernel_rfl) (by kernel_rfl) (by kernel_rfl) (by intro _ _ _ h; exact h) (Or.inl ⟨by rfl, ?y2⟩) hHeld ?_
          case y2 => (intro w hSw; (try dsimp only at hSw); go_simp; try (with_reducible rfl))
          try simp only [Act.put, List.setIfInBounds_toArray, List.set_cons_zero, List.set_cons_succ]
          refine wpAnyH_take (i := 2) (v := ?v3) (by simp only [List.getElem?_toArray, List.getElem?_cons_succ, List.getElem?_cons_zero]; exact rfl) (by kernel_rfl) (by kernel_rfl) (by kernel_rfl) (by intro _ _ _ h; exact h) (Or.inl ⟨by rfl, ?y3⟩) hHeld ?_
          case y3 => (intro w hSw; (try dsimp only at hSw); go_simp; try (with_reducible rfl))
          try simp only [Act.put, List.setIfInBounds_toArray, List.set_cons_zero, List.set_cons_succ]
          refine wpAnyH_take (i := 4) (v := ?v4) (by simp only [List.getElem?_toArray, List.getElem?_cons_succ, List.getElem?_cons_zero]; exact rfl) (by kernel_rfl) (by kernel_rfl) (by kernel_rfl) (by intro _ _ _ h; exact h) (Or.inl ⟨by rfl, ?y4⟩) hHeld ?_
          case y4 => (intro w hSw; (try dsimp only at hSw); go_simp; try (with_reducible rfl))
          try simp only [Act.put, List.setIfInBounds_toArray, List.set_cons_zero, List.set_cons_succ]
          refine wpAnyH_take (i := 5) (v := ?v5) (by simp only [List.getElem?_toArray, List.getElem?_cons_succ, List.getElem?_cons_zero]; exact rfl) (by kernel_rfl) (by kernel_rfl) (by kernel_rfl) (by intro _ _ _ h; exact h) (Or.inl ⟨by rfl, ?y5⟩) hHeld ?_
          case y5 => (intro w hSw; (try dsimp only at hSw); go_simp; try (with_reducible rfl))
          try simp only [Act.put, List.setIfInBounds_toArray, List.set_cons_zero, List.set_cons_succ]
          refine wpAnyH_take (i := 6) (v := ?v6) (by simp only [List.getElem?_toArray, List.getElem?_cons_succ, List.getElem?_cons_zero]; exact rfl) (by kernel_rfl) (by kernel_rfl) (by kernel_rfl) (by intro _ _ _ h; exact h) (Or.inl ⟨by rfl, ?y6⟩) hHeld ?_
          case y6 => (intro w hSw; (try dsimp only at hSw); go_simp; try (with_reducible rfl))
          try simp only [Act.put, List.setIfInBounds_toArray, List.set_cons_zero, List.set_cons_succ]
          refine wpAnyH_take (i := 7) (v := ?v7) (by simp only [List.getElem?_toArray, List.getElem?_cons_succ, List.getElem?_cons_zero]; exact rfl) (by kernel_rfl) (by kernel_rfl) (by kernel_rfl) (by intro _ _ _ h; exact h) (Or.inl ⟨by rfl, ?y7⟩) hHeld ?_
          case y7 => (intro w hSw; (try dsimp only at hSw); go_simp; try (with_reducible rfl))
          try simp only [Act.put, List.setIfInBounds_toArray, List.set_cons_zero, List.set_cons_succ]
          refine wpAnyH_take (i := 8) (v := ?v8) (by simp only [List.getElem?_toArray, List.getElem?_cons_succ, List.getElem?_cons_zero]; exact rfl) (by kernel_rfl) (by kernel_rfl) (by kernel_rfl) (by intro _ _ _ h; exact h) (Or.inl ⟨by rfl, ?y8⟩) hHeld ?_
          case y8 => (intro w hSw; (try dsimp only at hSw); go_simp; try (with_reducible rfl))
          try simp only [Act.put, List.setIfInBounds_toArray, List.set_cons_zero, List.set_cons_succ]
          refine wpAnyH_take (i := 9) (v := ?v9) (by simp only [List.getElem?_toArray, List.getElem?_cons_succ, List.getElem?_cons_zero]; exact rfl) (by kernel_rfl) (by kernel_rfl) (by kernel_rfl) (by intro _ _ _ h; exact h) (Or.inl ⟨by rfl, ?y9⟩) hHeld ?_
          case y9 => (intro w hSw; (try dsimp only at hSw); go_simp; try (with_reducible rfl))
          try simp only [Act.put, List.setIfInBounds_toArray, List.set_cons_zero, List.set_cons_succ]
          refine wpAnyH_ready (rs := [3]) (by kernel_rfl) (by simp) ?_
          refine AllReadyH.cons (by simp only [List.getElem?_toArray, List.getElem?_cons_succ, List.getElem?_cons_zero]; exact rfl) (fun K hK => ?_) AllReadyH.nil
          go_simp
          (with_reducible refine (l1Edge_any (hvg.below hqc (Nat.le_refl _)) (u := r) (x := (q.length : Int)) hrx).mono ?_)
          rintro e wn ⟨rfl, hbn⟩
          rw [HA.out]
          have hqc := hqc.trans (hbn.mono hqc.size)
          have c3 := (hbn.cell (cell_lt c3)).trans c3
          have e2 := (hbn.cell (cell_lt e2)).trans e2
          try dsimp only
          refine hK.out _ _ ?h11 (fun hHeld => ?_)
          case h11 => first | exact ⟨‹_›, ‹_›⟩ | (simp [*, go_sem])
          clear hK K
          try simp only [Act.put, List.setIfInBounds_toArray, List.set_cons_zero, List.set_cons_succ]
          refine wpAnyH_ready (rs := [10]) (by kernel_rfl) (by simp) ?_
          refine AllReadyH.cons (by simp only [List.getElem?_toArray, List.getElem?_cons_succ, List.getElem?_cons_zero]; exact rfl) (fun K hK => ?_) AllReadyH.nil
          go_simp
          (with_reducible refine (l1Edge_any (hvg.below hqc (Nat.le_refl _)) (u := x) (x := (k : Int)) hxg).mono ?_)
          rintro e wn ⟨rfl, hbn⟩
          rw [HC.out]
          have hqc := hqc.trans (hbn.mono hqc.size)
          have c3 := (hbn.cell (cell_lt c3)).trans c3
          have e2 := (hbn.cell (cell_lt e2)).trans e2
          try dsimp only
          refine hK.out _ _ ?h13 (fun hHeld => ?_)
          case h13 => first | exact ⟨‹_›, ‹_›⟩ | (simp [*, go_sem])
          clear hK K
          try simp only [Act.put, List.setIfInBounds_toArray, List.set_cons_zero, List.set_cons_succ]
          refine wpAnyH_take (i := 11) (v := ?v14) (by simp only [List.getElem?_toArray, List.getElem?_cons_succ, List.getElem?_cons_zero]; exact rfl) (by kernel_rfl) (by kernel_rfl) (by kernel_rfl) (by intro _ _ _ h; exact h) (Or.inl ⟨by rfl, ?y14⟩) hHeld ?_
          case y14 => (intro w hSw; (try dsimp only at hSw); go_simp; try (with_reducible rfl))
          try simp only [Act.put, List.setIfInBounds_toArray, List.set_cons_zero, List.set_cons_succ]
          refine wpAnyH_take (i := 12) (v := ?v15) (by simp only [List.getElem?_toArray, List.getElem?_cons_succ, List.getElem?_cons_zero]; exact rfl) (by kernel_rfl) (by kernel_rfl) (by kernel_rfl) (by intro _ _ _ h; exact h) (Or.inl ⟨by rfl, ?y15⟩) hHeld ?_
          case y15 => (intro w hSw; (try dsimp only at hSw); go_simp; try (with_reducible rfl))
          try simp only [Act.put, List.setIfInBounds_toArray, List.set_cons_zero, List.set_cons_succ]
          refine wpAnyH_done (by kernel_rfl) ?_ _
          go_wp2
          go_roundw
          case rel => exact ⟨r + 1, by omega, by go_num, by rw [HSU2.out], hqc, c3⟩
          case measure => simp [intOf]; omega
        · obtain rfl : r = q.length := by omega
          have hok : okB (netsL g) (netsL g) q k = true := by rw [← HOK.out]; exact hf
          have hkq : ¬ k ∈ q := by simpa using hfd.1
          have hs := HSU.out
          rw [hok] at hs
          simp only [if_true] at hs
          have HS := Lib.hid hs; clear hs hok hf hfd HOK h0 HSU
          have hgp2 := Lib.hid (hgp.snoc hlt hkq)
          have hb1 : decide ((q.length : Int) < (q.length : Int)) = false := by simp
          clear hkq
          have hq16 : q.length < 16 := by omega
          go_wp2
          have hcl := cntN_le (netsL g) (netsL g) d (q ++ [k])
          have hcl2 := pow_small hg8 (show d ≤ 8 by omega)
          rw [netsL_len] at hcl
          have hcl3 : cntN (netsL g) (netsL g) d (q ++ [k]) ≤ 16777216 := by omega
          clear hcl hcl2
          apply meet4 (H := fun (_ : Value) (_ : Nat) (_ : Value) (w1 : World) => Below w.heap.size w w1 ∧ w1.cell? ⟨w.heap.size, 0, none⟩ = some (.slice ga g.length gc))
          case orders =>
            intro rest
            refine wp_region_held_drew (S := (fun w' => w'.cell? ⟨w.heap.size, 0, none⟩ = some (.slice ga g.length gc))) (by kernel_rfl) ?_ (fun hHeld => ?_)
            · first | assumption | (simp [*, go_sem])
            have hqc := hqc.drew
            generalize wc.drew = wd at hqc hHeld ⊢
            have c3 := hHeld
            refine wpAnyH_take (i := 0) (v := ?v16) (by simp only [List.getElem?_toArray, List.getElem?_cons_zero]; exact rfl) (by kernel_rfl) (by kernel_rfl) (by kernel_rfl) (by intro _ _ _ h; exact h) (Or.inl ⟨by rfl, ?y16⟩) hHeld ?_
            case y16 => (intro w hSw; (try dsimp only at hSw); go_simp; try (with_reducible rfl))
            try simp only [Act.put, List.setIfInBounds_toArray, List.set_cons_zero, List.set_cons_succ]
            refine wpAnyH_take (i := 1) (v := ?v17) (by simp only [List.getElem?_toArray, List.getElem?_cons_succ, List.getElem?_cons_zero]; exact rfl) (by kernel_rfl) (by kernel_rfl) (by kernel_rfl) (by intro _ _ _ h; exact h) (Or.inl ⟨by rfl, ?y17⟩) hHeld ?_
            case y17 => (intro w hSw; (try dsimp only at hSw); go_simp; try (with_reducible rfl))
            try simp only [Act.put, List.setIfInBounds_toArray, List.set_cons_zero, List.set_cons_succ]
            refine wpAnyH_take (i := 2) (v := ?v18) (by simp only [List.getElem?_toArray, List.getElem?_cons_succ, List.getElem?_cons_zero]; exact rfl) (by kernel_rfl) (by kernel_rfl) (by kernel_rfl) (by intro _ _ _ h; exact h) (Or.inl ⟨by rfl, ?y18⟩) hHeld ?_
            case y18 => (intro w hSw; (try dsimp only at hSw); go_simp; try (with_reducible rfl))
            try simp only [Act.put, List.setIfInBounds_toArray, List.set_cons_zero, List.set_cons_succ]
            refine wpAnyH_take (i := 4) (v := ?v19) (by simp only [List.getElem?_toArray, List.getElem?_cons_succ, List.getElem?_cons_zero]; exact rfl) (by kernel_rfl) (by kernel_rfl) (by kernel_rfl) (by intro _ _ _ h; exact h) (Or.inl ⟨by rfl, ?y19⟩) hHeld ?_
            case y19 => (intro w hSw; (try dsimp only at hSw); go_simp; try (with_reducible rfl))
            try simp only [Act.put, List.setIfInBounds_toArray, List.set_cons_zero, List.set_cons_succ]
            refine wpAnyH_ready (rs := [3, 5]) (by kernel_rfl) (by simp) ?_
            refine (AllReadyH.cons (by simp only [List.getElem?_toArray, List.getElem?_cons_succ, List.getElem?_cons_zero]; exact rfl) (fun K hK => ?b20_3) (AllReadyH.cons (by simp only [List.getElem?_toArray, List.getElem?_cons_succ, List.getElem?_cons_zero]; exact rfl) (fun K hK => ?b20_5) AllReadyH.nil))
            case b20_3 =>
              go_simp
              (with_reducible refine (l1Copy_any _ _ _ (hu.below hqc (Nat.le_refl _)) (by rw [natsI_len]; omega)).mono ?_)
              rintro e wn ⟨ux, rfl, hux, hbn⟩
              rw [natsI_len] at hux
              have hux := hux.weak (show w.heap.size + 1 ≤ _ by have := cell_lt c3; simp at this; omega)
              try (have clit := (hbn.cell (cell_lt clit)).trans clit)
              have hqc := hqc.trans (hbn.mono hqc.size)
              have c3 := (hbn.cell (cell_lt c3)).trans c3
              obtain ⟨wd, rfl⟩ : ∃ wx : World, wx = wn := ⟨_, rfl⟩
              try dsimp only
              refine hK.out _ _ ?h21 (fun hHeld => ?_)
              case h21 => first | assumption | (simp [*, go_sem])
              clear hK K
              try simp only [Act.put, List.setIfInBounds_toArray, List.set_cons_zero, List.set_cons_succ]
              refine wpAnyH_ready (rs := [5]) (by kernel_rfl) (by simp) ?_
              refine AllReadyH.cons (by simp only [List.getElem?_toArray, List.getElem?_cons_succ, List.getElem?_cons_zero]; exact rfl) (fun K hK => ?_) AllReadyH.nil
              go_simp
              have hbn : Below wd.heap.size wd (wd.alloc (.cells #[.int .i64 (k : Int)] 2)) := (Below.refl _ _).alloc (Nat.le_refl _) _
              have clit : (wd.alloc (.cells #[.int .i64 (k : Int)] 2)).cell? ⟨wd.heap.size, 0, none⟩ = some (.int .i64 (k : Int)) := by simp [go_sem]
              generalize (wd.alloc (.cells #[.int .i64 (k : Int)] 2)) = wn at hbn clit ⊢
              generalize wd.heap.size = nb at clit ⊢
              try (have hux := hux.below hbn (Nat.le_refl _))
              have hqc := hqc.trans (hbn.mono hqc.size)
              have c3 := (hbn.cell (cell_lt c3)).trans c3
              obtain ⟨wd, rfl⟩ : ∃ wx : World, wx = wn := ⟨_, rfl⟩
              try dsimp only
              refine hK.out _ _ ?h23 (fun hHeld => ?_)
              case h23 => first | assumption | (simp [*, go_sem])
              clear hK K
              try simp only [Act.put, List.setIfInBounds_toArray, List.set_cons_zero, List.set_cons_succ]
              refine wpAnyH_ready (rs := [6]) (by kernel_rfl) (by simp) ?_
              refine AllReadyH.cons (by simp only [List.getElem?_toArray, List.getElem?_cons_succ, List.getElem?_cons_zero]; exact rfl) (fun K hK => ?_) AllReadyH.nil
              rw [if_pos (by rfl)]
              have hsz2 : w.heap.size + 1 ≤ wd.heap.size := (by have := cell_lt c3; simp at this; omega)
              refine opWp_append elI64 _ _ rfl hux rfl rfl (news := [.int .i64 (k : Int)]) rfl (by intro j u hj; match j, hj with | 0, hj => (simp at hj; subst hj; simpa [Addr.add] using clit)) (by intro u hu; simp at hu; subst hu; rfl) (by omega) hsz2 ?_
              intro v' wn hown2 hgr hmv
              have hkept := KeptBut.of_grown hgr
              have c3 := (cell_heap (hkept.2.2.2.2 _ (cell_lt c3) (fun e => by have := hux.ge _ e.symm; (simp at this) <;> omega))).trans c3
              have hqc := hkept.below hqc hqc.size (fun k hk => by have := hux.ge k hk; omega)
              obtain ⟨wd, rfl⟩ : ∃ wx : World, wx = wn := ⟨_, rfl⟩
              try dsimp only
              refine hK.out _ _ ?h25 (fun hHeld => ?_)
              case h25 => first | assumption | (simp [*, go_sem])
              clear hK K
              try simp only [Act.put, List.setIfInBounds_toArray, List.set_cons_zero, List.set_cons_succ]
              refine wpAnyH_ready (rs := [7]) (by kernel_rfl) (by simp) ?_
              refine AllReadyH.cons (by simp only [List.getElem?_toArray, List.getElem?_cons_succ, List.getElem?_cons_zero]; exact rfl) (fun K hK => ?_) AllReadyH.nil
              go_simp
              have huq : SlI (fun _ => True) wd .i64 v' (natsI (q ++ [k])) := by (rw [natsI_append]; exact (Own.ints (xs := natsI q ++ [(k : Int)]) (by simpa using hown2) (by omega)).weak (fun _ _ => trivial))
              (with_reducible refine (ih (q ++ [k]) _ _ (hvg.below hqc (Nat.le_refl _)) huq (by have := HPD.out; simp; omega) hgp2.out).mono ?_)
              rintro e wn ⟨rfl, hbn⟩
              have hqc := hqc.trans (hbn.mono hqc.size)
              have c3 := (hbn.cell (cell_lt c3)).trans c3
              try dsimp only
              refine hK.out _ _ ?h27 (fun hHeld => ?_)
              case h27 => first | assumption | (simp [*, go_sem])
              clear hK K
              try simp only [Act.put, List.setIfInBounds_toArray, List.set_cons_zero, List.set_cons_succ]
              refine wpAnyH_take (i := 8) (v := ?v28) (by simp only [List.getElem?_toArray, List.getElem?_cons_succ, List.getElem?_cons_zero]; exact rfl) (by kernel_rfl) (by kernel_rfl) (by kernel_rfl) (by intro _ _ _ h; exact h) (Or.inl ⟨by rfl, ?y28⟩) hHeld ?_
              case y28 => (intro w hSw; (try dsimp only at hSw); go_simp; try (with_reducible rfl))
              try simp only [Act.put, List.setIfInBounds_toArray, List.set_cons_zero, List.set_cons_succ]
              refine wpAnyH_take (i := 9) (v := ?v29) (by simp only [List.getElem?_toArray, List.getElem?_cons_succ, List.getElem?_cons_zero]; exact rfl) (by kernel_rfl) (by kernel_rfl) (by kernel_rfl) (by intro _ _ _ h; exact h) (Or.inl ⟨by rfl, ?y29⟩) hHeld ?_
              case y29 => (intro w hSw; (try dsimp only at hSw); go_simp; try (with_reducible rfl))
              try simp only [Act.put, List.setIfInBounds_toArray, List.set_cons_zero, List.set_cons_succ]
              refine wpAnyH_done (by kernel_rfl) ?_ _
              exact rest ux nb v' wn ⟨hqc, c3⟩
            case b20_5 =>
              go_simp
              have hbn : Below wd.heap.size wd (wd.alloc (.cells #[.int .i64 (k : Int)] 2)) := (Below.refl _ _).alloc (Nat.le_refl _) _
              have clit : (wd.alloc (.cells #[.int .i64 (k : Int)] 2)).cell? ⟨wd.heap.size, 0, none⟩ = some (.int .i64 (k : Int)) := by simp [go_sem]
              generalize (wd.alloc (.cells #[.int .i64 (k : Int)] 2)) = wn at hbn clit ⊢
              generalize wd.heap.size = nb at clit ⊢
              try (have hux := hux.below hbn (Nat.le_refl _))
              have hqc := hqc.trans (hbn.mono hqc.size)
              have c3 := (hbn.cell (cell_lt c3)).trans c3
              obtain ⟨wd, rfl⟩ : ∃ wx : World, wx = wn := ⟨_, rfl⟩
              try dsimp only
              refine hK.out _ _ ?h30 (fun hHeld => ?_)
              case h30 => first | assumption | (simp [*, go_sem])
              clear hK K
              try simp only [Act.put, List.setIfInBounds_toArray, List.set_cons_zero, List.set_cons_succ]
              refine wpAnyH_ready (rs := [3]) (by kernel_rfl) (by simp) ?_
              refine AllReadyH.cons (by simp only [List.getElem?_toArray, List.getElem?_cons_succ, List.getElem?_cons_zero]; exact rfl) (fun K hK => ?_) AllReadyH.nil
              go_simp
              (with_reducible refine (l1Copy_any _ _ _ (hu.below hqc (Nat.le_refl _)) (by rw [natsI_len]; omega)).mono ?_)
              rintro e wn ⟨ux, rfl, hux, hbn⟩
              rw [natsI_len] at hux
              have hux := hux.weak (show w.heap.size + 1 ≤ _ by have := cell_lt c3; simp at this; omega)
              try (have clit := (hbn.cell (cell_lt clit)).trans clit)
              have hqc := hqc.trans (hbn.mono hqc.size)
              have c3 := (hbn.cell (cell_lt c3)).trans c3
              obtain ⟨wd, rfl⟩ : ∃ wx : World, wx = wn := ⟨_, rfl⟩
              try dsimp only
              refine hK.out _ _ ?h32 (fun hHeld => ?_)
              case h32 => first | assumption | (simp [*, go_sem])
              clear hK K
              try simp only [Act.put, List.setIfInBounds_toArray, List.set_cons_zero, List.set_cons_succ]
              refine wpAnyH_ready (rs := [6]) (by kernel_rfl) (by simp) ?_
              refine AllReadyH.cons (by simp only [List.getElem?_toArray, List.getElem?_cons_succ, List.getElem?_cons_zero]; exact rfl) (fun K hK => ?_) AllReadyH.nil
              rw [if_pos (by rfl)]
              have hsz2 : w.heap.size + 1 ≤ wd.heap.size := (by have := cell_lt c3; simp at this; omega)
              refine opWp_append elI64 _ _ rfl hux rfl rfl (news := [.int .i64 (k : Int)]) rfl (by intro j u hj; match j, hj with | 0, hj => (simp at hj; subst hj; simpa [Addr.add] using clit)) (by intro u hu; simp at hu; subst hu; rfl) (by omega) hsz2 ?_
              intro v' wn hown2 hgr hmv
              have hkept := KeptBut.of_grown hgr
              have c3 := (cell_heap (hkept.2.2.2.2 _ (cell_lt c3) (fun e => by have := hux.ge _ e.symm; (simp at this) <;> omega))).trans c3
              have hqc := hkept.below hqc hqc.size (fun k hk => by have := hux.ge k hk; omega)
              obtain ⟨wd, rfl⟩ : ∃ wx : World, wx = wn := ⟨_, rfl⟩
              try dsimp only
              refine hK.out _ _ ?h34 (fun hHeld => ?_)
              case h34 => first | assumption | (simp [*, go_sem])
              clear hK K
              try simp only [Act.put, List.setIfInBounds_toArray, List.set_cons_zero, List.set_cons_succ]
              refine wpAnyH_ready (rs := [7]) (by kernel_rfl) (by simp) ?_
              refine AllReadyH.cons (by simp only [List.getElem?_toArray, List.getElem?_cons_succ, List.getElem?_cons_zero]; exact rfl) (fun K hK => ?_) AllReadyH.nil
              go_simp
              have huq : SlI (fun _ => True) wd .i64 v' (natsI (q ++ [k])) := by (rw [natsI_append]; exact (Own.ints (xs := natsI q ++ [(k : Int)]) (by simpa using hown2) (by omega)).weak (fun _ _ => trivial))
              (with_reducible refine (ih (q ++ [k]) _ _ (hvg.below hqc (Nat.le_refl _)) huq (by have := HPD.out; simp; omega) hgp2.out).mono ?_)
              rintro e wn ⟨rfl, hbn⟩
              have hqc := hqc.trans (hbn.mono hqc.size)
              have c3 := (hbn.cell (cell_lt c3)).trans c3
              try dsimp only
              refine hK.out _ _ ?h36 (fun hHeld => ?_)
              case h36 => first | assumption | (simp [*, go_sem])
              clear hK K
              try simp only [Act.put, List.setIfInBounds_toArray, List.set_cons_zero, List.set_cons_succ]
              refine wpAnyH_take (i := 8) (v := ?v37) (by simp only [List.getElem?_toArray, List.getElem?_cons_succ, List.getElem?_cons_zero]; exact rfl) (by kernel_rfl) (by kernel_rfl) (by kernel_rfl) (by intro _ _ _ h; exact h) (Or.inl ⟨by rfl, ?y37⟩) hHeld ?_
              case y37 => (intro w hSw; (try dsimp only at hSw); go_simp; try (with_reducible rfl))
              try simp only [Act.put, List.setIfInBounds_toArray, List.set_cons_zero, List.set_cons_succ]
              refine wpAnyH_take (i := 9) (v := ?v38) (by simp only [List.getElem?_toArray, List.getElem?_cons_succ, List.getElem?_cons_zero]; exact rfl) (by kernel_rfl) (by kernel_rfl) (by kernel_rfl) (by intro _ _ _ h; exact h) (Or.inl ⟨by rfl, ?y38⟩) hHeld ?_
              case y38 => (intro w hSw; (try dsimp only at hSw); go_simp; try (with_reducible rfl))
              try simp only [Act.put, List.setIfInBounds_toArray, List.set_cons_zero, List.set_cons_succ]
              refine wpAnyH_done (by kernel_rfl) ?_ _
              exact rest ux nb v' wn ⟨hqc, c3⟩
          case rest =>
            intro ux nb v' wn ⟨hqc, c3⟩
            go_wp2
            go_roundw
            case rel => exact ⟨k + 1, by omega, by go_num, by rw [HS.out]; first | rfl | (congr 1; simp [IntKind.wrap, go_sem]; omega) | go_num, hqc, c3⟩
            case measure => simp [intOf]; omega
end Go.Proofs.Ytplohdnakllbiaa
