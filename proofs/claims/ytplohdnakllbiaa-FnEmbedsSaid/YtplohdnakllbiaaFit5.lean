/- The reference's search for a pattern: its contract. -/
import Derived.Test.YtplohdnakllbiaaFit4
namespace Go.Proofs.Ytplohdnakllbiaa
open Go.RowKit
theorem okGTo_mono {g p : List (List Int)} {q : List Nat} {v r k : Nat} (h : okGTo g p q v r = false) (hk : r ≤ k) : okGTo g p q v k = false := by
  obtain ⟨m, rfl⟩ : ∃ m, k = r + m := ⟨k - r, by omega⟩
  induction m with
  | zero => exact h
  | succ m ih => rw [← Nat.add_assoc, okGTo_succ, ih (by omega)]; rfl
theorem decide_natsI {q : List Nat} {v : Nat} : decide ((v : Int) ∈ natsI q) = decide (v ∈ q) := by
  rw [decide_eq_decide]
  simp only [natsI, List.mem_map]
  constructor
  · rintro ⟨a, ha, he⟩; have : a = v := by omega
    rw [← this]; exact ha
  · intro h; exact ⟨v, h, rfl⟩
def ResL (S : Nat → Prop) (res : List Nat) (w : World) (e : Ending) (w' : World) : Prop := ∃ r, e = .returned r ∧ SlI S w' .i64 r (natsI res) ∧ Below w.heap.size w w'
set_option maxHeartbeats 8000000 in
theorem l4Embed_any {S S' : Nat → Prop} {pv gv : Value} {p g : List (List Int)} (hp : GOk p) (hg : GOk g) :
    ∀ (d : Nat) (q : List Nat) (u : Value) (w : World), SlR S w pv p → SlR S' w gv g → SlI (fun _ => True) w .i64 u (natsI q) → q.length + d = p.length → GP g.length q →
      Calls Try.prog 52 #[.agg #[pv], .agg #[gv], u] w (ResL (fun _ => True) (embL g p d q) w) := by
  intro d
  induction d with
  | zero =>
    intro q u w hvp hvg hu hl hgp
    have hq0 : Below w.heap.size w ((w.alloc (.cells #[pv] 31)).alloc (.cells #[gv] 31)) := ((Below.refl _ _).alloc (Nat.le_refl _) _).alloc (by simp) _
    obtain ⟨pa, pc, rfl⟩ := hvp.slice
    obtain ⟨ga, gc, rfl⟩ := hvg.slice
    obtain ⟨ua, uc, rfl⟩ := hu.slice
    have hE : embL g p 0 q = q := rfl
    have heb : ((((natsI q).length : Nat) : Int) == (p.length : Int)) = true := by rw [natsI_len, beq_iff_eq]; omega
    have hebn : ((natsI q).length == p.length) = true := by rw [natsI_len, beq_iff_eq]; omega
    have HE := Lib.hid hE; clear hE hl
    go_enter Try.func52, Try.ntmps52
    go_wp2_with (go_at_call 60; refine (l1Size_any (hvp.below hq0 (Nat.le_refl _))).mono ?_; rintro e w1 ⟨rfl, hb1⟩)
    go_ret
    rw [HE.out]
    have hq1 := hq0.trans (hb1.mono hq0.size)
    exact ⟨_, rfl, hu.below hq1 (Nat.le_refl _), hq1⟩
  | succ d ih =>
    intro q u w hvp hvg hu hl hgp
    have hq0 : Below w.heap.size w ((w.alloc (.cells #[pv] 31)).alloc (.cells #[gv] 31)) := ((Below.refl _ _).alloc (Nat.le_refl _) _).alloc (by simp) _
    obtain ⟨pa, pc, rfl⟩ := hvp.slice
    obtain ⟨ga, gc, rfl⟩ := hvg.slice
    obtain ⟨ua, uc, rfl⟩ := hu.slice
    have hp16 := hp.hi
    have hg16 := hg.hi
    simp only [natsI_len] at hu ⊢
    have hplt : q.length < p.length := by omega
    have heb : (((q.length : Nat) : Int) == (p.length : Int)) = false := by rw [beq_eq_false_iff_ne]; omega
    have hebn : (q.length == p.length) = false := by rw [beq_eq_false_iff_ne]; omega
    have HPD := Lib.hid hl; clear hl
    have HSF := Lib.hid (show loopS (fun v s => if okB (netsL g) (netsL p) q v = true then srchF (netsL g) (netsL p) fitEf d (q ++ [v]) s else (s, false)) (List.range' 0 (g.length - 0)) none = srchF (netsL g) (netsL p) fitEf (d + 1) q none from by rw [srchF, ← loopS_start, netsL_len])
    go_enter Try.func52, Try.ntmps52
    go_wp2_with (go_at_call 60; refine (l1Size_any (hvp.below hq0 (Nat.le_refl _))).mono ?_; rintro e w1 ⟨rfl, hb1⟩)
    have hq1 := hq0.trans (hb1.mono hq0.size)
    have c3 : w1.cell? ⟨w.heap.size, 0, none⟩ = some (.slice pa p.length pc) := (hb1.cell (p := ⟨w.heap.size, 0, none⟩) (by simp; omega)).trans (by simp [go_sem])
    have c4 : w1.cell? ⟨w.heap.size + 1, 0, none⟩ = some (.slice ga g.length gc) := (hb1.cell (p := ⟨w.heap.size + 1, 0, none⟩) (by simp)).trans (by simp [go_sem])
    go_loopw [8] (fun i wr => ∃ k : Nat, k ≤ g.length ∧ i = .int .i64 k ∧ Below w.heap.size w wr ∧ wr.cell? ⟨w.heap.size, 0, none⟩ = some (.slice pa p.length pc) ∧ wr.cell? ⟨w.heap.size + 1, 0, none⟩ = some (.slice ga g.length gc) ∧
      loopS (fun v s => if okB (netsL g) (netsL p) q v = true then srchF (netsL g) (netsL p) fitEf d (q ++ [v]) s else (s, false)) (List.range' k (g.length - k)) none = srchF (netsL g) (netsL p) fitEf (d + 1) q none) (fun i _ => g.length - (intOf i).toNat)
    case atStart => exact ⟨0, Nat.zero_le _, rfl, hq1, c3, c4, HSF.out⟩
    case round =>
      clear hb1 hq1 c3 c4
      obtain ⟨k, hk, rfl, hqc, c3, c4, hloop⟩ := hrel
      obtain ⟨wc, rfl⟩ : ∃ wc : World, wc = wr := ⟨_, rfl⟩
      have HL := Lib.hid hloop; clear hloop
      by_cases hlt : k < g.length
      case neg =>
        obtain rfl : k = g.length := by omega
        have hl := HL.out
        rw [loopS_end] at hl
        have HE := Lib.hid (show embL g p (d + 1) q = [] by rw [embL, ← hl]; rfl)
        clear hl
        go_wp2_with (go_at_call 60; refine (l1Size_any (hvg.below hqc (Nat.le_refl _))).mono ?_; rintro e w1 ⟨rfl, hb1⟩)
        go_ret
        rw [HE.out]
        have hq1 := (hqc.trans (hb1.mono hqc.size)).alloc (Nat.le_trans hqc.size hb1.size) (.cells #[] 2)
        exact ⟨_, rfl, ⟨_, 0, 0, 0, rfl, by simp [natsI], fun h => by simp [natsI] at h, fun i hi => by simp [natsI] at hi⟩, hq1⟩
      have hstep := loopS_step (f := fun v s => if okB (netsL g) (netsL p) q v = true then srchF (netsL g) (netsL p) fitEf d (q ++ [v]) s else (s, false)) (s := none) hlt
      rw [HL.out] at hstep
      have HST := Lib.hid hstep; clear hstep HL
      have hok := okG_eq hg hp hgp.1 hplt hlt
      have HOK := Lib.hid hok; clear hok
      have hdn := decide_natsI (q := q) (v := k)
      have HDN := Lib.hid hdn
      go_wp2_with (first
        | (go_at_call 60; refine (l1Size_any (hvg.below hqc (Nat.le_refl _))).mono ?_; rintro e wc ⟨rfl, hb1⟩; have hqc := hqc.trans (hb1.mono hqc.size); have c3 := (hb1.cell (cell_lt c3)).trans c3; have c4 := (hb1.cell (cell_lt c4)).trans c4)
        | (go_at_call 35; refine (l1Has_any _ _ _ _ (hu.below hqc (Nat.le_refl _))).mono ?_; rintro e w' ⟨rfl, rfl⟩))
      clear hdn
      have h0 := Lib.hid (show (!decide (k ∈ q)) = (!decide (k ∈ q) && okGTo g p q k 0) by simp [okGTo])
      rw [h0.out]
      go_loopw [9, 10] (fun f j ws => ∃ r : Nat, r ≤ q.length ∧ j = .int .i64 r ∧ f = .bool (!decide (k ∈ q) && okGTo g p q k r) ∧ Below w.heap.size w ws ∧ ws.cell? ⟨w.heap.size, 0, none⟩ = some (.slice pa p.length pc) ∧ ws.cell? ⟨w.heap.size + 1, 0, none⟩ = some (.slice ga g.length gc)) (fun _ j _ => q.length - (intOf j).toNat)
      case atStart => exact ⟨0, Nat.zero_le _, rfl, rfl, hqc, c3, c4⟩
      case round =>
        clear hb1 hqc c3 c4
        obtain ⟨r, hr, rfl, rfl, hqc, c3, c4⟩ := hrel
        obtain ⟨wc, rfl⟩ : ∃ wc : World, wc = wr := ⟨_, rfl⟩
        by_cases hf : (!decide (k ∈ q) && okGTo g p q k r) = true
        case neg =>
          have hf' : (!decide (k ∈ q) && okGTo g p q k r) = false := by simpa using hf
          have hok : okB (netsL g) (netsL p) q k = false := by
            rw [← HOK.out]
            cases hd : (!decide (k ∈ q)) with
            | false => rfl
            | true => rw [hd, Bool.true_and] at hf'; rw [Bool.true_and, okGTo_mono hf' hr]
          have hs := HST.out
          simp only [hok, Bool.false_eq_true, if_false] at hs
          have HS := Lib.hid hs; clear hs hok hf
          rw [hf']
          clear hf'
          by_cases hrl : r < q.length
          · have hb1 : decide ((r : Int) < (q.length : Int)) = true := by simp; omega
            have hb2 : decide (r < q.length) = true := by simpa using hrl
            go_wp2
            go_roundw
            case rel => exact ⟨k + 1, by omega, by go_num, hqc, c3, c4, HS.out.symm⟩
            case measure => simp [intOf]; omega
          · have hb1 : decide ((r : Int) < (q.length : Int)) = false := by simp; omega
            have hb2 : decide (r < q.length) = false := by simpa using hrl
            go_wp2
            go_roundw
            case rel => exact ⟨k + 1, by omega, by go_num, hqc, c3, c4, HS.out.symm⟩
            case measure => simp [intOf]; omega
        have hfd := hf
        rw [Bool.and_eq_true] at hfd
        rw [hf]
        by_cases hrl : r < q.length
        · have hqx : ∃ x : Nat, q.getD r 0 = x ∧ x < g.length := ⟨_, rfl, by
            have : q.getD r 0 = q[r] := by simp [hrl]
            rw [this]; exact hgp.1 _ (List.getElem_mem _)⟩
          obtain ⟨x, hx, hxg⟩ := hqx
          obtain ⟨ub, uo, ucap, hue, huc⟩ := (hu.below hqc (Nat.le_refl _)).at_
          have hue := hue (by rw [natsI_len]; omega)
          simp only [Value.slice.injEq] at hue
          obtain ⟨rfl, -, -⟩ := hue
          have e2 : wc.cell? ⟨ub, uo + r, none⟩ = some (.int .i64 (x : Int)) := by
            have := huc r (by rw [natsI_len]; exact hrl)
            rw [this, natsI_get, ← hx]; simp [hrl]
          clear huc
          have hsu := okGTo_succ g p q k r
          rw [hfd.2, Bool.true_and, hx] at hsu
          have HSU := Lib.hid (show (!decide (k ∈ q) && okGTo g p q k (r + 1)) = _ from by rw [hsu, hfd.1, Bool.true_and])
          have hb1 : decide ((r : Int) < (q.length : Int)) = true := by simp; omega
          have hb2 : decide (r < q.length) = true := by simpa using hrl
          clear hsu hf hfd hx
          generalize hA : decide ((q.length : Int) ∈ p.getD r []) = bA at HSU
          generalize hC : decide ((k : Int) ∈ g.getD x []) = bC at HSU
          have HA := Lib.hid hA; have HC := Lib.hid hC; clear hA hC
          go_wp2
          refine wp_region_held_drew (S := (fun w' => w'.cell? ⟨w.heap.size, 0, none⟩ = some (.slice pa p.length pc) ∧ w'.cell? ⟨w.heap.size + 1, 0, none⟩ = some (.slice ga g.length gc) ∧ w'.cell? ⟨ub, uo + r, none⟩ = some (.int .i64 (x : Int)))) (by kernel_rfl) ?_ (fun hHeld => ?_)
          · first | exact ⟨‹_›, ‹_›, ‹_›⟩ | (simp [*, go_sem])
          have hqc := hqc.drew
          generalize wc.drew = wd at hqc hHeld ⊢
          obtain ⟨c3, c4, e2⟩ := hHeld
          have hHeld : (fun w' => World.cell? w' ⟨w.heap.size, 0, none⟩ = some (.slice pa p.length pc) ∧ World.cell? w' ⟨w.heap.size + 1, 0, none⟩ = some (.slice ga g.length gc) ∧ World.cell? w' ⟨ub, uo + r, none⟩ = some (.int .i64 (x : Int))) wd := ⟨c3, c4, e2⟩
          refine wpAnyH_take (i := 0) (v := ?v1) (by simp only [List.getElem?_toArray, List.getElem?_cons_zero]; exact rfl) (by kernel_rfl) (by kernel_rfl) (by kernel_rfl) (by intro _ _ _ h; exact h) (Or.inl ⟨by rfl, ?y1⟩) hHeld ?_
          case y1 => (intro w hSw; (try dsimp only at hSw); go_simp; try (with_reducible rfl))
          try simp only [Act.put, List.setIfInBounds_toArray, List.set_cons_zero, List.set_cons_succ]
          refine wpAnyH_take (i := 1) (v := ?v2) (by simp only [List.getElem?_toArray, List.getElem?_cons_succ, List.getElem?_cons_zero]; exact rfl) (by kernel_rfl) (by kernel_rfl) (by kernel_rfl) (by intro _ _ _ h; exact h) (Or.inl ⟨by rfl, ?y2⟩) hHeld ?_
          case y2 => (intro w hSw; (try dsimp only at hSw); go_simp; try (with_reducible rfl))
          try simp only [Act.put, List.setIfInBounds_toArray, List.set_cons_zero, List.set_cons_succ]
          refine wpAnyH_take (i := 2) (v := ?v3) (by simp only [List.getElem?_toArray, List.getElem?_cons_succ, List.getElem?_cons_zero]; exact rfl) (by kernel_rfl) (by kernel_rfl) (by kernel_rfl) (by intro _ _ _ h; exact h) (Or.inl ⟨by rfl, ?y3⟩) hHeld ?_
          case y3 => (intro w hSw; (try dsimp only at hSw); go_simp; try (with_reducible rfl))
          try simp only [Act.put, List.setIfInBounds_toArray, List.set_cons_zero, List.set_cons_succ]
          refine wpAnyH_take (i := 4) (v := ?v4) (by simp only [List.getElem?_toArray, List.getElem?_cons_succ, List.getElem?_cons_zero]; exact rfl) (by kernel_rfl) (by kernel_rfl) (by kernel_rfl) (by intro _ _ _ h; exact h) (Or.inl ⟨by rfl, ?y4⟩) hHeld ?_
          case y4 => (intro w hSw; (try dsimp only at hSw); go_simp; try (with_reducible rfl))
          try simp only [Act.put, List.setIfInBounds_toArray, List.set_cons_zero, List.set_cons_succ]
          refine wpAnyH_take (i := 5) (v := ?v5) (by simp only [List.getElem?_toArray, List.getElem?_cons_succ, List.getElem?_cons_zero]; exact rfl) (by kernel_rfl) (by kernel_rfl) (by kernel_rfl) (by intro _ _ _ h; exact h) (Or.inl ⟨by rfl, ?y5⟩) hHeld ?_
          case y5 => (intro w hSw; (try dsimp only at hSw); go_simp; try (with_reducible rfl))
          try simp only [Act.put, List.setIfInBounds_toArray, List.set_cons_zero, List.set_cons_succ]
          refine wpAnyH_take (i := 6) (v := ?v6) (by simp only [List.getElem?_toArray, List.getElem?_cons_succ, List.getElem?_cons_zero]; exact rfl) (by kernel_rfl) (by kernel_rfl) (by kernel_rfl) (by intro _ _ _ h; exact h) (Or.inl ⟨by rfl, ?y6⟩) hHeld ?_
          case y6 => (intro w hSw; (try dsimp only at hSw); go_simp; try (with_reducible rfl))
          try simp only [Act.put, List.setIfInBounds_toArray, List.set_cons_zero, List.set_cons_succ]
          refine wpAnyH_take (i := 7) (v := ?v7) (by simp only [List.getElem?_toArray, List.getElem?_cons_succ, List.getElem?_cons_zero]; exact rfl) (by kernel_rfl) (by kernel_rfl) (by kernel_rfl) (by intro _ _ _ h; exact h) (Or.inl ⟨by rfl, ?y7⟩) hHeld ?_
          case y7 => (intro w hSw; (try dsimp only at hSw); go_simp; try (with_reducible rfl))
          try simp only [Act.put, List.setIfInBounds_toArray, List.set_cons_zero, List.set_cons_succ]
          refine wpAnyH_take (i := 8) (v := ?v8) (by simp only [List.getElem?_toArray, List.getElem?_cons_succ, List.getElem?_cons_zero]; exact rfl) (by kernel_rfl) (by kernel_rfl) (by kernel_rfl) (by intro _ _ _ h; exact h) (Or.inl ⟨by rfl, ?y8⟩) hHeld ?_
          case y8 => (intro w hSw; (try dsimp only at hSw); go_simp; try (with_reducible rfl))
          try simp only [Act.put, List.setIfInBounds_toArray, List.set_cons_zero, List.set_cons_succ]
          refine wpAnyH_take (i := 9) (v := ?v9) (by simp only [List.getElem?_toArray, List.getElem?_cons_succ, List.getElem?_cons_zero]; exact rfl) (by kernel_rfl) (by kernel_rfl) (by kernel_rfl) (by intro _ _ _ h; exact h) (Or.inl ⟨by rfl, ?y9⟩) hHeld ?_
          case y9 => (intro w hSw; (try dsimp only at hSw); go_simp; try (with_reducible rfl))
          try simp only [Act.put, List.setIfInBounds_toArray, List.set_cons_zero, List.set_cons_succ]
          refine wpAnyH_ready (rs := [3]) (by kernel_rfl) (by simp) ?_
          refine AllReadyH.cons (by simp only [List.getElem?_toArray, List.getElem?_cons_succ, List.getElem?_cons_zero]; exact rfl) (fun K hK => ?_) AllReadyH.nil
          go_simp
          first | ((with_reducible refine (l1Edge_any (hvp.below hqc (Nat.le_refl _)) (u := r) (x := (q.length : Int)) (by omega)).mono ?_); rintro e wn ⟨rfl, hbn⟩; rw [HA.out]) | ((with_reducible refine (l1Edge_any (hvg.below hqc (Nat.le_refl _)) (u := x) (x := (k : Int)) hxg).mono ?_); rintro e wn ⟨rfl, hbn⟩; rw [HC.out])
          have hqc := hqc.trans (hbn.mono hqc.size)
          have c3 := (hbn.cell (cell_lt c3)).trans c3
          have c4 := (hbn.cell (cell_lt c4)).trans c4
          have e2 := (hbn.cell (cell_lt e2)).trans e2
          try dsimp only
          refine hK.out _ _ ?h11 (fun hHeld => ?_)
          case h11 => first | exact ⟨‹_›, ‹_›, ‹_›⟩ | (simp [*, go_sem])
          clear hK K
          try simp only [Act.put, List.setIfInBounds_toArray, List.set_cons_zero, List.set_cons_succ]
          refine wpAnyH_ready (rs := [10]) (by kernel_rfl) (by simp) ?_
          refine AllReadyH.cons (by simp only [List.getElem?_toArray, List.getElem?_cons_succ, List.getElem?_cons_zero]; exact rfl) (fun K hK => ?_) AllReadyH.nil
          go_simp
          first | ((with_reducible refine (l1Edge_any (hvp.below hqc (Nat.le_refl _)) (u := r) (x := (q.length : Int)) (by omega)).mono ?_); rintro e wn ⟨rfl, hbn⟩; rw [HA.out]) | ((with_reducible refine (l1Edge_any (hvg.below hqc (Nat.le_refl _)) (u := x) (x := (k : Int)) hxg).mono ?_); rintro e wn ⟨rfl, hbn⟩; rw [HC.out])
          have hqc := hqc.trans (hbn.mono hqc.size)
          have c3 := (hbn.cell (cell_lt c3)).trans c3
          have c4 := (hbn.cell (cell_lt c4)).trans c4
          have e2 := (hbn.cell (cell_lt e2)).trans e2
          try dsimp only
          refine hK.out _ _ ?h13 (fun hHeld => ?_)
          case h13 => first | exact ⟨‹_›, ‹_›, ‹_›⟩ | (simp [*, go_sem])
          clear hK K
          try simp only [Act.put, List.setIfInBounds_toArray, List.set_cons_zero, List.set_cons_succ]
          refine wpAnyH_take (i := 11) (v := ?v14) (by simp only [List.getElem?_toArray, List.getElem?_cons_succ, List.getElem?_cons_zero]; exact rfl) (by kernel_rfl) (by kernel_rfl) (by kernel_rfl) (by intro _ _ _ h; exact h) (Or.inl ⟨by rfl, ?y14⟩) hHeld ?_
          case y14 => (intro w hSw; (try dsimp only at hSw); go_simp; try (with_reducible rfl))
          try simp only [Act.put, List.setIfInBounds_toArray, List.set_cons_zero, List.set_cons_succ]
          refine wpAnyH_take (i := 12) (v := ?v15) (by simp only [List.getElem?_toArray, List.getElem?_cons_succ, List.getElem?_cons_zero]; exact rfl) (by kernel_rfl) (by kernel_rfl) (by kernel_rfl) (by intro _ _ _ h; exact h) (Or.inl ⟨by rfl, ?y15⟩) hHeld ?_
          case y15 => (intro w hSw; (try dsimp only at hSw); go_simp; try (with_reducible rfl))
          try simp only [Act.put, List.setIfInBounds_toArray, List.set_cons_zero, List.set_cons_succ]
          refine wpAnyH_done (by kernel_rfl) ?_ _
          go_wp2
          go_roundw
          case rel => exact ⟨r + 1, by omega, by go_num, by rw [HSU.out], hqc, c3, c4⟩
          case measure => simp [intOf]; omega
        · obtain rfl : r = q.length := by omega
          have hok : okB (netsL g) (netsL p) q k = true := by rw [← HOK.out]; exact hf
          have hkq : ¬ k ∈ q := by simpa using hfd.1
          have hs := HST.out
          simp only [hok, if_true] at hs
          have HS := Lib.hid hs; clear hs hok hf hfd HST HOK HDN h0
          have hgp2 := Lib.hid (hgp.snoc hlt hkq)
          have hb1 : decide ((q.length : Int) < (q.length : Int)) = false := by simp
          clear hkq
          have hq16 : q.length < 16 := by omega
          go_wp2
          apply meet5 (H := fun (_ : Value) (_ : Nat) (_ : Value) (r : Value) (w1 : World) => SlI (fun _ => True) w1 .i64 r (natsI (embL g p d (q ++ [k]))) ∧ Below w.heap.size w w1 ∧ w1.cell? ⟨w.heap.size, 0, none⟩ = some (.slice pa p.length pc) ∧ w1.cell? ⟨w.heap.size + 1, 0, none⟩ = some (.slice ga g.length gc))
          case orders =>
            intro rest
            refine wp_region_held_drew (S := (fun w' => w'.cell? ⟨w.heap.size, 0, none⟩ = some (.slice pa p.length pc) ∧ w'.cell? ⟨w.heap.size + 1, 0, none⟩ = some (.slice ga g.length gc))) (by kernel_rfl) ?_ (fun hHeld => ?_)
            · first | exact ⟨‹_›, ‹_›⟩ | (simp [*, go_sem])
            have hqc := hqc.drew
            generalize wc.drew = wd at hqc hHeld ⊢
            obtain ⟨c3, c4⟩ := hHeld
            have hHeld : (fun w' => World.cell? w' ⟨w.heap.size, 0, none⟩ = some (.slice pa p.length pc) ∧ World.cell? w' ⟨w.heap.size + 1, 0, none⟩ = some (.slice ga g.length gc)) wd := ⟨c3, c4⟩
            refine wpAnyH_take (i := 0) (v := ?v16) (by simp only [List.getElem?_toArray, List.getElem?_cons_zero]; exact rfl) (by kernel_rfl) (by kernel_rfl) (by kernel_rfl) (by intro _ _ _ h; exact h) (Or.inl ⟨by rfl, ?y16⟩) hHeld ?_
            case y16 => (intro w hSw; (try dsimp only at hSw); go_simp; try (with_reducible rfl))
            try simp only [Act.put, List.setIfInBounds_toArray, List.set_cons_zero, List.set_cons_succ]
            refine wpAnyH_take (i := 1) (v := ?v17) (by simp only [List.getElem?_toArray, List.getElem?_cons_succ, List.getElem?_cons_zero]; exact rfl) (by kernel_rfl) (by kernel_rfl) (by kernel_rfl) (by intro _ _ _ h; exact h) (Or.inl ⟨by rfl, ?y17⟩) hHeld ?_
            case y17 => (intro w hSw; (try dsimp only at hSw); go_simp; try (with_reducible rfl))
            try simp only [Act.put, List.setIfInBounds_toArray, List.set_cons_zero, List.set_cons_succ]
            refine wpAnyH_take (i := 2) (v := ?v18) (by simp only [List.getElem?_toArray, List.getElem?_cons_succ, List.getElem?_cons_zero]; exact rfl) (by kernel_rfl) (by kernel_rfl) (by kernel_rfl) (by intro _ _ _ h; exact h) (Or.inl ⟨by rfl, ?y18⟩) hHeld ?_
            case y18 => (intro w hSw; (try dsimp only at hSw); go_simp; try (with_reducible rfl))
            try simp only [Act.put, List.setIfInBounds_toArray, List.set_cons_zero, List.set_cons_succ]
            refine wpAnyH_take (i := 4) (v := ?v19) (by simp only [List.getElem?_toArray, List.getElem?_cons_succ, List.getElem?_cons_zero]; exact rfl) (by kernel_rfl) (by kernel_rfl) (by kernel_rfl) (by intro _ _ _ h; exact h) (Or.inl ⟨by rfl, ?y19⟩) hHeld ?_
            case y19 => (intro w hSw; (try dsimp only at hSw); go_simp; try (with_reducible rfl))
            try simp only [Act.put, List.setIfInBounds_toArray, List.set_cons_zero, List.set_cons_succ]
            refine wpAnyH_ready (rs := [3, 5]) (by kernel_rfl) (by simp) ?_
            refine (AllReadyH.cons (by simp only [List.getElem?_toArray, List.getElem?_cons_succ, List.getElem?_cons_zero]; exact rfl) (fun K hK => ?b20_3) (AllReadyH.cons (by simp only [List.getElem?_toArray, List.getElem?_cons_succ, List.getElem?_cons_zero]; exact rfl) (fun K hK => ?b20_5) AllReadyH.nil))
            case b20_3 =>
              go_simp
              (with_reducible refine (l1Copy_any _ _ _ (hu.below hqc (Nat.le_refl _)) (by rw [natsI_len]; omega)).mono ?_)
              rintro e wn ⟨ux, rfl, hux, hbn⟩
              rw [natsI_len] at hux
              have hux := hux.weak (show w.heap.size + 2 ≤ _ by have := cell_lt c4; simp at this; omega)
              try (have clit := (hbn.cell (cell_lt clit)).trans clit)
              have hqc := hqc.trans (hbn.mono hqc.size)
              have c3 := (hbn.cell (cell_lt c3)).trans c3
              have c4 := (hbn.cell (cell_lt c4)).trans c4
              obtain ⟨wd, rfl⟩ : ∃ wx : World, wx = wn := ⟨_, rfl⟩
              try dsimp only
              refine hK.out _ _ ?h21 (fun hHeld => ?_)
              case h21 => first | exact ⟨‹_›, ‹_›⟩ | (simp [*, go_sem])
              clear hK K
              try simp only [Act.put, List.setIfInBounds_toArray, List.set_cons_zero, List.set_cons_succ]
              refine wpAnyH_ready (rs := [5]) (by kernel_rfl) (by simp) ?_
              refine AllReadyH.cons (by simp only [List.getElem?_toArray, List.getElem?_cons_succ, List.getElem?_cons_zero]; exact rfl) (fun K hK => ?_) AllReadyH.nil
              go_simp
              have hbn : Below wd.heap.size wd (wd.alloc (.cells #[.int .i64 (k : Int)] 2)) := (Below.refl _ _).alloc (Nat.le_refl _) _
              have clit : (wd.alloc (.cells #[.int .i64 (k : Int)] 2)).cell? ⟨wd.heap.size, 0, none⟩ = some (.int .i64 (k : Int)) := by simp [go_sem]
              generalize (wd.alloc (.cells #[.int .i64 (k : Int)] 2)) = wn at hbn clit ⊢
              generalize wd.heap.size = nb at clit ⊢
              try (have hux := hux.below hbn (Nat.le_refl _))
              have hqc := hqc.trans (hbn.mono hqc.size)
              have c3 := (hbn.cell (cell_lt c3)).trans c3
              have c4 := (hbn.cell (cell_lt c4)).trans c4
              obtain ⟨wd, rfl⟩ : ∃ wx : World, wx = wn := ⟨_, rfl⟩
              try dsimp only
              refine hK.out _ _ ?h23 (fun hHeld => ?_)
              case h23 => first | exact ⟨‹_›, ‹_›⟩ | (simp [*, go_sem])
              clear hK K
              try simp only [Act.put, List.setIfInBounds_toArray, List.set_cons_zero, List.set_cons_succ]
              refine wpAnyH_ready (rs := [6]) (by kernel_rfl) (by simp) ?_
              refine AllReadyH.cons (by simp only [List.getElem?_toArray, List.getElem?_cons_succ, List.getElem?_cons_zero]; exact rfl) (fun K hK => ?_) AllReadyH.nil
              rw [if_pos (by rfl)]
              have hsz2 : w.heap.size + 2 ≤ wd.heap.size := (by have := cell_lt c4; simp at this; omega)
              refine opWp_append elI64 _ _ rfl hux rfl rfl (news := [.int .i64 (k : Int)]) rfl (by intro j u hj; match j, hj with | 0, hj => (simp at hj; subst hj; simpa [Addr.add] using clit)) (by intro u hu; simp at hu; subst hu; rfl) (by omega) hsz2 ?_
              intro v' wn hown2 hgr hmv
              have hkept := KeptBut.of_grown hgr
              have c3 := (cell_heap (hkept.2.2.2.2 _ (cell_lt c3) (fun e => by have := hux.ge _ e.symm; (simp at this) <;> omega))).trans c3
              have c4 := (cell_heap (hkept.2.2.2.2 _ (cell_lt c4) (fun e => by have := hux.ge _ e.symm; (simp at this) <;> omega))).trans c4
              have hqc := hkept.below hqc hqc.size (fun k hk => by have := hux.ge k hk; omega)
              obtain ⟨wd, rfl⟩ : ∃ wx : World, wx = wn := ⟨_, rfl⟩
              try dsimp only
              refine hK.out _ _ ?h25 (fun hHeld => ?_)
              case h25 => first | exact ⟨‹_›, ‹_›⟩ | (simp [*, go_sem])
              clear hK K
              try simp only [Act.put, List.setIfInBounds_toArray, List.set_cons_zero, List.set_cons_succ]
              refine wpAnyH_ready (rs := [7]) (by kernel_rfl) (by simp) ?_
              refine AllReadyH.cons (by simp only [List.getElem?_toArray, List.getElem?_cons_succ, List.getElem?_cons_zero]; exact rfl) (fun K hK => ?_) AllReadyH.nil
              go_simp
              have huq : SlI (fun _ => True) wd .i64 v' (natsI (q ++ [k])) := by (rw [natsI_append]; exact (Own.ints (xs := natsI q ++ [(k : Int)]) (by simpa using hown2) (by omega)).weak (fun _ _ => trivial))
              (with_reducible refine (ih (q ++ [k]) _ _ (hvp.below hqc (Nat.le_refl _)) (hvg.below hqc (Nat.le_refl _)) huq (by have := HPD.out; simp; omega) hgp2.out).mono ?_)
              rintro e wn ⟨r, rfl, hr, hbn⟩
              have hqc := hqc.trans (hbn.mono hqc.size)
              have c3 := (hbn.cell (cell_lt c3)).trans c3
              have c4 := (hbn.cell (cell_lt c4)).trans c4
              try dsimp only
              refine hK.out _ _ ?h27 (fun hHeld => ?_)
              case h27 => first | exact ⟨‹_›, ‹_›⟩ | (simp [*, go_sem])
              clear hK K
              try simp only [Act.put, List.setIfInBounds_toArray, List.set_cons_zero, List.set_cons_succ]
              refine wpAnyH_take (i := 8) (v := ?v28) (by simp only [List.getElem?_toArray, List.getElem?_cons_succ, List.getElem?_cons_zero]; exact rfl) (by kernel_rfl) (by kernel_rfl) (by kernel_rfl) (by intro _ _ _ h; exact h) (Or.inl ⟨by rfl, ?y28⟩) hHeld ?_
              case y28 => (intro w hSw; (try dsimp only at hSw); go_simp; try (with_reducible rfl))
              try simp only [Act.put, List.setIfInBounds_toArray, List.set_cons_zero, List.set_cons_succ]
              refine wpAnyH_done (by kernel_rfl) ?_ _
              exact rest ux nb v' r wn ⟨hr, hqc, c3, c4⟩
            case b20_5 =>
              go_simp
              have hbn : Below wd.heap.size wd (wd.alloc (.cells #[.int .i64 (k : Int)] 2)) := (Below.refl _ _).alloc (Nat.le_refl _) _
              have clit : (wd.alloc (.cells #[.int .i64 (k : Int)] 2)).cell? ⟨wd.heap.size, 0, none⟩ = some (.int .i64 (k : Int)) := by simp [go_sem]
              generalize (wd.alloc (.cells #[.int .i64 (k : Int)] 2)) = wn at hbn clit ⊢
              generalize wd.heap.size = nb at clit ⊢
              try (have hux := hux.below hbn (Nat.le_refl _))
              have hqc := hqc.trans (hbn.mono hqc.size)
              have c3 := (hbn.cell (cell_lt c3)).trans c3
              have c4 := (hbn.cell (cell_lt c4)).trans c4
              obtain ⟨wd, rfl⟩ : ∃ wx : World, wx = wn := ⟨_, rfl⟩
              try dsimp only
              refine hK.out _ _ ?h29 (fun hHeld => ?_)
              case h29 => first | exact ⟨‹_›, ‹_›⟩ | (simp [*, go_sem])
              clear hK K
              try simp only [Act.put, List.setIfInBounds_toArray, List.set_cons_zero, List.set_cons_succ]
              refine wpAnyH_ready (rs := [3]) (by kernel_rfl) (by simp) ?_
              refine AllReadyH.cons (by simp only [List.getElem?_toArray, List.getElem?_cons_succ, List.getElem?_cons_zero]; exact rfl) (fun K hK => ?_) AllReadyH.nil
              go_simp
              (with_reducible refine (l1Copy_any _ _ _ (hu.below hqc (Nat.le_refl _)) (by rw [natsI_len]; omega)).mono ?_)
              rintro e wn ⟨ux, rfl, hux, hbn⟩
              rw [natsI_len] at hux
              have hux := hux.weak (show w.heap.size + 2 ≤ _ by have := cell_lt c4; simp at this; omega)
              try (have clit := (hbn.cell (cell_lt clit)).trans clit)
              have hqc := hqc.trans (hbn.mono hqc.size)
              have c3 := (hbn.cell (cell_lt c3)).trans c3
              have c4 := (hbn.cell (cell_lt c4)).trans c4
              obtain ⟨wd, rfl⟩ : ∃ wx : World, wx = wn := ⟨_, rfl⟩
              try dsimp only
              refine hK.out _ _ ?h31 (fun hHeld => ?_)
              case h31 => first | exact ⟨‹_›, ‹_›⟩ | (simp [*, go_sem])
              clear hK K
              try simp only [Act.put, List.setIfInBounds_toArray, List.set_cons_zero, List.set_cons_succ]
              refine wpAnyH_ready (rs := [6]) (by kernel_rfl) (by simp) ?_
              refine AllReadyH.cons (by simp only [List.getElem?_toArray, List.getElem?_cons_succ, List.getElem?_cons_zero]; exact rfl) (fun K hK => ?_) AllReadyH.nil
              rw [if_pos (by rfl)]
              have hsz2 : w.heap.size + 2 ≤ wd.heap.size := (by have := cell_lt c4; simp at this; omega)
              refine opWp_append elI64 _ _ rfl hux rfl rfl (news := [.int .i64 (k : Int)]) rfl (by intro j u hj; match j, hj with | 0, hj => (simp at hj; subst hj; simpa [Addr.add] using clit)) (by intro u hu; simp at hu; subst hu; rfl) (by omega) hsz2 ?_
              intro v' wn hown2 hgr hmv
              have hkept := KeptBut.of_grown hgr
              have c3 := (cell_heap (hkept.2.2.2.2 _ (cell_lt c3) (fun e => by have := hux.ge _ e.symm; (simp at this) <;> omega))).trans c3
              have c4 := (cell_heap (hkept.2.2.2.2 _ (cell_lt c4) (fun e => by have := hux.ge _ e.symm; (simp at this) <;> omega))).trans c4
              have hqc := hkept.below hqc hqc.size (fun k hk => by have := hux.ge k hk; omega)
              obtain ⟨wd, rfl⟩ : ∃ wx : World, wx = wn := ⟨_, rfl⟩
              try dsimp only
              refine hK.out _ _ ?h33 (fun hHeld => ?_)
              case h33 => first | exact ⟨‹_›, ‹_›⟩ | (simp [*, go_sem])
              clear hK K
              try simp only [Act.put, List.setIfInBounds_toArray, List.set_cons_zero, List.set_cons_succ]
              refine wpAnyH_ready (rs := [7]) (by kernel_rfl) (by simp) ?_
              refine AllReadyH.cons (by simp only [List.getElem?_toArray, List.getElem?_cons_succ, List.getElem?_cons_zero]; exact rfl) (fun K hK => ?_) AllReadyH.nil
              go_simp
              have huq : SlI (fun _ => True) wd .i64 v' (natsI (q ++ [k])) := by (rw [natsI_append]; exact (Own.ints (xs := natsI q ++ [(k : Int)]) (by simpa using hown2) (by omega)).weak (fun _ _ => trivial))
              (with_reducible refine (ih (q ++ [k]) _ _ (hvp.below hqc (Nat.le_refl _)) (hvg.below hqc (Nat.le_refl _)) huq (by have := HPD.out; simp; omega) hgp2.out).mono ?_)
              rintro e wn ⟨r, rfl, hr, hbn⟩
              have hqc := hqc.trans (hbn.mono hqc.size)
              have c3 := (hbn.cell (cell_lt c3)).trans c3
              have c4 := (hbn.cell (cell_lt c4)).trans c4
              try dsimp only
              refine hK.out _ _ ?h35 (fun hHeld => ?_)
              case h35 => first | exact ⟨‹_›, ‹_›⟩ | (simp [*, go_sem])
              clear hK K
              try simp only [Act.put, List.setIfInBounds_toArray, List.set_cons_zero, List.set_cons_succ]
              refine wpAnyH_take (i := 8) (v := ?v36) (by simp only [List.getElem?_toArray, List.getElem?_cons_succ, List.getElem?_cons_zero]; exact rfl) (by kernel_rfl) (by kernel_rfl) (by kernel_rfl) (by intro _ _ _ h; exact h) (Or.inl ⟨by rfl, ?y36⟩) hHeld ?_
              case y36 => (intro w hSw; (try dsimp only at hSw); go_simp; try (with_reducible rfl))
              try simp only [Act.put, List.setIfInBounds_toArray, List.set_cons_zero, List.set_cons_succ]
              refine wpAnyH_done (by kernel_rfl) ?_ _
              exact rest ux nb v' r wn ⟨hr, hqc, c3, c4⟩
          case rest =>
            intro ux nb v' r wn ⟨hr, hqc, c3, c4⟩
            obtain ⟨ra, rc, rfl⟩ := hr.slice
            have hs := HS.out
            rcases srch_fit (netsL g) (netsL p) d (q ++ [k]) none with ⟨h1, h2⟩ | ⟨h1, r', h2, h3⟩
            · have hE : (natsI (embL g p d (q ++ [k]))).length = 0 := by rw [natsI_len, embL, h2]; rfl
              rw [h1, h2] at hs
              simp only [Bool.false_eq_true, if_false] at hs
              have HS2 := Lib.hid hs
              have hb1 : decide ((0 : Int) < ((natsI (embL g p d (q ++ [k]))).length : Int)) = false := decide_eq_false (by omega)
              have hb2 : decide (0 < (natsI (embL g p d (q ++ [k]))).length) = false := decide_eq_false (by omega)
              clear hs HS h1 h2 hE
              go_wp2
              go_roundw
              case rel => exact ⟨k + 1, by omega, by go_num, hqc, c3, c4, HS2.out.symm⟩
              case measure => simp [intOf]; omega
            · have hE : embL g p d (q ++ [k]) = r' := by rw [embL, h2]; rfl
              have hE2 : embL g p (d + 1) q = embL g p d (q ++ [k]) := by
                rw [h1] at hs
                simp only [if_true] at hs
                rw [embL, hs, embL]
              have hl : 0 < (natsI (embL g p d (q ++ [k]))).length := by rw [natsI_len, hE, h3]; simp; omega
              have hb1 : decide ((0 : Int) < ((natsI (embL g p d (q ++ [k]))).length : Int)) = true := decide_eq_true (by omega)
              have hb2 : decide (0 < (natsI (embL g p d (q ++ [k]))).length) = true := decide_eq_true (by omega)
              have HE2 := Lib.hid hE2
              clear hs HS h1 h2 hE hE2 h3
              go_wp2
              go_ret
              rw [HE2.out]
              exact ⟨_, rfl, hr, hqc⟩
end Go.Proofs.Ytplohdnakllbiaa
