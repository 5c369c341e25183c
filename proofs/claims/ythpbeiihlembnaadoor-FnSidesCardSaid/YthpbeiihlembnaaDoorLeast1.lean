/- LeastLoop of the program. -/
import Derived.Test.YthpbeiihlembnaaDoorLoop3
import Derived.Test.YthpbeiihlembnaaDoorForest
import Derived.Test.YthpbeiihlembnaaDoorFit4
import Derived.Test.YthpbeiihlembnaaDoorPop
import Derived.Test.YthpbeiihlembnaaDoorReach
namespace Go.Proofs.YthpbeiihlembnaaDoor
open Go.RowKit
theorem ltN_step {p q : List Nat} {k : Nat} (h1 : k < p.length) (h2 : k < q.length) : ltN (p.drop k) (q.drop k) = if p[k] = q[k] then ltN (p.drop (k + 1)) (q.drop (k + 1)) else decide (p[k] < q[k]) := by
  rw [List.drop_eq_getElem_cons h1, List.drop_eq_getElem_cons h2, ltN]
set_option maxHeartbeats 2000000 in
theorem l1Less_any {S S' : Nat → Prop} {u v : Value} {p q : List Nat} {w : World} (hu : SlI S w .i64 u (natsI p)) (hv : SlI S' w .i64 v (natsI q)) :
    Calls Tryd.prog 85 #[u, v] w fun e w' => e = .returned (.bool (lessN p q)) ∧ Drawn w w' := by
  obtain ⟨ua, ub, uo, uc, rfl, hul, hua, huc⟩ := hu
  obtain ⟨va, vb, vo, vc, rfl, hvl, hva, hvc⟩ := hv
  rw [natsI_len] at hul hua hvl hva
  simp only [natsI_len]
  by_cases hl : p.length = q.length
  case neg =>
    have h1 : ((p.length : Int) == (q.length : Int)) = false := by rw [beq_eq_false_iff_ne]; omega
    have h2 : (p.length == q.length) = false := by rw [beq_eq_false_iff_ne]; exact hl
    have HR := Lib.hid (show lessN p q = decide ((p.length : Int) < (q.length : Int)) by
      rw [lessN, if_neg hl, decide_eq_decide]; omega)
    clear hl
    go_enter Tryd.func85, Tryd.ntmps85
    go_wp2
    go_ret
    exact ⟨ret_bool (by first | exact HR.out.symm | (rw [HR.out]; simp)), Drawn.refl _⟩
  have HR := Lib.hid (show lessN p q = ltN (p.drop 0) (q.drop 0) by rw [lessN, if_pos hl]; rfl)
  have h1 : ((p.length : Int) == (q.length : Int)) = true := by rw [beq_iff_eq]; omega
  have HL := Lib.hid hl
  clear hl
  rw [← HL.out]
  have h2 : (p.length == p.length) = true := by simp
  clear h1
  go_enter Tryd.func85, Tryd.ntmps85
  go_wp2
  go_loopw [5] (fun iv wr => ∃ k : Nat, k ≤ p.length ∧ iv = .int .i64 k ∧ RowKit.Hid (lessN p q = ltN (p.drop k) (q.drop k)) ∧ Drawn w wr) (fun iv _ => p.length - (RowKit.intOf iv).toNat)
  case atStart => exact ⟨0, Nat.zero_le _, rfl, HR, Drawn.refl _⟩
  case round =>
    clear HR
    obtain ⟨k, hk, rfl, HR, hq⟩ := hrel
    by_cases hlt : k < p.length
    case neg =>
      obtain rfl : k = p.length := by omega
      have HE := Lib.hid (show lessN p q = false by rw [HR.out, List.drop_of_length_le (Nat.le_refl _)]; rfl)
      go_wp2
      go_ret
      exact ⟨ret_bool HE.out.symm, hq⟩
    have hlq : k < q.length := by have := HL.out; omega
    have d1 : wr.cell? ⟨ub, uo + k, none⟩ = some (.int .i64 (p[k] : Int)) := by
      rw [hq.cell, huc k (by rw [natsI_len]; exact hlt), natsI_get]
    have d2 : wr.cell? ⟨vb, vo + k, none⟩ = some (.int .i64 (q[k] : Int)) := by
      rw [hq.cell, hvc k (by rw [natsI_len]; exact hlq), natsI_get]
    obtain ⟨rfl, -⟩ := hua (by omega)
    obtain ⟨rfl, -⟩ := hva (by omega)
    have hst := ltN_step hlt hlq
    rw [← HR.out] at hst
    have HST := Lib.hid hst
    clear hst
    generalize p[k] = x at *
    generalize q[k] = y at *
    by_cases he : x = y
    · subst he
      have HE := Lib.hid (HST.out.trans (if_pos rfl))
      have h3 : ((x : Int) == (x : Int)) = true := by simp
      go_wp2
      go_quiet (fail)
      go_wp2
      go_roundw
      case rel => exact ⟨k + 1, by omega, by go_num, HE, hq.drewN _⟩
      case measure => simp [RowKit.intOf]; omega
    · have HE := Lib.hid (HST.out.trans (if_neg he))
      have h3 : ((x : Int) == (y : Int)) = false := by rw [beq_eq_false_iff_ne]; omega
      have h4 : (x == y) = false := by rw [beq_eq_false_iff_ne]; exact he
      clear he
      go_wp2
      go_quiet (fail)
      go_wp2
      go_quiet (fail)
      go_wp2
      go_ret
      exact ⟨ret_bool (by first | exact HE.out.symm | (rw [HE.out]; simp)), by repeat (first | exact hq | refine Drawn.drewN ?_ _)⟩
set_option maxHeartbeats 1000000 in
theorem loopResult_any {B : Nat} {u : Value} {r : List Nat} {w : World} (hr : (r = [] ∧ u = .slice none 0 0) ∨ (r ≠ [] ∧ ∃ a n c, u = .slice (some a) n c)) (hu : Own w B 3 1 u r.length ((natsI r).map (.int .i64))) (hl : r.length ≤ 1000) :
    Calls Tryd.prog 87 #[u] w fun e w' => ∃ x, e = .returned x ∧ Own w' w.heap.size 2 1 x (natsI r).length ((natsI r).map (.int .i64)) ∧ Below w.heap.size w w' := by
  rcases hr with ⟨rfl, rfl⟩ | ⟨hr, a, n, c, rfl⟩
  · have hnn := nilInts
    go_enter Tryd.func87, Tryd.ntmps87
    go_wp2
    go_ret
    exact ⟨_, rfl, by simpa [natsI] using Own.nil w w.heap.size 2 1, Below.refl _ _⟩
  · have hnn := nilInts
    have hwd := wide_any (hu.ints (by omega)) (by rw [natsI_len]; omega)
    obtain ⟨a', c', he⟩ := hu.isSlice
    simp only [Value.slice.injEq] at he
    obtain ⟨-, rfl, -⟩ := he
    rw [natsI_len] at *
    go_enter Tryd.func87, Tryd.ntmps87
    go_wp2_with fail
    refine hwd.mono ?_
    rintro e w1 ⟨x, rfl, hx, hb⟩
    go_wp2
    go_ret
    exact ⟨_, rfl, hx, hb⟩
noncomputable def hasB (H : List Nat) : Bool := decide ((H.length : Int) - ((partsN H (firstN H.length)).length : Int) < (((H.map popN).sum / 2 : Nat) : Int))
def popTo (H : List Nat) (k : Nat) : Nat := ((H.take k).map popN).sum
theorem popTo_succ {H : List Nat} {k : Nat} (hk : k < H.length) : popTo H (k + 1) = popTo H k + popN H[k] := by
  unfold popTo
  rw [List.take_succ_eq_append_getElem hk, List.map_append, List.sum_append]; simp
theorem popTo_le (H : List Nat) : ∀ k, k ≤ H.length → popTo H k ≤ 32 * k
  | 0, _ => by simp [popTo]
  | k + 1, hk => by
    have := popTo_le H k (by omega)
    have h2 := popN_32 (H[k]'(by omega))
    rw [popTo_succ (by omega)]; omega
theorem popTo_all (H : List Nat) : popTo H H.length = (H.map popN).sum := by unfold popTo; rw [List.take_length]
set_option maxHeartbeats 2000000 in
theorem hasLoop_any {S : Nat → Prop} {av : Value} {H : List Nat} {w : World} (ht : Tab w) (hN : NetI H) (hv : SlI S w .u32 av (natsI H)) :
    Calls Tryd.prog 86 #[av] w fun e w' => e = .returned (.bool (hasB H)) ∧ Below w.heap.size w w' := by
  have hv0 := hv
  obtain ⟨va, vb, vo, vc, rfl, hvl, hva, hvc⟩ := hv
  simp only [natsI_len] at *
  have h16 := hN.le
  have HN := Lib.hid hN
  have H0 := Lib.hid (show popTo H 0 = 0 by simp [popTo])
  have HB := Lib.hid (show hasB H = decide ((H.length : Int) - ((partsN H (firstN H.length)).length : Int) < ((popTo H H.length / 2 : Nat) : Int)) by rw [popTo_all]; rfl)
  clear hN
  go_enter Tryd.func86, Tryd.ntmps86
  go_wp2
  go_loopw [8, 3] (fun iv sv wr => ∃ k : Nat, k ≤ H.length ∧ iv = .int .i64 k ∧ sv = .int .i64 (popTo H k : Nat) ∧ Drawn w wr) (fun iv _ _ => H.length - (RowKit.intOf iv).toNat)
  case atStart => exact ⟨0, Nat.zero_le _, rfl, by rw [H0.out]; rfl, Drawn.refl _⟩
  case round =>
    obtain ⟨k, hk, rfl, rfl, hq⟩ := hrel
    have hle := popTo_le H k hk
    by_cases hlt : k < H.length
    · have d1 : wr.cell? ⟨vb, vo + k, none⟩ = some (.int .u32 (H[k] : Int)) := by
        rw [hq.cell, hvc k (by rw [natsI_len]; exact hlt), natsI_get]
      obtain ⟨rfl, -⟩ := hva (by omega)
      have hm : H[k] < 65536 := by
        have h1 := HN.out.lt _ (List.getElem_mem hlt)
        have h2 := Nat.pow_le_pow_right (n := 2) (by omega) h16
        omega
      have hst := popTo_succ hlt
      rw [popN_I] at hst
      have HST := Lib.hid hst
      have hbl : (bitsI H[k]).length ≤ 32 := bitsI_len _
      clear hst
      generalize H[k] = m at *
      generalize popTo H k = s at *
      go_wp2_with (go_at_call 150; refine (size_any _ _ hm).mono ?_; rintro e w1 ⟨rfl, hd⟩)
      go_roundw
      case rel => exact ⟨k + 1, by omega, by go_num, by rw [HST.out]; congr 1, hq.trans hd⟩
      case measure => simp [RowKit.intOf]; omega
    · obtain rfl : k = H.length := by omega
      have hpl := partsN_len H (firstN H.length)
      have hfl : firstN H.length < 2 ^ H.length := by unfold firstN; have := Nat.two_pow_pos H.length; omega
      have hpa := partsOf_any (ht.drawn hq) (hv0.drawn hq) h16 (fun m hm => Nat.lt_trans (HN.out.lt m hm) (pow16_lt h16)) hfl
      have hqd : Int.tdiv ((popTo H H.length : Nat) : Int) 2 = ((popTo H H.length / 2 : Nat) : Int) := by
        rw [Int.tdiv_eq_ediv_of_nonneg (by omega)]; omega
      generalize popTo H H.length = s at *
      generalize partsN H (firstN H.length) = ps at *
      go_wp2_with fail
      refine (allOf_any _ _ _ _ (by omega)).mono ?_
      rintro e w1 ⟨rfl, rfl⟩
      go_wp2_with fail
      refine hpa.mono ?_
      rintro e w1 ⟨u, rfl, hu, hb⟩
      obtain ⟨ua, uc, rfl⟩ := hu.isSlice
      clear hpa
      go_wp2
      go_ret
      exact ⟨ret_bool (by rw [HB.out, decide_eq_decide]; omega), (hq.below _).trans (hb.mono (hq.below w.heap.size).size)⟩
theorem nets_NetI {g : List (List Int)} (hg : GOk g) : NetI (netsL g) := by
  have hw := WideI.of hg
  have hl := netsL_len g
  refine ⟨by rw [hl]; exact hg.hi, by rw [hl]; exact hw.lt, fun x y hx hy h => ?_⟩
  rw [hl] at hx hy
  have hs := adj_sym hg (wi := firstN g.length) (by unfold firstN; have := Nat.two_pow_pos g.length; omega) false
  exact hs x y (first_bit hx) (first_bit hy) h
noncomputable def leastF (g : List (List Int)) : List Nat := if gokB g = true then pickG (LoopN (netsL g) g.length) else []
theorem gstep_one {H : List Nat} {n : Nat} : GStep H n 1 = LoopN H n := by
  funext q
  apply propext
  exact ⟨fun h => h.1, fun h => ⟨h, q.length - 3, by have := h.three; omega⟩⟩
theorem pickG_len {G : List Nat → Prop} {n : Nat} (h : ∀ q, G q → q.length ≤ n) : (pickG G).length ≤ n := by
  by_cases he : ∃ q, LeastG G q
  · obtain ⟨q, hq⟩ := he
    rw [pick_some hq]; exact h q hq.1
  · unfold pickG
    rw [dif_neg he]; simp
theorem no_loop {H : List Nat} (hN : NetI H) (h : hasB H = false) : ∀ q, ¬ LoopN H H.length q := fun q hq => by
  have hf := forest hN.le hN.lt (F := firstN H.length) (by unfold firstN; have := Nat.two_pow_pos H.length; omega) (fun v hv => first_bit hv) hN.sym hq
  simp only [hasB, decide_eq_false_iff_not] at h
  exact h hf
set_option maxHeartbeats 4000000 in
theorem implLeastLoop_any {S : Nat → Prop} {v : Value} {g : List (List Int)} {w : World} (ht : Tab w) (hv : SlR S w v g) :
    Calls Tryd.prog 25 #[.agg #[v]] w fun e w' => ∃ u, e = .returned u ∧ Own w' w.heap.size 2 1 u (natsI (leastF g)).length ((natsI (leastF g)).map (.int .i64)) ∧ Below w.heap.size w w' := by
  obtain ⟨va, vc, rfl⟩ := hv.slice
  have hb0 : Below w.heap.size w (w.alloc (.cells #[.slice va g.length vc] 29)) := (Below.refl _ _).alloc (Nat.le_refl _) _
  have hgo := implGraphOk_any _ _ _ (hv.below hb0 (Nat.le_refl _))
  by_cases hgb : gokB g = true
  case neg =>
    have HE := Lib.hid (show leastF g = [] by rw [leastF, if_neg hgb])
    rw [Bool.not_eq_true] at hgb
    rw [hgb] at hgo
    clear hgb
    rw [HE.out]
    go_enter Tryd.func25, Tryd.ntmps25
    go_wp2_with fail
    refine hgo.mono ?_
    rintro e w1 ⟨rfl, hb1⟩
    go_wp2
    go_ret
    exact ⟨_, rfl, by simpa [natsI] using Own.nil w1 w.heap.size 2 1, hb0.trans (hb1.mono hb0.size)⟩
  have hg := gokB_iff.1 hgb
  have HE := Lib.hid (show leastF g = pickG (LoopN (netsL g) g.length) by rw [leastF, if_pos hgb])
  rw [hgb] at hgo
  have hN := nets_NetI hg
  have HN := Lib.hid hN
  have HG := Lib.hid hg
  have hlen := netsL_len g
  clear hgb
  rw [HE.out]
  go_enter Tryd.func25, Tryd.ntmps25
  go_wp2_with fail
  refine hgo.mono ?_
  rintro e w1 ⟨rfl, hb1⟩
  clear hgo
  have hq1 := hb0.trans (hb1.mono hb0.size)
  have c1 : w1.cell? ⟨w.heap.size, 0, none⟩ = some (.slice va g.length vc) := (hb1.cell (p := ⟨w.heap.size, 0, none⟩) (by simp)).trans (by simp [go_sem])
  go_wp2_with fail
  refine (netsOf_any _ _ _ (hv.below hq1 (Nat.le_refl _)) HG.out).mono ?_
  rintro e w2 ⟨na, rfl, hna, hb2⟩
  have hq2 := hq1.trans (hb2.mono hq1.size)
  have c2 := (hb2.cell (cell_lt c1)).trans c1
  go_wp2_with fail
  refine (hasLoop_any (ht.below hq2 (Nat.le_refl _)) HN.out (hna.ints (by have := HG.out.hi; omega))).mono ?_
  rintro e w3 ⟨rfl, hb3⟩
  have hq3 := hq2.trans (hb3.mono hq2.size)
  have c3 := (hb3.cell (cell_lt c2)).trans c2
  clear c1 c2
  cases hh : hasB (netsL g) with
  | false =>
    have HP := Lib.hid (show pickG (LoopN (netsL g) g.length) = [] from pick_none fun q hq => no_loop HN.out hh q (by rw [hlen]; exact hq))
    go_wp2
    go_ret
    rw [HP.out]
    exact ⟨_, rfl, by simpa [natsI] using Own.nil w3 w.heap.size 2 1, hq3⟩
  | true =>
    clear hh
    go_wp2_with fail
    refine (netsOf_any _ _ _ (hv.below hq3 (Nat.le_refl _)) HG.out).mono ?_
    rintro e w4 ⟨nb, rfl, hnb, hb4⟩
    have hq4 := hq3.trans (hb4.mono hq3.size)
    have hsl := smallestLoop_any (step := 1) (ht.below hq4 (Nat.le_refl _)) HN.out (hnb.ints (by have := HG.out.hi; omega)) (by omega)
    rw [gstep_one, hlen] at hsl
    have hpl := pickG_len (G := LoopN (netsL g) g.length) (n := 16) (fun q hq => by have := loop_len hq.path; have := HG.out.hi; omega)
    obtain ⟨r, hr⟩ : ∃ r, r = pickG (LoopN (netsL g) g.length) := ⟨_, rfl⟩
    rw [← hr] at hsl hpl
    have HRR := Lib.hid hr
    clear hr
    go_wp2_with fail
    refine hsl.mono ?_
    rintro e w5 ⟨u, rfl, hor, hu, hb5⟩
    have hq5 := hq4.trans (hb5.mono hq4.size)
    have hq5s := hq5.size
    clear hsl
    go_wp2_with fail
    refine (loopResult_any hor hu (by omega)).mono ?_
    rintro e w6 ⟨x, rfl, hx, hb6⟩
    go_wp2
    go_ret
    rw [← HRR.out]
    exact ⟨_, rfl, Own.weak hx (by omega), hq5.trans (hb6.mono hq5.size)⟩
end Go.Proofs.YthpbeiihlembnaaDoor
