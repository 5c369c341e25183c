/- Distances inside a set, by the reference: a queue. -/
import Derived.Test.YtfccpencgengaaaDoorDist1
import Derived.Test.YtfccpencgengaaaDoorQueue
import Derived.Test.YtfccpencgengaaaDoorSets
import Derived.Test.YtfccpencgengaaaDoorJoin
namespace Go.Proofs.YtfccpencgengaaaDoor
open Go.RowKit
theorem ball_many {a : List Nat} {wi v n : Nat} (h : DistI a wi v n) : ∀ (j x : Nat), (ballN a wi v j).testBit x = true → (∀ i, i < j → (ballN a wi v i).testBit x = false) → j + 1 ≤ popN (ballN a wi v j)
  | 0, x, hx, _ => by
    have := pop_more (a := 0) (b := ballN a wi v 0) (by omega) (ball_lt32 h 0) (fun i hi => by simp at hi) hx (by simp)
    omega
  | j + 1, x, hx, hn => by
    rcases (ball_succ h j x).1 hx with h1 | ⟨hw, y, hy, hb⟩
    · rw [hn j (by omega)] at h1; cases h1
    · have ih := ball_many h j y hy (fun i hi => by
        cases e : (ballN a wi v i).testBit y
        · rfl
        · have : (ballN a wi v (i + 1)).testBit x = true := (ball_succ h i x).2 (.inr ⟨hw, y, e, hb⟩)
          rw [hn (i + 1) (by omega)] at this; cases this)
      have := pop_more (ball_lt32 h j) (ball_lt32 h (j + 1)) (fun i hi => ball_mono h hi (Nat.le_succ j)) hx (hn j (by omega))
      omega
theorem DP.xsmall {a : List Nat} {wi v n : Nat} {D : Nat → Int} {M d x : Nat} {T Q1 Q2 : List Nat} (hI : DistI a wi v n) (h : DP a wi v n D M d x T Q1 Q2) : 0 ≤ D x ∧ D x ≤ 16 := by
  have h16 := hI.wide.le
  rcases h.cor x (bit_lt_of h.lt h.hx.1) with ⟨_, h2⟩ | ⟨_, j, _, h2, h3, h4⟩
  · rw [h.hx.1] at h2; cases h2
  · have := ball_many hI j x h3 h4
    have := popN_pow (by omega) (ball_lt hI j)
    omega
/-- How many have no distance yet. -/
def negD (D : Nat → Int) (n : Nat) : Nat := ((List.range n).filter fun u => decide (D u < 0)).length
def negW (w : World) (ob n : Nat) : Nat := ((List.range n).filter fun u => match w.cell? ⟨ob, u, none⟩ with | some (.int _ x) => decide (x < 0) | _ => false).length
theorem negW_row {w : World} {ob n : Nat} {D : Nat → Int} (h : Row w ob n (tabV D)) : negW w ob n = negD D n := by
  unfold negW negD
  congr 1
  apply List.filter_congr
  intro u hu
  have h1 := (h u (List.mem_range.1 hu)).1
  unfold tabV at h1
  rw [h1]
theorem negD_set {D : Nat → Int} {n u : Nat} {x : Int} (hu : u < n) (h : D u < 0) (hx : 0 ≤ x) : negD (fun y => if u = y then x else D y) n + 1 = negD D n := by
  unfold negD
  rw [← filter_less (p := fun u => decide (D u < 0)) (v := u) List.nodup_range (List.mem_range.2 hu) (by simpa using h)]
  congr 2
  apply List.filter_congr
  intro y _
  by_cases e : u = y
  · subst e; simp; omega
  · simp [e]
theorem negD_le (D : Nat → Int) (n : Nat) : negD D n ≤ n := by
  have := List.length_filter_le (fun u => decide (D u < 0)) (List.range n)
  simpa [negD] using this
set_option maxRecDepth 100000 in
set_option maxHeartbeats 8000000 in
theorem l18Steps_any {S S' : Nat → Prop} {v u : Value} {g : List (List Int)} {s f : Nat} {w : World} (hg : GOk g) (hv : SlR S w v g) (hu : SlI S' w .i64 u (bitsI s)) (hs : s < 2 ^ g.length) (hf : f < g.length) :
    Calls Tryd.prog 61 #[.agg #[v], u, .int .i64 (f : Int)] w fun e w' => ∃ ob c D, e = .returned (.slice (some ⟨ob, 0, none⟩) g.length c) ∧ w.heap.size ≤ ob ∧ Row w' ob g.length (tabV D) ∧ IsDist (netsL g) s f g.length D ∧ Below w.heap.size w w' := by
  have h16 := hg.hi
  have hI : DistI (netsL g) s f g.length := ⟨WideI.of hg, hs, hf⟩
  have hs32 : s < 4294967296 := Nat.lt_trans hs (pow16_lt h16)
  have HI := Lib.hid hI
  have HG := Lib.hid hg
  have HS0 := Lib.hid (DQ.start hI)
  clear hI
  obtain ⟨a, b, off, cap, fr, rfl, hl, ha, hc0⟩ := hv
  have hq0 : Below w.heap.size w ((w.alloc (.cells #[.slice a g.length cap] 27)).alloc (.cells #[] 2)) := ((Below.refl _ _).alloc (Nat.le_refl _) _).alloc (by simp) _
  have ho0 : Own ((w.alloc (.cells #[.slice a g.length cap] 27)).alloc (.cells #[] 2)) (w.heap.size + 1) 2 1 (.slice (some ⟨w.heap.size + 1, 0, none⟩) 0 0) 0 [] := by
    have := World.ownsRow_lit (base := w.heap.size + 1) (e := 2) (size := 1) (w.alloc (.cells #[.slice a g.length cap] 27)) #[] 0 (by simp) (by unfold maxLen; omega) rfl
    simpa [Own] using this
  go_enter Tryd.func61, Tryd.ntmps61
  go_wp2
  go_loopw [7, 8] (fun o i wr => ∃ k : Nat, k ≤ g.length ∧ i = .int .i64 k ∧ Own wr (w.heap.size + 1) 2 1 o k (List.replicate k (.int .i64 (-1))) ∧ Below w.heap.size w wr ∧ wr.cell? ⟨w.heap.size, 0, none⟩ = some (.slice a g.length cap)) (fun _ i _ => g.length - (intOf i).toNat)
  case atStart => exact ⟨0, Nat.zero_le _, rfl, ho0, hq0, by simp [go_sem]⟩
  case round =>
    clear ho0 hq0
    obtain ⟨k, hk, rfl, ho, hq, hbx⟩ := hrel
    have hB2 : w.heap.size + 1 ≤ wr.heap.size := cell_lt hbx
    by_cases hlt : k < g.length
    case pos =>
      go_wp2_with (at_builtin; refine wpList_append1b elI64 rfl _ _ rfl ho rfl rfl rfl rfl (by omega) hB2 ?_; intro o' w3 ho3 hkept hmv)
      have hq3 := hkept.below hq hq.size (fun c h => by have := (ho.lt c h).1; omega)
      have hbx3 : w3.cell? ⟨w.heap.size, 0, none⟩ = some (.slice a g.length cap) := (World.cell?_of_block (a := ⟨w.heap.size, 0, none⟩) (hkept.2.2.2.2 w.heap.size (cell_lt hbx) (fun e => by have := (ho.lt _ e.symm).1; omega))).trans hbx
      go_roundw
      case rel => exact ⟨k + 1, by omega, by go_num, by rw [List.replicate_succ']; exact ho3, hq3, hbx3⟩
      case measure => simp [intOf]; omega
    obtain rfl : k = g.length := by omega
    obtain ⟨ob, oc, rfl⟩ := own_some ho (by omega)
    have hob := ho.lt ob rfl
    have hr : Row wr ob g.length (tabV fun _ => -1) := Row.ofOwn ho (fun i hi => by simp [tabV])
    obtain ⟨c1, f1⟩ := hr f hf
    have hr1 : Row (wr.setCell ⟨ob, f, none⟩ (.int .i64 0)) ob g.length (tabV fun y => if f = y then 0 else -1) := hr.set hf fun i _ => by
      unfold tabV
      by_cases e : f = i <;> simp [e]
    have hq1 := hq.setCell (p := ⟨ob, f, none⟩) (by simp; omega) (.int .i64 0)
    have hbx1 : (wr.setCell ⟨ob, f, none⟩ (.int .i64 0)).cell? ⟨w.heap.size, 0, none⟩ = some (.slice a g.length cap) := (World.cell?_of_block (a := ⟨w.heap.size, 0, none⟩) (Below.heap_setCell _ _ _ _ (by simp; omega))).trans hbx
    have hqe : OwnQ ((wr.setCell ⟨ob, f, none⟩ (.int .i64 0)).alloc (.cells #[.int .i64 (f : Int)] 2)) (w.heap.size + 1) (.slice (some ⟨wr.heap.size, 0, none⟩) 1 1) ((natsI [f]).map (.int .i64)) := by
      have := World.ownsRow_lit (base := w.heap.size + 1) (e := 2) (size := 1) (wr.setCell ⟨ob, f, none⟩ (.int .i64 0)) #[.int .i64 (f : Int)] 1 (by simpa using hB2) (by unfold maxLen; omega) rfl
      have h2 : Own ((wr.setCell ⟨ob, f, none⟩ (.int .i64 0)).alloc (.cells #[.int .i64 (f : Int)] 2)) (w.heap.size + 1) 2 1 (.slice (some ⟨wr.heap.size, 0, none⟩) 1 1) 1 [.int .i64 (f : Int)] := by simpa [Own] using this
      exact OwnQ.ofOwn h2
    have hba : Below (wr.setCell ⟨ob, f, none⟩ (.int .i64 0)).heap.size (wr.setCell ⟨ob, f, none⟩ (.int .i64 0)) ((wr.setCell ⟨ob, f, none⟩ (.int .i64 0)).alloc (.cells #[.int .i64 (f : Int)] 2)) := (Below.refl _ _).alloc (Nat.le_refl _) _
    have hr2 := hr1.below hba (Nat.le_refl _)
    have hq2 := hq1.trans (hba.mono hq1.size)
    have hbx2 := (hba.cell (cell_lt hbx1)).trans hbx1
    have hap2 : Apart (.slice (some ⟨ob, 0, none⟩) g.length oc) (.slice (some ⟨wr.heap.size, 0, none⟩) 1 1) := apart_lit (by omega)
    have HD0 : RowKit.Hid (∃ M d Q1 Q2, [f] = Q1 ++ Q2 ∧ DQ (netsL g) s f g.length (fun y => if f = y then 0 else -1) M d Q1 Q2) := Lib.hid ⟨_, _, [f], [], rfl, HS0.out⟩
    have HOB := Lib.hid (show w.heap.size + 1 ≤ ob from hob.1)
    unfold tabV at c1
    clear hr1 hq1 hbx1 hba HS0
    go_wp2
    clear c1 f1 hr hq hbx hob
    go_loopw [9] (fun q wr => ∃ (D : Nat → Int) (Q : List Nat), OwnQ wr (w.heap.size + 1) q ((natsI Q).map (.int .i64)) ∧ Apart (.slice (some ⟨ob, 0, none⟩) g.length oc) q ∧ Row wr ob g.length (tabV D) ∧ RowKit.Hid (∃ M d Q1 Q2, Q = Q1 ++ Q2 ∧ DQ (netsL g) s f g.length D M d Q1 Q2) ∧ RowKit.Hid (2 * negD D g.length + Q.length ≤ 40) ∧ Below w.heap.size w wr ∧ wr.cell? ⟨w.heap.size, 0, none⟩ = some (.slice a g.length cap)) (fun q w' => 2 * negW w' ob g.length + lenV q)
    case atStart => exact ⟨_, [f], hqe, hap2, hr2, HD0, Lib.hid (by have := negD_le (fun y => if f = y then (0 : Int) else -1) g.length; simp only [List.length_singleton]; omega), hq2, hbx2⟩
    case round =>
      clear hqe hap2 hr2 HD0 hq2 hbx2 ho hB2
      obtain ⟨wo, rfl⟩ : ∃ wx : World, wx = wr := ⟨_, rfl⟩
      obtain ⟨D, Q, hqu, hap, hr, HD, H40, hq, hbx⟩ := hrel
      have HNEG := Lib.hid (negW_row hr)
      have hqu1 := hqu
      obtain ⟨qg, qo, qc, rfl, -⟩ := hqu1
      cases Q with
      | nil =>
        have hE : IsDist (netsL g) s f g.length D := by
          obtain ⟨M, d, Q1, Q2, e, h⟩ := HD.out
          have e2 := List.append_eq_nil_iff.1 e.symm
          rw [e2.1, e2.2] at h
          exact h.end_ HI.out
        have HE := Lib.hid hE
        clear hE
        simp only [natsI, List.map_nil, List.length_nil] at hqu ⊢
        go_wp2
        go_ret
        exact ⟨_, _, D, rfl, by have := HOB.out; omega, hr, HE.out, hq⟩
      | cons x Q =>
        have hPOP : ∃ M d R1 R2, Q = R1 ++ R2 ∧ DP (netsL g) s f g.length D M d x [] R1 R2 := by
          obtain ⟨M, d, Q1, Q2, e, h⟩ := HD.out
          obtain ⟨d', R1, R2, e2, h2⟩ := h.norm HI.out e.symm
          exact ⟨M, d', R1, R2, e2, h2.pop⟩
        have HP := Lib.hid hPOP
        have hxn : x < g.length := by
          obtain ⟨M, d, R1, R2, _, h⟩ := hPOP
          exact bit_lt_of h.lt h.hx.1
        clear hPOP HD
        simp only [natsI, List.map_cons, List.length_cons, List.length_map] at hqu ⊢
        have hqu0 := hqu
        obtain ⟨qg', qo', qc', hqe, -, -, -, -, -, -, hcells⟩ := hqu0
        simp only [Value.slice.injEq, Option.some.injEq, Addr.mk.injEq, and_true] at hqe
        obtain ⟨⟨rfl, rfl⟩, -, rfl⟩ := hqe
        have hfirst := hcells 0 (by simp)
        simp only [Nat.add_zero, List.getElem_cons_zero] at hfirst
        clear hcells
        have hrest := hqu.cut hap
        simp only [Nat.add_sub_cancel] at hrest
        obtain ⟨qv, hqv, hqr, hap2⟩ := hrest
        have hone : (1 : Int) ≤ ((Q.length + 1 : Nat) : Int) := by omega
        clear hqu hap
        have hgy : (netsL g).getD x 0 = maskL g[x] := netsL_get hxn
        have hR : ∃ R : List Nat, g[x] = natsI R ∧ (∀ u, u ∈ R ↔ ((netsL g).getD x 0).testBit u = true) ∧ (∀ u ∈ R, u < g.length) ∧ R.length ≤ 32 := by
          have h32 := HG.out.ge32 hxn
          refine ⟨bitsN (maskL g[x]), ?_, fun u => ?_, fun u hu => ?_, bitsN_len _⟩
          · rw [← bits_natsI3, bitsI_maskL (rise_sorted (HG.out.rise x hxn)) h32]
          · rw [hgy, mem_bitsN (maskL_lt32 h32)]
          · exact bit_lt_of (maskL_lt fun z hz => HG.out.ge hxn z hz) ((mem_bitsN (maskL_lt32 h32)).1 hu)
        obtain ⟨R, hgR, hRm, hRn, hR32⟩ := hR
        obtain ⟨hcell2, hrow⟩ := hc0 x hxn
        obtain ⟨rfl, -⟩ := ha (by omega)
        rw [hgR] at hrow
        obtain ⟨ra, rb, ro, rc, hre, hrl, hra, hrc⟩ := hrow
        rw [hre] at hcell2
        rw [natsI_len] at hcell2 hrl hra
        have HRM := Lib.hid hRm
        have HQ0 := Lib.hid (show 2 * negD D g.length + Q.length ≤ 2 * negD D g.length + Q.length from Nat.le_refl _)
        clear hRm hgR hgy hre
        rcases hqv with ⟨rfl, rfl⟩ | ⟨hc1, rfl⟩
        all_goals (
          go_wp2
          go_loopw [9, 11] (fun q i wr => ∃ (D2 : Nat → Int) (Q2 : List Nat) (j : Nat), i = .int .i64 j ∧ j ≤ R.length ∧ OwnQ wr (w.heap.size + 1) q ((natsI Q2).map (.int .i64)) ∧ Apart (.slice (some ⟨ob, 0, none⟩) g.length oc) q ∧ Row wr ob g.length (tabV D2) ∧ RowKit.Hid (∃ M d R1 R2, Q2 = R1 ++ R2 ∧ DP (netsL g) s f g.length D2 M d x (R.take j) R1 R2) ∧ RowKit.Hid (2 * negD D2 g.length + Q2.length ≤ 2 * negD D g.length + Q.length) ∧ Below w.heap.size w wr ∧ wr.cell? ⟨w.heap.size, 0, none⟩ = some (.slice (some ⟨b, off, none⟩) g.length cap)) (fun _ i _ => R.length - (intOf i).toNat)
          case atStart => exact ⟨D, Q, 0, rfl, Nat.zero_le _, (by simpa [natsI] using hqr), hap2, hr, HP, HQ0, hq, hbx⟩
          case round =>
            clear hqr hap2 hr HP HQ0 hq hbx hfirst
            obtain ⟨wi, rfl⟩ : ∃ wi : World, wi = wr := ⟨_, rfl⟩
            obtain ⟨D2, Q2, j, rfl, hj, hqu, hap, hr, HP, HQ, hq, hbx⟩ := hrel
            have hB2 : w.heap.size + 1 ≤ wi.heap.size := cell_lt hbx
            have hcx := (hq.cell (p := ⟨b, off + x, none⟩) (cell_lt hcell2)).trans hcell2
            by_cases hjl : j < R.length
            case neg =>
              obtain rfl : j = R.length := by omega
              have hQD : ∃ M d Q1 Q2', Q2 = Q1 ++ Q2' ∧ DQ (netsL g) s f g.length D2 M d Q1 Q2' := by
                obtain ⟨M, d, R1, R2, e, h⟩ := HP.out
                exact ⟨M, d, R1, R2, e, h.close (fun u hu => by rw [List.take_length]; exact (HRM.out u).2 hu)⟩
              have HQD := Lib.hid hQD
              have HN2 := Lib.hid (negW_row hr)
              clear hQD
              go_wp2
              go_roundw
              case rel => exact ⟨D2, Q2, hqu, hap, hr, HQD, Lib.hid (by have h1 := HQ.out; have h2 := H40.out; simp only [List.length_cons] at h2; omega), hq, hbx⟩
              case measure =>
                have h1 := HN2.out
                have h2 := HNEG.out
                have h3 := HQ.out
                obtain ⟨_, _, _, rfl, -⟩ := hqu
                simp only [lenV, List.length_map, natsI_len] at *
                rw [h1, h2]; omega
            have hcr := hrc j (by rw [natsI_len]; exact hjl)
            rw [natsI_get] at hcr
            obtain ⟨rfl, -⟩ := hra (by omega)
            have hzb := (HRM.out R[j]).1 (List.getElem_mem hjl)
            have hzn := hRn R[j] (List.getElem_mem hjl)
            have htk : R.take (j + 1) = R.take j ++ [R[j]] := List.take_succ_eq_append_getElem hjl
            have HTK := Lib.hid htk; clear htk
            generalize R[j] = z at *
            have hcz := (hq.cell (p := ⟨rb, ro + j, none⟩) (cell_lt hcr)).trans hcr
            obtain ⟨co, fo⟩ := hr z hzn
            obtain ⟨cx, -⟩ := hr x hxn
            unfold tabV at co cx
            have hhas := l1Has_any _ _ (z : Int) wi (hu.below hq (Nat.le_refl _))
            have hmem : decide ((z : Int) ∈ bitsI s) = s.testBit z := by
              rw [Bool.eq_iff_iff, decide_eq_true_eq, mem_bitsI hs32]; simp
            rw [hmem] at hhas
            have HZ := Lib.hid hzb
            have hxs : 0 ≤ D2 x ∧ D2 x ≤ 16 := by
              obtain ⟨M, d, R1, R2, _, h⟩ := HP.out
              exact h.xsmall HI.out
            clear hmem hzb
            by_cases hgo : s.testBit z = true ∧ D2 z < 0
            · have hADD : ∃ M d R1 R2, Q2 ++ [z] = R1 ++ R2 ∧ DP (netsL g) s f g.length (fun y => if z = y then D2 x + 1 else D2 y) M d x (R.take (j + 1)) R1 R2 := by
                obtain ⟨M, d, R1, R2, e, h⟩ := HP.out
                refine ⟨M ||| bit z, d, R1, R2 ++ [z], by rw [e, List.append_assoc], ?_⟩
                rw [HTK.out]
                exact h.add HI.out hzn hgo.1 HZ.out ((h.neg hzn).1 hgo.2)
              have HADD := Lib.hid hADD
              have HNG := Lib.hid (negD_set (D := D2) (x := D2 x + 1) hzn hgo.2 (by omega))
              have hneg := hgo.2
              rw [hgo.1] at hhas
              have hr2 : Row (wi.setCell ⟨ob, z, none⟩ (.int .i64 (D2 x + 1))) ob g.length (tabV (fun y => if z = y then D2 x + 1 else D2 y)) := tab_set hr hzn
              have hap0 := hap
              have hqu2 := hqu.keep (w' := wi.setCell ⟨ob, z, none⟩ (.int .i64 (D2 x + 1))) (by simp) (fun k hk => Below.heap_setCell _ _ _ _ (by
                have := hap ob rfl
                intro e; subst e; exact this hk))
              have hq2 := hq.setCell (p := ⟨ob, z, none⟩) (by have := HOB.out; simp; omega) (.int .i64 (D2 x + 1))
              have hbx2 : (wi.setCell ⟨ob, z, none⟩ (.int .i64 (D2 x + 1))).cell? ⟨w.heap.size, 0, none⟩ = some (.slice (some ⟨b, off, none⟩) g.length cap) := (World.cell?_of_block (a := ⟨w.heap.size, 0, none⟩) (Below.heap_setCell _ _ _ _ (by have := HOB.out; simp; omega))).trans hbx
              have hln : ((natsI Q2).map (Value.int .i64)).length + 1 ≤ 1099511627 := by
                have h1 := HQ.out
                have h2 := H40.out
                simp only [List.length_cons] at h2
                simp only [List.length_map, natsI_len]; omega
              clear hADD hgo hr HP
              go_wp2_with (first | (go_at_call 67; refine hhas.mono ?_; rintro e w' ⟨rfl, rfl⟩) | (at_builtin; refine wpList_appendQ elI64 rfl _ _ rfl hqu2 rfl (by first | rfl | simp) rfl rfl hln (by simpa using hB2) ?_; intro q' w5 hqu5 hkept hmv))
              have hq5 := hkept.below hq2 hq2.size (fun c h => by have := (hqu2.lt c h).1; omega)
              have hbx5 : w5.cell? ⟨w.heap.size, 0, none⟩ = some (.slice (some ⟨b, off, none⟩) g.length cap) := (World.cell?_of_block (a := ⟨w.heap.size, 0, none⟩) (hkept.2.2.2.2 w.heap.size (cell_lt hbx2) (fun e => by have := (hqu2.lt _ e.symm).1; omega))).trans hbx2
              have hr5 := hr2.keep (w' := w5) (hkept.2.2.2.2 ob (hr2.lt (by omega)) (fun e => hap0 ob rfl e.symm))
              have hap5 : Apart (.slice (some ⟨ob, 0, none⟩) g.length oc) q' := fun c h1 h2 => by
                rcases hmv with h | h
                · rw [h] at h2; exact hap0 c h1 h2
                · rw [h] at h2
                  have h3 := hr2.lt (by omega)
                  simp [Value.ownBlock] at h1 h2; simp at h3; omega
              have HQ5 := Lib.hid (show 2 * negD (fun y => if z = y then D2 x + 1 else D2 y) g.length + (Q2 ++ [z]).length ≤ 2 * negD D g.length + Q.length by
                have h1 := HQ.out
                have h2 := HNG.out
                rw [List.length_append, List.length_singleton]; omega)
              go_roundw
              case rel => exact ⟨_, Q2 ++ [z], j + 1, by go_num, by omega, by simpa [natsI] using hqu5, hap5, hr5, HADD, HQ5, hq5, hbx5⟩
              case measure => simp [intOf]; omega
            · have hSK : ∃ M d R1 R2, Q2 = R1 ++ R2 ∧ DP (netsL g) s f g.length D2 M d x (R.take (j + 1)) R1 R2 := by
                obtain ⟨M, d, R1, R2, e, h⟩ := HP.out
                refine ⟨M, d, R1, R2, e, ?_⟩
                rw [HTK.out]
                refine h.skip fun hw => ?_
                cases e2 : M.testBit z
                · exact absurd ⟨hw, (h.neg hzn).2 e2⟩ hgo
                · rfl
              have HSK := Lib.hid hSK
              clear hSK
              cases hsz : s.testBit z
              · rw [hsz] at hhas
                clear hgo HP hsz
                go_wp2_with (go_at_call 67; refine hhas.mono ?_; rintro e w' ⟨rfl, rfl⟩)
                go_roundw
                case rel => exact ⟨D2, Q2, j + 1, by go_num, by omega, hqu, hap, hr, HSK, HQ, hq, hbx⟩
                case measure => simp [intOf]; omega
              · rw [hsz] at hhas
                have hnn : ¬ D2 z < 0 := fun h => hgo ⟨hsz, h⟩
                clear hgo HP hsz
                go_wp2_with (go_at_call 67; refine hhas.mono ?_; rintro e w' ⟨rfl, rfl⟩)
                go_roundw
                case rel => exact ⟨D2, Q2, j + 1, by go_num, by omega, hqu, hap, hr, HSK, HQ, hq, hbx⟩
                case measure => simp [intOf]; omega)
end Go.Proofs.YtfccpencgengaaaDoor
