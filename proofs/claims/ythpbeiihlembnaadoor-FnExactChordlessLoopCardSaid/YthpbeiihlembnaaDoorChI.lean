/- ChordlessLoop of the program: the tests of the next vertex; chordal graphs. -/
import Derived.Test.YthpbeiihlembnaaDoorPeo
import Derived.Test.YthpbeiihlembnaaDoorLeast1
namespace Go.Proofs.YthpbeiihlembnaaDoor
open Go.RowKit
def chTo (H : List Nat) (p : List Nat) (v k : Nat) : Bool := (List.range k).all fun i => !(decide (0 < i) && (H.getD v 0).testBit (p.getD i 0))
theorem chTo_succ (H : List Nat) (p : List Nat) (v k : Nat) : chTo H p v (k + 1) = (chTo H p v k && !(decide (0 < k) && (H.getD v 0).testBit (p.getD k 0))) := by
  unfold chTo
  rw [List.range_succ, List.all_append]; simp
theorem chTo_mono {H : List Nat} {p : List Nat} {v k m : Nat} (h : chTo H p v k = false) (hk : k ≤ m) : chTo H p v m = false := by
  obtain ⟨d, rfl⟩ : ∃ d, m = k + d := ⟨m - k, by omega⟩
  induction d with
  | zero => exact h
  | succ d ih => rw [← Nat.add_assoc, chTo_succ, ih (by omega)]; rfl
noncomputable def chalB (g : List (List Int)) : Bool := gokB g && (peo (netsL g)).isSome
set_option maxRecDepth 100000 in
set_option maxHeartbeats 4000000 in
theorem chFits_any {S S' : Nat → Prop} {av pv : Value} {H p : List Nat} {v ab : Nat} {w : World} (hc : w.cell? ⟨ab, 0, none⟩ = some av) (hv : SlI S w .u32 av (natsI H)) (hp : SlI S' w .i64 pv (natsI p)) (h0 : 0 < p.length) (hpl : p.length ≤ 16) (hpn : ∀ x ∈ p, x < H.length) (hvn : v < H.length) (h16 : H.length ≤ 16) (hH : ∀ m ∈ H, m < 2 ^ H.length) :
    Calls Tryd.prog 73 #[pv, .int .i64 (v : Int), .pointer (some ⟨ab, 0, none⟩)] w fun e w' => e = .returned (.bool (chTo H p v (p.length - 1))) ∧ Drawn w w' := by
  obtain ⟨nb, no, ncap, hne, hnc⟩ := hv.at_
  have hne := hne (by rw [natsI_len]; omega)
  rw [natsI_len] at hne
  obtain ⟨pb, po, pcap, hpe, hpc⟩ := hp.at_
  have hpe := hpe (by rw [natsI_len]; omega)
  rw [natsI_len] at hpe
  subst hne
  subst hpe
  have hcap := hp.capOf
  rw [natsI_len] at hcap
  have d2 : w.cell? ⟨nb, no + v, none⟩ = some (.int .u32 ((H.getD v 0 : Nat) : Int)) := by
    have h1 := hnc v (by rw [natsI_len]; exact hvn)
    rw [natsI_get] at h1
    rw [h1]; simp [hvn]
  have hHy := Nat.lt_trans (getD_ltN hH v) (pow16_lt h16)
  have HPC := Lib.hid hpc
  have hw1 : IntKind.i64.wrap ((p.length : Int) - 1) = (p.length : Int) - 1 := IntWalk.i64_in _ (by omega)
  have hw2 : ((p.length : Int) - 1).toNat = p.length - 1 := by omega
  have hw3 : (0 : Int) ≤ (p.length : Int) - 1 := by omega
  have hcc : (p.length : Int) ≤ (pcap : Int) := by omega
  have HST := Lib.hid (chTo_succ H p v)
  have HMO := Lib.hid (fun k (h : chTo H p v k = false) (hk : k ≤ p.length - 1) => chTo_mono h hk)
  have HPN := Lib.hid (fun i (hi : i < p.length) => hpn _ (getD_mem hi))
  have H0 := Lib.hid (show chTo H p v 0 = true from rfl)
  obtain ⟨m, hm⟩ : ∃ m, m = p.length - 1 := ⟨_, rfl⟩
  rw [← hm] at hw2 HMO ⊢
  have hmc : ((p.length : Int) - 1) = (m : Int) := by omega
  rw [hmc] at hw1 hw2 hw3
  clear hnc hpc hpn hv hp
  generalize H.getD v 0 = hy at *
  go_enter Tryd.func73, Tryd.ntmps73
  go_wp2
  go_loopw [14] (fun iv wr => ∃ k : Nat, k ≤ m ∧ iv = .int .i64 k ∧ RowKit.Hid (chTo H p v k = true) ∧ Drawn w wr) (fun iv _ => m - (intOf iv).toNat)
  case atStart => exact ⟨0, Nat.zero_le _, rfl, H0, Drawn.refl _⟩
  case round =>
    clear H0
    obtain ⟨k, hk, rfl, HC, hd⟩ := hrel
    by_cases hlt : k < m
    case neg =>
      obtain rfl : k = m := by omega
      go_wp2
      go_ret
      exact ⟨ret_bool HC.out.symm, hd⟩
    have hst := HST.out k
    rw [HC.out, Bool.true_and] at hst
    have hy32 := HPN.out k (by omega)
    have d1 : wr.cell? ⟨pb, po + k, none⟩ = some (.int .i64 ((p.getD k 0 : Nat) : Int)) := by
      have h1 := HPC.out k (by rw [natsI_len]; omega)
      rw [natsI_get] at h1
      rw [hd.cell, h1]; simp [show k < p.length by omega]
    have ca := (hd.cell _).trans hc
    have cb := (hd.cell _).trans d2
    generalize p.getD k 0 = y at *
    by_cases hk0 : 0 < k
    case neg =>
      have hg0 : decide ((0 : Int) < (k : Int)) = false := decide_eq_false (by omega)
      have hg1 : decide (0 < k) = false := decide_eq_false hk0
      rw [hg1, Bool.false_and] at hst
      have HS2 : RowKit.Hid (chTo H p v (k + 1) = true) := Lib.hid (by rw [hst]; rfl)
      clear hst
      go_wp2
      go_roundw
      case rel => exact ⟨k + 1, by omega, by go_num, HS2, hd⟩
      case measure => simp [intOf]; omega
    have hg0 : decide ((0 : Int) < (k : Int)) = true := decide_eq_true (by omega)
    have hg1 : decide (0 < k) = true := decide_eq_true hk0
    rw [hg1, Bool.true_and] at hst
    cases hb : hy.testBit y with
    | true =>
      rw [hb] at hst
      have HF := Lib.hid (HMO.out (k + 1) (by rw [hst]; rfl) (by omega))
      clear hst
      go_wp2_with (go_at_call 74; refine (has_any _ _ _ hHy (by omega)).mono ?_; rintro e w' ⟨rfl, rfl⟩; try simp only [Int.toNat_natCast, hb])
      go_ret
      exact ⟨ret_bool HF.out.symm, hd⟩
    | false =>
      rw [hb] at hst
      have HS2 : RowKit.Hid (chTo H p v (k + 1) = true) := Lib.hid (by rw [hst]; rfl)
      clear hst
      go_wp2_with (go_at_call 74; refine (has_any _ _ _ hHy (by omega)).mono ?_; rintro e w' ⟨rfl, rfl⟩; try simp only [Int.toNat_natCast, hb])
      go_roundw
      case rel => exact ⟨k + 1, by omega, by go_num, HS2, hd⟩
      case measure => simp [intOf]; omega
theorem chFit_chTo {H : List Nat} {L v : Nat} {p : List Nat} : chFit H L p v = (chTo H p v (p.length - 1) && ((decide (1 < p.length) && (H.getD v 0).testBit (p.getD 0 0)) == (decide (1 < p.length) && decide (p.length + 1 = L)))) := rfl
set_option maxRecDepth 100000 in
set_option maxHeartbeats 4000000 in
theorem chFit2_any {S S' : Nat → Prop} {av pv : Value} {H p : List Nat} {v ab fb lb L : Nat} {w : World} (hc : w.cell? ⟨ab, 0, none⟩ = some av) (hcf : w.cell? ⟨fb, 0, none⟩ = some (.func (Fn.func 73) #[] #[.pointer (some ⟨ab, 0, none⟩)])) (hcl : w.cell? ⟨lb, 0, none⟩ = some (.int .i64 (L : Int)))
    (hv : SlI S w .u32 av (natsI H)) (hp : SlI S' w .i64 pv (natsI p)) (h0 : 0 < p.length) (hpl : p.length ≤ 16) (hpn : ∀ x ∈ p, x < H.length) (hvn : v < H.length) (h16 : H.length ≤ 16) (hH : ∀ m ∈ H, m < 2 ^ H.length) (hL : L ≤ 16) (hL1 : 1 ≤ L) :
    Calls Tryd.prog 78 #[pv, .int .i64 (v : Int), .pointer (some ⟨ab, 0, none⟩), .pointer (some ⟨fb, 0, none⟩), .pointer (some ⟨lb, 0, none⟩)] w fun e w' => e = .returned (.bool (chFit H L p v)) ∧ Drawn w w' := by
  have hfi := fun (W : World) (hd : Drawn w W) => chFits_any ((hd.cell _).trans hc) (hv.drawn hd) (hp.drawn hd) h0 hpl hpn hvn h16 hH
  obtain ⟨nb, no, ncap, hne, hnc⟩ := hv.at_
  have hne := hne (by rw [natsI_len]; omega)
  rw [natsI_len] at hne
  obtain ⟨pb, po, pcap, hpe, hpc⟩ := hp.at_
  have hpe := hpe (by rw [natsI_len]; omega)
  rw [natsI_len] at hpe
  subst hne
  subst hpe
  have d2 : w.cell? ⟨nb, no + v, none⟩ = some (.int .u32 ((H.getD v 0 : Nat) : Int)) := by
    have h1 := hnc v (by rw [natsI_len]; exact hvn)
    rw [natsI_get] at h1
    rw [h1]; simp [hvn]
  have d3 : w.cell? ⟨pb, po, none⟩ = some (.int .i64 ((p.getD 0 0 : Nat) : Int)) := by
    have h1 := hpc 0 (by rw [natsI_len]; omega)
    rw [natsI_get] at h1
    simpa [h0] using h1
  have hHy := Nat.lt_trans (getD_ltN hH v) (pow16_lt h16)
  have hp032 : p.getD 0 0 < 32 := by have := hpn _ (getD_mem h0); omega
  have HF := Lib.hid (chFit_chTo (H := H) (L := L) (p := p) (v := v))
  have hw1 : IntKind.i64.wrap ((L : Int) - 1) = (L : Int) - 1 := IntWalk.i64_in _ (by omega)
  have hpe : ((p.length : Int) == (L : Int) - 1) = decide (p.length + 1 = L) := by rw [Bool.eq_iff_iff, beq_iff_eq, decide_eq_true_eq]; omega
  generalize decide (p.length + 1 = L) = bl at *
  generalize chTo H p v (p.length - 1) = bt at *
  generalize H.getD v 0 = hy at *
  generalize p.getD 0 0 = f0 at *
  clear hnc hpc hv hp hpn
  by_cases h1 : 1 < p.length
  case neg =>
    have hg0 : decide ((1 : Int) < (p.length : Int)) = false := decide_eq_false (by omega)
    have hg1 : decide (1 < p.length) = false := decide_eq_false h1
    rw [hg1] at HF
    have HR := Lib.hid (show chFit H L p v = bt by rw [HF.out]; cases bt <;> rfl)
    clear HF h1
    go_enter Tryd.func78, Tryd.ntmps78
    go_wp2
    go_quiet (fail)
    have hd1 : Drawn w (w.drewN nq) := (Drawn.refl _).drewN _
    generalize w.drewN nq = wa at hd1 ⊢
    have hfa := hfi wa hd1
    have ca := (hd1.cell _).trans hc
    have cb := (hd1.cell _).trans hcf
    have cc := (hd1.cell _).trans hcl
    clear hc hcf hcl d2 d3
    cases bt with
    | false =>
      go_wp2_with (go_at_call 73; refine hfa.mono ?_; rintro e w' ⟨rfl, hd⟩)
      go_ret
      exact ⟨ret_bool HR.out.symm, hd1.trans hd⟩
    | true =>
      go_wp2_with fail
      refine hfa.mono ?_
      rintro e w2 ⟨rfl, hd⟩
      have cc2 := (hd.cell _).trans cc
      go_wp2
      go_ret
      exact ⟨ret_bool HR.out.symm, hd1.trans hd⟩
  have hg0 : decide ((1 : Int) < (p.length : Int)) = true := decide_eq_true (by omega)
  have hg1 : decide (1 < p.length) = true := decide_eq_true h1
  rw [hg1] at HF
  have HR := Lib.hid (show chFit H L p v = (bt && (hy.testBit f0 == bl)) by rw [HF.out]; simp)
  clear HF h1
  have hba := fun W : World => has_any hy (f0 : Nat) W hHy (by omega)
  generalize hy.testBit f0 = bb at *
  go_enter Tryd.func78, Tryd.ntmps78
  go_wp2
  go_quiet ((go_at_call 74; first | exact quiet_same2 (hba _) | exact quiet_same (hba _)))
  have hd1 : Drawn w (w.drewN nq) := (Drawn.refl _).drewN _
  generalize w.drewN nq = wa at hd1 ⊢
  have hfa := hfi wa hd1
  have ca := (hd1.cell _).trans hc
  have cb := (hd1.cell _).trans hcf
  have cc := (hd1.cell _).trans hcl
  clear hc hcf hcl d2 d3 hba
  cases bt with
  | false =>
    go_wp2_with (go_at_call 73; refine hfa.mono ?_; rintro e w' ⟨rfl, hd⟩)
    go_ret
    exact ⟨ret_bool (by rw [HR.out]; rfl), hd1.trans hd⟩
  | true =>
    go_wp2_with fail
    refine hfa.mono ?_
    rintro e w2 ⟨rfl, hd⟩
    have cc2 := (hd.cell _).trans cc
    go_wp2
    go_ret
    exact ⟨ret_bool (by rw [HR.out, Bool.true_and]), hd1.trans hd⟩
set_option maxHeartbeats 1000000 in
theorem implChordalIn_any {S : Nat → Prop} {v : Value} {g : List (List Int)} {w : World} (ht : Tab w) (hv : SlR S w v g) :
    Calls Tryd.prog 71 #[.agg #[v]] w fun e w' => e = .returned (.bool (chalB g)) ∧ Below w.heap.size w w' := by
  obtain ⟨va, vc, rfl⟩ := hv.slice
  have hb0 : Below w.heap.size w (w.alloc (.cells #[.slice va g.length vc] 29)) := (Below.refl _ _).alloc (Nat.le_refl _) _
  have hgo := implGraphOk_any _ _ _ (hv.below hb0 (Nat.le_refl _))
  have hnn := nilInts
  by_cases hgb : gokB g = true
  case neg =>
    have HE := Lib.hid (show chalB g = false by unfold chalB; rw [Bool.not_eq_true] at hgb; rw [hgb]; rfl)
    rw [Bool.not_eq_true] at hgb
    rw [hgb] at hgo
    clear hgb
    go_enter Tryd.func71, Tryd.ntmps71
    go_wp2_with fail
    refine hgo.mono ?_
    rintro e w1 ⟨rfl, hb1⟩
    go_wp2
    go_ret
    exact ⟨ret_bool HE.out.symm, hb0.trans (hb1.mono hb0.size)⟩
  have hg := gokB_iff.1 hgb
  have hlen := netsL_len g
  have hlo := hg.lo
  have h16 := hg.hi
  have HE := Lib.hid (show chalB g = (peo (netsL g)).isSome by unfold chalB; rw [hgb]; rfl)
  have HN := Lib.hid (nets_NetI hg)
  have HG := Lib.hid hg
  rw [hgb] at hgo
  clear hgb hg
  go_enter Tryd.func71, Tryd.ntmps71
  go_wp2_with fail
  refine hgo.mono ?_
  rintro e w1 ⟨rfl, hb1⟩
  have hq1 := hb0.trans (hb1.mono hb0.size)
  have c1 : w1.cell? ⟨w.heap.size, 0, none⟩ = some (.slice va g.length vc) := (hb1.cell (p := ⟨w.heap.size, 0, none⟩) (by simp)).trans (by simp [go_sem])
  clear hgo hb0 hb1
  go_wp2_with fail
  refine (netsOf_any _ _ _ (hv.below hq1 (Nat.le_refl _)) HG.out).mono ?_
  rintro e w2 ⟨na, rfl, hna, hb2⟩
  have hq2 := hq1.trans (hb2.mono hq1.size)
  have hni := hna.ints (by omega)
  have hpo := perfectOrder_any (ht.below hq2 (Nat.le_refl _)) hni (by omega) (by omega) HN.out.lt
  go_wp2_with fail
  refine hpo.mono ?_
  rintro e w3 ⟨u, rfl, hu, hb3⟩
  have hq3 := hq2.trans (hb3.mono hq2.size)
  rcases hu with ⟨hp, rfl⟩ | ⟨r, hp, hrl, a, c, rfl, -⟩
  · have HP := Lib.hid (show chalB g = false by rw [HE.out, hp]; rfl)
    clear hp HE
    go_wp2
    go_ret
    exact ⟨ret_bool HP.out.symm, hq3⟩
  · have HP := Lib.hid (show chalB g = true by rw [HE.out, hp]; rfl)
    clear hp HE
    go_wp2
    go_ret
    exact ⟨ret_bool HP.out.symm, hq3⟩
end Go.Proofs.YthpbeiihlembnaaDoor
