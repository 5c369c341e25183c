/- How far from a vertex inside a set, by the reference's list. -/
import Derived.Test.YthpbeiihlembnaaDoorDist2
import Derived.Test.YthpbeiihlembnaaDoorWide1
namespace Go.Proofs.YthpbeiihlembnaaDoor
open Go.RowKit
set_option maxRecDepth 100000 in
set_option maxHeartbeats 8000000 in
theorem l3From_any {S S' : Nat → Prop} {v u : Value} {g : List (List Int)} {s f : Nat} {w : World} (hg : GOk g) (hv : SlR S w v g) (hu : SlI S' w .i64 u (bitsI s)) (hs : s < 2 ^ g.length) (hf : f < g.length) (hfs : s.testBit f = true) :
    Calls Tryd.prog 83 #[.agg #[v], .int .i64 (f : Int), u] w fun e w' => ∃ ob c D, e = .returned (.slice (some ⟨ob, 0, none⟩) g.length c) ∧ w.heap.size ≤ ob ∧ Row w' ob g.length (tabV D) ∧ IsDist (netsL g) s f g.length D ∧ Below w.heap.size w w' := by
  have h16 := hg.hi
  have hI : DistI (netsL g) s f g.length := ⟨WideI.of hg, hs, hf⟩
  have hs32 : s < 4294967296 := Nat.lt_trans hs (pow16_lt h16)
  have HI := Lib.hid hI
  have HG := Lib.hid hg
  have HS0 := Lib.hid (DQ.start hI)
  clear hI
  have hsize := fun (W : World) (hb : Below w.heap.size w W) => wSize_any (hv.below hb (Nat.le_refl _))
  obtain ⟨a, b, off, cap, fr, rfl, hl, ha, hc0⟩ := hv
  have hq0 : Below w.heap.size w ((w.alloc (.cells #[.slice a g.length cap] 29)).alloc (.cells #[] 2)) := ((Below.refl _ _).alloc (Nat.le_refl _) _).alloc (by simp) _
  have ho0 : Own ((w.alloc (.cells #[.slice a g.length cap] 29)).alloc (.cells #[] 2)) (w.heap.size + 1) 2 1 (.slice (some ⟨w.heap.size + 1, 0, none⟩) 0 0) 0 [] := by
    have := World.ownsRow_lit (base := w.heap.size + 1) (e := 2) (size := 1) (w.alloc (.cells #[.slice a g.length cap] 29)) #[] 0 (by simp) (by unfold maxLen; omega) rfl
    simpa [Own] using this
  have hmemf : decide ((f : Int) ∈ bitsI s) = true := by
    rw [decide_eq_true_eq, mem_bitsI hs32]; simpa using hfs
  go_enter Tryd.func83, Tryd.ntmps83
  go_wp2
  go_loopw [7, 8] (fun o i wr => ∃ k : Nat, k ≤ g.length ∧ i = .int .i64 k ∧ Own wr (w.heap.size + 1) 2 1 o k (List.replicate k (.int .i64 (-1))) ∧ Below w.heap.size w wr ∧ wr.cell? ⟨w.heap.size, 0, none⟩ = some (.slice a g.length cap)) (fun _ i _ => g.length - (intOf i).toNat)
  case atStart => exact ⟨0, Nat.zero_le _, rfl, ho0, hq0, by simp [go_sem]⟩
  case round =>
    clear ho0 hq0
    obtain ⟨k, hk, rfl, ho, hq, hbx⟩ := hrel
    have hB2 : w.heap.size + 1 ≤ wr.heap.size := cell_lt hbx
    go_wp2_with fail
    refine (hsize _ hq).mono ?_
    rintro e w1 ⟨rfl, hb1⟩
    have hqa := hq.trans (hb1.mono hq.size)
    have ho := ho.below hb1 (Nat.le_refl _)
    have hbx := (hb1.cell (cell_lt hbx)).trans hbx
    have hB2 : w.heap.size + 1 ≤ w1.heap.size := cell_lt hbx
    clear hq hb1
    by_cases hlt : k < g.length
    case pos =>
      go_wp2_with (at_builtin; refine wpList_append1b elI64 rfl _ _ rfl ho rfl rfl rfl rfl (by omega) hB2 ?_; intro o' w3 ho3 hkept hmv)
      have hq3 := hkept.below hqa hqa.size (fun c h => by have := (ho.lt c h).1; omega)
      have hbx3 : w3.cell? ⟨w.heap.size, 0, none⟩ = some (.slice a g.length cap) := (World.cell?_of_block (a := ⟨w.heap.size, 0, none⟩) (hkept.2.2.2.2 w.heap.size (cell_lt hbx) (fun e => by have := (ho.lt _ e.symm).1; omega))).trans hbx
      go_roundw
      case rel => exact ⟨k + 1, by omega, by go_num, by rw [List.replicate_succ']; exact ho3, hq3, hbx3⟩
      case measure => simp [intOf]; omega
    obtain rfl : k = g.length := by omega
    obtain ⟨ob, oc, rfl⟩ := own_some ho (by omega)
    have hob := ho.lt ob rfl
    have hr : Row w1 ob g.length (tabV fun _ => -1) := Row.ofOwn ho (fun i hi => by simp [tabV])
    obtain ⟨c1, f1⟩ := hr f hf
    have hr1 : Row (w1.setCell ⟨ob, f, none⟩ (.int .i64 0)) ob g.length (tabV fun y => if f = y then 0 else -1) := hr.set hf fun i _ => by
      unfold tabV
      by_cases e : f = i <;> simp [e]
    have hq1 := hqa.setCell (p := ⟨ob, f, none⟩) (by simp; omega) (.int .i64 0)
    have hbx1 : (w1.setCell ⟨ob, f, none⟩ (.int .i64 0)).cell? ⟨w.heap.size, 0, none⟩ = some (.slice a g.length cap) := (World.cell?_of_block (a := ⟨w.heap.size, 0, none⟩) (Below.heap_setCell _ _ _ _ (by simp; omega))).trans hbx
    have hqe : Own ((w1.setCell ⟨ob, f, none⟩ (.int .i64 0)).alloc (.cells #[.int .i64 (f : Int)] 2)) (w.heap.size + 1) 2 1 (.slice (some ⟨w1.heap.size, 0, none⟩) 1 1) 1 ((natsI [f]).map (.int .i64)) := by
      have := World.ownsRow_lit (base := w.heap.size + 1) (e := 2) (size := 1) (w1.setCell ⟨ob, f, none⟩ (.int .i64 0)) #[.int .i64 (f : Int)] 1 (by simpa using hB2) (by unfold maxLen; omega) rfl
      simpa [Own, natsI] using this
    have hba : Below (w1.setCell ⟨ob, f, none⟩ (.int .i64 0)).heap.size (w1.setCell ⟨ob, f, none⟩ (.int .i64 0)) ((w1.setCell ⟨ob, f, none⟩ (.int .i64 0)).alloc (.cells #[.int .i64 (f : Int)] 2)) := (Below.refl _ _).alloc (Nat.le_refl _) _
    have hr2 := hr1.below hba (Nat.le_refl _)
    have hq2 := hq1.trans (hba.mono hq1.size)
    have hbx2 := (hba.cell (cell_lt hbx1)).trans hbx1
    have hap2 : Apart (.slice (some ⟨ob, 0, none⟩) g.length oc) (.slice (some ⟨w1.heap.size, 0, none⟩) 1 1) := apart_lit (by omega)
    have HD0 : RowKit.Hid (∃ M d Q1 Q2, [f].drop 0 = Q1 ++ Q2 ∧ DQ (netsL g) s f g.length (fun y => if f = y then 0 else -1) M d Q1 Q2) := Lib.hid ⟨_, _, [f], [], rfl, HS0.out⟩
    have HOB := Lib.hid (show w.heap.size + 1 ≤ ob from hob.1)
    have hhf := l1Has_any _ _ (f : Int) w1 (hu.below hqa (Nat.le_refl _))
    rw [hmemf] at hhf
    unfold tabV at c1
    clear hr1 hq1 hbx1 hba HS0 hsize hmemf
    go_wp2_with (go_at_call 104; refine hhf.mono ?_; rintro e w' ⟨rfl, rfl⟩)
    clear c1 f1 hr hqa hbx hob
    go_loopw [9, 10] (fun q i wr => ∃ (D : Nat → Int) (Q : List Nat) (i0 : Nat), i = .int .i64 i0 ∧ i0 ≤ Q.length ∧ Own wr (w.heap.size + 1) 2 1 q Q.length ((natsI Q).map (.int .i64)) ∧ Apart (.slice (some ⟨ob, 0, none⟩) g.length oc) q ∧ Row wr ob g.length (tabV D) ∧ RowKit.Hid (∃ M d Q1 Q2, Q.drop i0 = Q1 ++ Q2 ∧ DQ (netsL g) s f g.length D M d Q1 Q2) ∧ RowKit.Hid (negD D g.length + Q.length ≤ 20) ∧ Below w.heap.size w wr ∧ wr.cell? ⟨w.heap.size, 0, none⟩ = some (.slice a g.length cap)) (fun q i w' => 2 * negW w' ob g.length + (lenV q - (intOf i).toNat))
    case atStart => exact ⟨_, [f], 0, rfl, Nat.zero_le _, hqe, hap2, hr2, HD0, Lib.hid (by have := negD_le (fun y => if f = y then (0 : Int) else -1) g.length; simp only [List.length_singleton]; omega), hq2, hbx2⟩
    case round =>
      clear hqe hap2 hr2 HD0 hq2 hbx2 ho hB2
      obtain ⟨wo, rfl⟩ : ∃ wx : World, wx = wr := ⟨_, rfl⟩
      obtain ⟨D, Q, i0, rfl, hi0, hqu, hap, hr, HD, H40, hq, hbx⟩ := hrel
      have HNEG := Lib.hid (negW_row hr)
      have hq20 : Q.length ≤ 20 := by have := H40.out; omega
      by_cases hil : i0 < Q.length
      case neg =>
        obtain ⟨qa, qc, rfl⟩ := hqu.isSlice
        obtain rfl : i0 = Q.length := by omega
        have hE : IsDist (netsL g) s f g.length D := by
          obtain ⟨M, d, Q1, Q2, e, h⟩ := HD.out
          rw [List.drop_length] at e
          have e2 := List.append_eq_nil_iff.1 e.symm
          rw [e2.1, e2.2] at h
          exact h.end_ HI.out
        have HE := Lib.hid hE
        clear hE
        go_wp2
        go_ret
        exact ⟨_, _, D, rfl, by have := HOB.out; omega, hr, HE.out, hq⟩
      obtain ⟨qg, qc, rfl⟩ := own_some hqu (by omega)
      obtain ⟨x, hx⟩ : ∃ x, x = Q[i0] := ⟨_, rfl⟩
      have hdr : Q.drop i0 = x :: Q.drop (i0 + 1) := by rw [hx]; exact List.drop_eq_getElem_cons hil
      have hmc := (World.ownsRow.cellAt hqu i0 (by omega)).trans (show _ = some (.int .i64 (x : Int)) by simp [natsI, hil, hx])
      have hPOP : ∃ M d R1 R2, Q.drop (i0 + 1) = R1 ++ R2 ∧ DP (netsL g) s f g.length D M d x [] R1 R2 := by
        obtain ⟨M, d, Q1, Q2, e, h⟩ := HD.out
        rw [hdr] at e
        obtain ⟨d', R1, R2, e2, h2⟩ := h.norm HI.out e.symm
        exact ⟨M, d', R1, R2, e2, h2.pop⟩
      have HP := Lib.hid hPOP
      have hxn : x < g.length := by
        obtain ⟨M, d, R1, R2, _, h⟩ := hPOP
        exact bit_lt_of h.lt h.hx.1
      have HX := Lib.hid hx
      clear hPOP HD hdr hx
      have hgy : (netsL g).getD x 0 = maskL g[x] := netsL_get hxn
      have hR : ∃ R : List Nat, g[x] = natsI R ∧ (∀ u, u ∈ R ↔ ((netsL g).getD x 0).testBit u = true) ∧ (∀ u ∈ R, u < g.length) ∧ R.length ≤ 32 := by
        have h32 := HG.out.ge32 hxn
        refine ⟨bitsN (maskL g[x]), ?_, fun u => ?_, fun u hu => ?_, bitsN_len _⟩
        · rw [← bits_natsI3, bitsI_maskL (rise_sorted (HG.out.rise x hxn)) h32]
        · rw [hgy, mem_bitsN (maskL_lt32 h32)]
        · exact bit_lt_of (maskL_lt fun z hz => HG.out.ge hxn z hz) ((mem_bitsN (maskL_lt32 h32)).1 hu)
      obtain ⟨R, hgR, hRm, hRn, hR32⟩ := hR
      obtain ⟨hcell2, hrow⟩ := hc0 x hxn
      obtain ⟨rfl, -⟩ := ha (by omega)
      rw [hgR] at hrow
      obtain ⟨ra, rb, ro, rc, hre, hrl, hra, hrc⟩ := hrow
      rw [hre] at hcell2
      rw [natsI_len] at hcell2 hrl hra
      have hcx := (hq.cell (p := ⟨b, off + x, none⟩) (cell_lt hcell2)).trans hcell2
      have HRM := Lib.hid hRm
      clear hRm hgR hgy hre
      go_wp2
      refine wp_region_held_drew (S := (fun w' => w'.cell? ⟨w.heap.size, 0, none⟩ = some (.slice (some ⟨b, off, none⟩) g.length cap) ∧ w'.cell? ⟨qg, i0, none⟩ = some (.int .i64 (x : Int)) ∧ w'.cell? ⟨b, off + x, none⟩ = some (.slice ra R.length rc))) (by kernel_rfl) ?_ (fun hHeld => ?_)
      · first | exact ⟨‹_›, ‹_›, ‹_›⟩ | assumption | (simp [*, go_sem])
      have hd : Below wo.heap.size wo wo.drew := (Below.refl _ _).drew
      have hqd := hq.drew
      have hqud := hqu.below hd (Nat.le_refl _)
      have hrd := hr.below hd (Nat.le_refl _)
      generalize wo.drew = wd at hd hqd hqud hrd hHeld ⊢
      have hHeld2 := hHeld
      obtain ⟨cbx, cm, cr⟩ := hHeld2
      refine wpAnyH_take (i := 0) (v := ?v1) (by simp only [List.getElem?_toArray, List.getElem?_cons_zero]; exact rfl) (by kernel_rfl) (by kernel_rfl) (by kernel_rfl) (by intro _ _ _ h; exact h) (Or.inl ⟨by rfl, ?y1⟩) hHeld ?_
      case y1 => (intro w hSw; (try dsimp only at hSw); go_simp; try (with_reducible rfl))
      try simp only [Act.put, List.setIfInBounds_toArray, List.set_cons_zero, List.set_cons_succ]
      refine wpAnyH_take (i := 1) (v := ?v2) (by simp only [List.getElem?_toArray, List.getElem?_cons_succ, List.getElem?_cons_zero]; exact rfl) (by kernel_rfl) (by kernel_rfl) (by kernel_rfl) (by intro _ _ _ h; exact h) (Or.inl ⟨by rfl, ?y2⟩) hHeld ?_
      case y2 => (intro w hSw; (try dsimp only at hSw); go_simp; try (with_reducible rfl))
      try simp only [Act.put, List.setIfInBounds_toArray, List.set_cons_zero, List.set_cons_succ]
      refine wpAnyH_take (i := 2) (v := ?v3) (by simp only [List.getElem?_toArray, List.getElem?_cons_succ, List.getElem?_cons_zero]; exact rfl) (by kernel_rfl) (by kernel_rfl) (by kernel_rfl) (by intro _ _ _ h; exact h) (Or.inl ⟨by rfl, ?y3⟩) hHeld ?_
      case y3 => (intro w hSw; (try dsimp only at hSw); go_simp; try (with_reducible rfl))
      try simp only [Act.put, List.setIfInBounds_toArray, List.set_cons_zero, List.set_cons_succ]
      refine wpAnyH_take (i := 3) (v := ?v4) (by simp only [List.getElem?_toArray, List.getElem?_cons_succ, List.getElem?_cons_zero]; exact rfl) (by kernel_rfl) (by kernel_rfl) (by kernel_rfl) (by intro _ _ _ h; exact h) (Or.inl ⟨by rfl, ?y4⟩) hHeld ?_
      case y4 => (intro w hSw; (try dsimp only at hSw); go_simp; try (with_reducible rfl))
      try simp only [Act.put, List.setIfInBounds_toArray, List.set_cons_zero, List.set_cons_succ]
      refine wpAnyH_take (i := 4) (v := ?v5) (by simp only [List.getElem?_toArray, List.getElem?_cons_succ, List.getElem?_cons_zero]; exact rfl) (by kernel_rfl) (by kernel_rfl) (by kernel_rfl) (by intro _ _ _ h; exact h) (Or.inl ⟨by rfl, ?y5⟩) hHeld ?_
      case y5 => (intro w hSw; (try dsimp only at hSw); go_simp; try (with_reducible rfl))
      try simp only [Act.put, List.setIfInBounds_toArray, List.set_cons_zero, List.set_cons_succ]
      refine wpAnyH_take (i := 5) (v := ?v6) (by simp only [List.getElem?_toArray, List.getElem?_cons_succ, List.getElem?_cons_zero]; exact rfl) (by kernel_rfl) (by kernel_rfl) (by kernel_rfl) (by intro _ _ _ h; exact h) (Or.inl ⟨by rfl, ?y6⟩) hHeld ?_
      case y6 => (intro w hSw; (try dsimp only at hSw); go_simp; try (with_reducible rfl))
      try simp only [Act.put, List.setIfInBounds_toArray, List.set_cons_zero, List.set_cons_succ]
      refine wpAnyH_take (i := 6) (v := ?v7) (by simp only [List.getElem?_toArray, List.getElem?_cons_succ, List.getElem?_cons_zero]; exact rfl) (by kernel_rfl) (by kernel_rfl) (by kernel_rfl) (by intro _ _ _ h; exact h) (Or.inl ⟨by rfl, ?y7⟩) hHeld ?_
      case y7 => (intro w hSw; (try dsimp only at hSw); go_simp; try (with_reducible rfl))
      try simp only [Act.put, List.setIfInBounds_toArray, List.set_cons_zero, List.set_cons_succ]
      refine wpAnyH_take (i := 7) (v := ?v8) (by simp only [List.getElem?_toArray, List.getElem?_cons_succ, List.getElem?_cons_zero]; exact rfl) (by kernel_rfl) (by kernel_rfl) (by kernel_rfl) (by intro _ _ _ h; exact h) (Or.inl ⟨by rfl, ?y8⟩) hHeld ?_
      case y8 => (intro w hSw; (try dsimp only at hSw); go_simp; try (with_reducible rfl))
      try simp only [Act.put, List.setIfInBounds_toArray, List.set_cons_zero, List.set_cons_succ]
      refine wpAnyH_take (i := 8) (v := ?v9) (by simp only [List.getElem?_toArray, List.getElem?_cons_succ, List.getElem?_cons_zero]; exact rfl) (by kernel_rfl) (by kernel_rfl) (by kernel_rfl) (by intro _ _ _ h; exact h) (Or.inl ⟨by rfl, ?y9⟩) hHeld ?_
      case y9 => (intro w hSw; (try dsimp only at hSw); go_simp; try (with_reducible rfl))
      try simp only [Act.put, List.setIfInBounds_toArray, List.set_cons_zero, List.set_cons_succ]
      refine wpAnyH_done (by kernel_rfl) ?_ _
      clear hq hqu hr hd hmc hcx hHeld
      go_wp2
      go_loopw [9, 12] (fun q i wr => ∃ (D2 : Nat → Int) (P : List Nat) (j : Nat), i = .int .i64 j ∧ j ≤ R.length ∧ RowKit.Hid (∃ N, P = Q ++ N ∧ (∃ M d R1 R2, Q.drop (i0 + 1) ++ N = R1 ++ R2 ∧ DP (netsL g) s f g.length D2 M d x (R.take j) R1 R2) ∧ negD D2 g.length + N.length ≤ negD D g.length) ∧ Own wr (w.heap.size + 1) 2 1 q P.length ((natsI P).map (.int .i64)) ∧ Apart (.slice (some ⟨ob, 0, none⟩) g.length oc) q ∧ Row wr ob g.length (tabV D2) ∧ Below w.heap.size w wr ∧ wr.cell? ⟨w.heap.size, 0, none⟩ = some (.slice (some ⟨b, off, none⟩) g.length cap)) (fun _ i _ => R.length - (intOf i).toNat)
      case atStart => exact ⟨D, Q, 0, rfl, Nat.zero_le _, Lib.hid ⟨[], by simp, by simpa using HP.out, by simp⟩, hqud, hap, hrd, hqd, cbx⟩
      case round =>
        clear hqud hap hrd HP hqd cbx cm cr
        obtain ⟨wi, rfl⟩ : ∃ wi : World, wi = wr := ⟨_, rfl⟩
        obtain ⟨D2, P, j, rfl, hj, HPN, hqu, hap, hr, hq, hbx⟩ := hrel
        have hB2 : w.heap.size + 1 ≤ wi.heap.size := cell_lt hbx
        have hN20 : P.length ≤ 20 ∧ i0 < P.length ∧ P.length + negD D2 g.length ≤ Q.length + negD D g.length ∧ Q.length ≤ P.length := by
          obtain ⟨N, e, -, h1⟩ := HPN.out
          have h2 := H40.out
          rw [e, List.length_append]; omega
        have hxq : ∀ h : i0 < P.length, P[i0] = x := fun h => by
          obtain ⟨N, e, -, h1⟩ := HPN.out
          subst e
          rw [List.getElem_append_left hil]; exact HX.out.symm
        have hlq := hN20.2.1
        have HN20 := Lib.hid hN20.2.2
        have hN20 := hN20.1
        by_cases hjl : j < R.length
        case neg =>
          obtain rfl : j = R.length := by omega
          have hQD : ∃ M d Q1 Q2', P.drop (i0 + 1) = Q1 ++ Q2' ∧ DQ (netsL g) s f g.length D2 M d Q1 Q2' := by
            obtain ⟨N, e0, ⟨M, d, R1, R2, e, h⟩, -⟩ := HPN.out
            exact ⟨M, d, R1, R2, by rw [← e, e0, List.drop_append_of_le_length (by omega)], h.close (fun u hu => by rw [List.take_length]; exact (HRM.out u).2 hu)⟩
          have HQD := Lib.hid hQD
          have HN2 := Lib.hid (negW_row hr)
          clear hQD hxq
          go_wp2
          go_roundw
          case rel => exact ⟨D2, P, i0 + 1, by go_num, by omega, hqu, hap, hr, HQD, Lib.hid (by have h1 := HN20.out; have h2 := H40.out; omega), hq, hbx⟩
          case measure =>
            have h1 := HN2.out
            have h2 := HNEG.out
            have h3 := HN20.out
            obtain ⟨_, _, rfl⟩ := hqu.isSlice
            rw [h1, h2]
            simp only [lenV, intOf]
            omega
        have hcr := hrc j (by rw [natsI_len]; exact hjl)
        rw [natsI_get] at hcr
        obtain ⟨rfl, -⟩ := hra (by omega)
        have hzb := (HRM.out R[j]).1 (List.getElem_mem hjl)
        have hzn := hRn R[j] (List.getElem_mem hjl)
        have htk : R.take (j + 1) = R.take j ++ [R[j]] := List.take_succ_eq_append_getElem hjl
        have HTK := Lib.hid htk; clear htk
        generalize R[j] = z at *
        have hcz := (hq.cell (p := ⟨rb, ro + j, none⟩) (cell_lt hcr)).trans hcr
        obtain ⟨co, fo⟩ := hr z hzn
        obtain ⟨cx, -⟩ := hr x hxn
        unfold tabV at co cx
        have hhas := l1Has_any _ _ (z : Int) wi (hu.below hq (Nat.le_refl _))
        have hmem : decide ((z : Int) ∈ bitsI s) = s.testBit z := by
          rw [Bool.eq_iff_iff, decide_eq_true_eq, mem_bitsI hs32]; simp
        rw [hmem] at hhas
        have HZ := Lib.hid hzb
        have hxs : 0 ≤ D2 x ∧ D2 x ≤ 16 := by
          obtain ⟨N, -, ⟨M, d, R1, R2, _, h⟩, -⟩ := HPN.out
          exact h.xsmall HI.out
        obtain ⟨qh, qk, rfl⟩ := own_some hqu (by omega)
        have hmc := (World.ownsRow.cellAt hqu i0 (by omega)).trans (show _ = some (.int .i64 (x : Int)) by simp only [natsI, List.map_map, List.getElem?_map]; rw [List.getElem?_eq_getElem hlq, hxq]; rfl)
        clear hmem hzb hxq
        by_cases hgo : s.testBit z = true ∧ D2 z < 0
        · have HNG := negD_set (D := D2) (x := D2 x + 1) hzn hgo.2 (by omega)
          have hADD : ∃ N, P ++ [z] = Q ++ N ∧ (∃ M d R1 R2, Q.drop (i0 + 1) ++ N = R1 ++ R2 ∧ DP (netsL g) s f g.length (fun y => if z = y then D2 x + 1 else D2 y) M d x (R.take (j + 1)) R1 R2) ∧ negD (fun y => if z = y then D2 x + 1 else D2 y) g.length + N.length ≤ negD D g.length := by
            obtain ⟨N, e0, ⟨M, d, R1, R2, e, h⟩, h3⟩ := HPN.out
            refine ⟨N ++ [z], by rw [e0, List.append_assoc], ⟨M ||| bit z, d, R1, R2 ++ [z], by rw [← List.append_assoc, e, List.append_assoc], ?_⟩, by rw [List.length_append, List.length_singleton]; omega⟩
            rw [HTK.out]
            exact h.add HI.out hzn hgo.1 HZ.out ((h.neg hzn).1 hgo.2)
          have HADD := Lib.hid hADD
          have hneg := hgo.2
          rw [hgo.1] at hhas
          clear hADD hgo HPN HNG
          go_wp2_with (go_at_call 104; refine hhas.mono ?_; rintro e w' ⟨rfl, rfl⟩)
          refine wp_region_late (S := (fun w' => w'.cell? ⟨rb, ro + j, none⟩ = some (.int .i64 (z : Int)) ∧ w'.cell? ⟨qh, i0, none⟩ = some (.int .i64 (x : Int)) ∧ w'.cell? ⟨ob, x, none⟩ = some (.int .i64 (D2 x)))) (late := [14]) (by kernel_rfl) ?_ (fun hHeld => ?_)
          · first | exact ⟨‹_›, ‹_›, ‹_›⟩ | assumption | (simp [*, go_sem])
          have hd : Below wi.heap.size wi wi.drew := (Below.refl _ _).drew
          have hqd := hq.drew
          have hqud := hqu.below hd (Nat.le_refl _)
          have hrd := hr.below hd (Nat.le_refl _)
          have hbxd := (hd.cell (cell_lt hbx)).trans hbx
          have hszd : w.heap.size + 1 ≤ wi.drew.heap.size := cell_lt hbxd
          generalize wi.drew = wd at hd hqd hqud hrd hbxd hszd hHeld ⊢
          have hHeld2 := hHeld
          obtain ⟨cz, cm, cox⟩ := hHeld2
          obtain ⟨cod, fod⟩ := hrd z hzn
          unfold tabV at cod
          refine wpLate_take (i := 0) (v := ?v10) (by simp only [List.getElem?_toArray, List.getElem?_cons_zero]; exact rfl) (by kernel_rfl) (by kernel_rfl) (by kernel_rfl) (by intro _ _ _ h; exact h) (Or.inl ⟨by rfl, ?y10⟩) ?_
          case y10 => (intro w _; go_simp; try (with_reducible rfl))
          try simp only [Act.put, List.setIfInBounds_toArray, List.set_cons_zero, List.set_cons_succ]
          refine wpLate_take (i := 1) (v := ?v11) (by simp only [List.getElem?_toArray, List.getElem?_cons_succ, List.getElem?_cons_zero]; exact rfl) (by kernel_rfl) (by kernel_rfl) (by kernel_rfl) (by intro _ _ _ h; exact h) (Or.inl ⟨by rfl, ?y11⟩) ?_
          case y11 => (intro w _; go_simp; try (with_reducible rfl))
          try simp only [Act.put, List.setIfInBounds_toArray, List.set_cons_zero, List.set_cons_succ]
          refine wpLate_take (i := 2) (v := ?v12) (by simp only [List.getElem?_toArray, List.getElem?_cons_succ, List.getElem?_cons_zero]; exact rfl) (by kernel_rfl) (by kernel_rfl) (by kernel_rfl) (by intro _ _ _ h; exact h) (Or.inl ⟨by rfl, ?y12⟩) ?_
          case y12 => (intro w _; go_simp; try (with_reducible rfl))
          try simp only [Act.put, List.setIfInBounds_toArray, List.set_cons_zero, List.set_cons_succ]
          refine wpLate_take (i := 3) (v := ?v13) (by simp only [List.getElem?_toArray, List.getElem?_cons_succ, List.getElem?_cons_zero]; exact rfl) (by kernel_rfl) (by kernel_rfl) (by kernel_rfl) (by intro _ _ _ h; exact h) (Or.inl ⟨by rfl, ?y13⟩) ?_
          case y13 => (intro w _; go_simp; try (with_reducible rfl))
          try simp only [Act.put, List.setIfInBounds_toArray, List.set_cons_zero, List.set_cons_succ]
          refine wpLate_load (i := 4) (v := ?v14) (by simp only [List.getElem?_toArray, List.getElem?_cons_succ, List.getElem?_cons_zero]; exact rfl) (by kernel_rfl) (by kernel_rfl) (by kernel_rfl) (by kernel_rfl) (by intro _ _ _ h; exact h) (Or.inl ⟨by rfl, ?y14⟩) hHeld ?_
          case y14 => (intro w hSw; (try dsimp only at hSw); go_simp; try (with_reducible rfl))
          try simp only [Act.put, List.setIfInBounds_toArray, List.set_cons_zero, List.set_cons_succ]
          refine wpLate_take (i := 5) (v := ?v15) (by simp only [List.getElem?_toArray, List.getElem?_cons_succ, List.getElem?_cons_zero]; exact rfl) (by kernel_rfl) (by kernel_rfl) (by kernel_rfl) (by intro _ _ _ h; exact h) (Or.inl ⟨by rfl, ?y15⟩) ?_
          case y15 => (intro w _; go_simp; try (with_reducible rfl))
          try simp only [Act.put, List.setIfInBounds_toArray, List.set_cons_zero, List.set_cons_succ]
          refine wpLate_take (i := 6) (v := ?v16) (by simp only [List.getElem?_toArray, List.getElem?_cons_succ, List.getElem?_cons_zero]; exact rfl) (by kernel_rfl) (by kernel_rfl) (by kernel_rfl) (by intro _ _ _ h; exact h) (Or.inl ⟨by rfl, ?y16⟩) ?_
          case y16 => (intro w _; go_simp; try (with_reducible rfl))
          try simp only [Act.put, List.setIfInBounds_toArray, List.set_cons_zero, List.set_cons_succ]
          refine wpLate_take (i := 7) (v := ?v17) (by simp only [List.getElem?_toArray, List.getElem?_cons_succ, List.getElem?_cons_zero]; exact rfl) (by kernel_rfl) (by kernel_rfl) (by kernel_rfl) (by intro _ _ _ h; exact h) (Or.inl ⟨by rfl, ?y17⟩) ?_
          case y17 => (intro w _; go_simp; try (with_reducible rfl))
          try simp only [Act.put, List.setIfInBounds_toArray, List.set_cons_zero, List.set_cons_succ]
          refine wpLate_take (i := 8) (v := ?v18) (by simp only [List.getElem?_toArray, List.getElem?_cons_succ, List.getElem?_cons_zero]; exact rfl) (by kernel_rfl) (by kernel_rfl) (by kernel_rfl) (by intro _ _ _ h; exact h) (Or.inl ⟨by rfl, ?y18⟩) ?_
          case y18 => (intro w _; go_simp; try (with_reducible rfl))
          try simp only [Act.put, List.setIfInBounds_toArray, List.set_cons_zero, List.set_cons_succ]
          refine wpLate_load (i := 9) (v := ?v19) (by simp only [List.getElem?_toArray, List.getElem?_cons_succ, List.getElem?_cons_zero]; exact rfl) (by kernel_rfl) (by kernel_rfl) (by kernel_rfl) (by kernel_rfl) (by intro _ _ _ h; exact h) (Or.inl ⟨by rfl, ?y19⟩) hHeld ?_
          case y19 => (intro w hSw; (try dsimp only at hSw); go_simp; try (with_reducible rfl))
          try simp only [Act.put, List.setIfInBounds_toArray, List.set_cons_zero, List.set_cons_succ]
          refine wpLate_take (i := 10) (v := ?v20) (by simp only [List.getElem?_toArray, List.getElem?_cons_succ, List.getElem?_cons_zero]; exact rfl) (by kernel_rfl) (by kernel_rfl) (by kernel_rfl) (by intro _ _ _ h; exact h) (Or.inl ⟨by rfl, ?y20⟩) ?_
          case y20 => (intro w _; go_simp; try (with_reducible rfl))
          try simp only [Act.put, List.setIfInBounds_toArray, List.set_cons_zero, List.set_cons_succ]
          refine wpLate_load (i := 11) (v := ?v21) (by simp only [List.getElem?_toArray, List.getElem?_cons_succ, List.getElem?_cons_zero]; exact rfl) (by kernel_rfl) (by kernel_rfl) (by kernel_rfl) (by kernel_rfl) (by intro _ _ _ h; exact h) (Or.inl ⟨by rfl, ?y21⟩) hHeld ?_
          case y21 => (intro w hSw; (try dsimp only at hSw); go_simp; try (with_reducible rfl))
          try simp only [Act.put, List.setIfInBounds_toArray, List.set_cons_zero, List.set_cons_succ]
          refine wpLate_take (i := 12) (v := ?v22) (by simp only [List.getElem?_toArray, List.getElem?_cons_succ, List.getElem?_cons_zero]; exact rfl) (by kernel_rfl) (by kernel_rfl) (by kernel_rfl) (by intro _ _ _ h; exact h) (Or.inl ⟨by rfl, ?y22⟩) ?_
          case y22 => (intro w _; go_simp; try (with_reducible rfl))
          try simp only [Act.put, List.setIfInBounds_toArray, List.set_cons_zero, List.set_cons_succ]
          refine wpLate_take (i := 13) (v := ?v23) (by simp only [List.getElem?_toArray, List.getElem?_cons_succ, List.getElem?_cons_zero]; exact rfl) (by kernel_rfl) (by kernel_rfl) (by kernel_rfl) (by intro _ _ _ h; exact h) (Or.inl ⟨by rfl, ?y23⟩) ?_
          case y23 => (intro w _; go_simp; try (with_reducible rfl))
          try simp only [Act.put, List.setIfInBounds_toArray, List.set_cons_zero, List.set_cons_succ]
          refine wpLate_late (i := 14) (by kernel_rfl) (by simp only [List.getElem?_toArray, List.getElem?_cons_succ, List.getElem?_cons_zero]; exact rfl) (by kernel_rfl) (fun K hK => ?_)
          go_simp
          skip
          try dsimp only
          refine hK.out _ _ ?_
          clear hK K
          try simp only [Act.put, List.setIfInBounds_toArray, List.set_cons_zero, List.set_cons_succ]
          refine wpLate_done (by kernel_rfl) ?_ _
          have hr2 : Row (wd.setCell ⟨ob, z, none⟩ (.int .i64 (D2 x + 1))) ob g.length (tabV (fun y => if z = y then D2 x + 1 else D2 y)) := tab_set hrd hzn
          have hqu2 := hqud.keep (w' := wd.setCell ⟨ob, z, none⟩ (.int .i64 (D2 x + 1))) (fun k hk => Below.heap_setCell _ _ _ _ (by
            have := hap ob rfl
            intro e; subst e; exact this hk))
          have hq2 := hqd.setCell (p := ⟨ob, z, none⟩) (by have := HOB.out; simp; omega) (.int .i64 (D2 x + 1))
          have hbx2 : (wd.setCell ⟨ob, z, none⟩ (.int .i64 (D2 x + 1))).cell? ⟨w.heap.size, 0, none⟩ = some (.slice (some ⟨b, off, none⟩) g.length cap) := (World.cell?_of_block (a := ⟨w.heap.size, 0, none⟩) (Below.heap_setCell _ _ _ _ (by have := HOB.out; simp; omega))).trans hbxd
          have cz2 : (wd.setCell ⟨ob, z, none⟩ (.int .i64 (D2 x + 1))).cell? ⟨rb, ro + j, none⟩ = some (.int .i64 (z : Int)) := (World.cell?_of_block (a := ⟨rb, ro + j, none⟩) (Below.heap_setCell _ _ _ _ (by have := HOB.out; have := cell_lt hcr; simp at this; simp; omega))).trans cz
          have hap0 := hap
          clear hqud hrd hqd hbxd hHeld hd cz cm cox cod fod hqu hq hbx hcz hmc co fo cx hr
          go_wp2_with (at_builtin; refine wpList_append1b elI64 rfl _ _ rfl hqu2 rfl (by first | rfl | simp) rfl rfl (by omega) (by simpa using hszd) ?_; intro q' w5 hqu5 hkept hmv)
          have hq5 := hkept.below hq2 hq2.size (fun c h => by have := (hqu2.lt c h).1; omega)
          have hbx5 : w5.cell? ⟨w.heap.size, 0, none⟩ = some (.slice (some ⟨b, off, none⟩) g.length cap) := (World.cell?_of_block (a := ⟨w.heap.size, 0, none⟩) (hkept.2.2.2.2 w.heap.size (cell_lt hbx2) (fun e => by have := (hqu2.lt _ e.symm).1; omega))).trans hbx2
          have hr5 := hr2.keep (w' := w5) (hkept.2.2.2.2 ob (hr2.lt (by omega)) (fun e => hap0 ob rfl e.symm))
          have hap5 : Apart (.slice (some ⟨ob, 0, none⟩) g.length oc) q' := fun c h1 h2 => by
            rcases hmv with h | h
            · rw [h] at h2; exact hap0 c h1 h2
            · rw [h] at h2
              have h3 := hr2.lt (by omega)
              simp [Value.ownBlock] at h1 h2; simp at h3; omega
          have hqu6 : Own w5 (w.heap.size + 1) 2 1 q' (P ++ [z]).length ((natsI (P ++ [z])).map (.int .i64)) := by
            rw [List.length_append]
            simpa [natsI] using hqu5
          go_roundw
          case rel => exact ⟨_, P ++ [z], j + 1, by go_num, by omega, HADD, hqu6, hap5, hr5, hq5, hbx5⟩
          case measure => simp [intOf]; omega
        · have hSK : ∃ N, P = Q ++ N ∧ (∃ M d R1 R2, Q.drop (i0 + 1) ++ N = R1 ++ R2 ∧ DP (netsL g) s f g.length D2 M d x (R.take (j + 1)) R1 R2) ∧ negD D2 g.length + N.length ≤ negD D g.length := by
            obtain ⟨N, e0, ⟨M, d, R1, R2, e, h⟩, h3⟩ := HPN.out
            refine ⟨N, e0, ⟨M, d, R1, R2, e, ?_⟩, h3⟩
            rw [HTK.out]
            refine h.skip fun hw => ?_
            cases e2 : M.testBit z
            · exact absurd ⟨hw, (h.neg hzn).2 e2⟩ hgo
            · rfl
          have HSK := Lib.hid hSK
          clear hSK
          by_cases hneg : D2 z < 0
          · have hsz : s.testBit z = false := by
              cases e : s.testBit z
              · rfl
              · exact absurd ⟨e, hneg⟩ hgo
            rw [hsz] at hhas
            clear hgo HPN hsz
            go_wp2_with (go_at_call 104; refine hhas.mono ?_; rintro e w' ⟨rfl, rfl⟩)
            go_roundw
            case rel => exact ⟨D2, P, j + 1, by go_num, by omega, HSK, hqu, hap, hr, hq, hbx⟩
            case measure => simp [intOf]; omega
          · clear hgo HPN
            go_wp2_with fail
            go_roundw
            case rel => exact ⟨D2, P, j + 1, by go_num, by omega, HSK, hqu, hap, hr, hq, hbx⟩
            case measure => simp [intOf]; omega
end Go.Proofs.YthpbeiihlembnaaDoor
