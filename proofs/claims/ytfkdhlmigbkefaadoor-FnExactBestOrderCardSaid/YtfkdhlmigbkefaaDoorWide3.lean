/- Widths: what is behind a vertex, by the reference's search. -/
import Derived.Test.YtfkdhlmigbkefaaDoorWide2
namespace Go.Proofs.YtfkdhlmigbkefaaDoor
open Go.RowKit
theorem bits_natsI (m : Nat) : bitsI m = natsI (bitsN m) := by simp [bitsI, natsI]
theorem mem_natsI {l : List Nat} {u : Nat} : (u : Int) ∈ natsI l ↔ u ∈ l := by
  unfold natsI
  rw [List.mem_map]
  constructor
  · rintro ⟨z, h, e⟩
    have : z = u := by omega
    exact this ▸ h
  · exact fun h => ⟨u, h, rfl⟩
set_option maxRecDepth 100000 in
set_option maxHeartbeats 8000000 in
theorem l10Behind_any {S : Nat → Prop} {v : Value} {g : List (List Int)} {gb gone x : Nat} {w : World} (hg : GOk g) (hv : SlR S w v g) (hm : Row w gb g.length (markV gone)) (hgo : gone < 2 ^ g.length) (hx : x < g.length) :
    Calls Tryd.prog 44 #[.agg #[v], .slice (some ⟨gb, 0, none⟩) g.length g.length, .int .i64 (x : Int)] w fun e w' => ∃ a c, e = .returned (.slice a (popN (behindN (netsL g) gone x)) c) ∧ Below w.heap.size w w' := by
  have hq0 : Below w.heap.size w (w.alloc (.cells #[v] 27)) := (Below.refl _ _).alloc (Nat.le_refl _) _
  have h16 := hg.hi
  have hI := WideI.of hg
  have hstart := BJ.start hI hgo hx
  have hend := fun L M i O (h : BJ (netsL g) gone x g.length L M i [] O) hi => h.end_ hI hgo hx hi
  have HI := Lib.hid hI; have HG := Lib.hid hg; have HGO := Lib.hid hgo; clear hI hgo
  obtain ⟨a, b, off, cap, fr, rfl, hl, ha, hc0⟩ := hv
  have hlitq : Own ((w.alloc (.cells #[.slice a g.length cap] 27)).alloc (.cells #[.int .i64 (x : Int)] 2)) (w.heap.size + 1) 2 1 (.slice (some ⟨w.heap.size + 1, 0, none⟩) 1 1) 1 [.int .i64 (x : Int)] := by
    have := World.ownsRow_lit (base := w.heap.size + 1) (e := 2) (size := 1) (w.alloc (.cells #[.slice a g.length cap] 27)) #[.int .i64 (x : Int)] 1 (by simp) (by unfold maxLen; omega) rfl
    simpa [Own] using this
  have hlito := hlitq.alloc (.cells #[] 2)
  have hlit2 : Own (((w.alloc (.cells #[.slice a g.length cap] 27)).alloc (.cells #[.int .i64 (x : Int)] 2)).alloc (.cells #[] 2)) (w.heap.size + 1) 2 1 (.slice (some ⟨w.heap.size + 1 + 1, 0, none⟩) 0 0) 0 [] := by
    have := World.ownsRow_lit (base := w.heap.size + 1) (e := 2) (size := 1) ((w.alloc (.cells #[.slice a g.length cap] 27)).alloc (.cells #[.int .i64 (x : Int)] 2)) #[] 0 (by first | (simp; done) | (simp; omega)) (by unfold maxLen; omega) rfl
    simpa [Own] using this
  have hq2 := (hq0.alloc (by simp) (.cells #[.int .i64 (x : Int)] 2)).alloc (by simp; omega) (.cells #[] 2)
  clear hlitq
  go_enter Tryd.func44, Tryd.ntmps44
  go_wp2
  go_loopw [7, 8, 9] (fun m o i wr => ∃ (L : List Nat) (M k O : Nat), i = .int .i64 k ∧ Own wr (w.heap.size + 1) 2 1 m L.length ((natsI L).map (.int .i64)) ∧ OwnB wr (w.heap.size + 1) 2 o O ∧ Apart m o ∧ RowKit.Hid (BJ (netsL g) gone x g.length L M k [] O) ∧ Below w.heap.size w wr ∧ wr.cell? ⟨w.heap.size, 0, none⟩ = some (.slice a g.length cap)) (fun _ _ i _ => 17 - (intOf i).toNat)
  case atStart =>
    refine ⟨[x], bit x, 0, 0, rfl, hlito, ?_, ?_, Lib.hid hstart, hq2, by simp [go_sem]⟩
    · exact hlit2
    · exact apart_lit (by omega)
  case round =>
    clear hlito hlit2 hq2 hq0 hstart
    obtain ⟨L, M, k, O, rfl, hmet, hout, hap, HB, hq, hbx⟩ := hrel
    have hB := hq.size
    have hB2 : w.heap.size + 1 ≤ wr.heap.size := cell_lt hbx
    have hLn := HB.out.len h16
    have hkl := HB.out.ilt
    have hmi := Own.ints (xs := natsI L) hmet (by omega)
    by_cases hlt : k < L.length
    case neg =>
      obtain rfl : k = L.length := by omega
      have HE := Lib.hid (hend L M L.length O HB.out (Nat.le_refl _))
      have hlen := lenV_own hout
      obtain ⟨oa, oc, rfl⟩ := hout.isSlice
      obtain ⟨ma, mc, rfl⟩ := hmet.isSlice
      have hp : (bitsI O).length = popN (behindN (netsL g) gone x) := by rw [← HE.out, popN_I]
      have HP := Lib.hid hp; clear hp hlen hend
      go_wp2
      go_ret
      exact ⟨_, _, (by rw [← HP.out]; rfl), hq⟩
    have HLT := Lib.hid hlt
    obtain ⟨ma, mc, rfl⟩ := hmet.isSlice
    obtain ⟨mb, mo, mcap, hme, hmc⟩ := hmi.at_
    have hcm := hmc k (by rw [natsI_len]; exact hlt)
    rw [natsI_get] at hcm
    have hme2 := hme (by rw [natsI_len]; omega)
    simp only [Value.slice.injEq] at hme2
    obtain ⟨rfl, -, rfl⟩ := hme2
    have hyM := (HB.out.mem L[k]).1 (List.getElem_mem hlt)
    have hyn := bit_lt_of HB.out.lt hyM
    have hclose := fun M' L' (T : List Nat) O' (h : BJ (netsL g) gone x g.length L' M' k T O') (hk : k < L'.length) (e : L'[k] = L[k]) (hT : ∀ u, u ∈ T ↔ ((netsL g).getD L[k] 0).testBit u = true) => h.close hk (by rw [e]; exact hT)
    have hnew := fun M' L' (T : List Nat) O' u (h : BJ (netsL g) gone x g.length L' M' k T O') (hk : k < L'.length) (e : L'[k] = L[k]) (hu : gone.testBit u = true) (hb : ((netsL g).getD L[k] 0).testBit u = true) hM hadd => h.new HI.out HGO.out hx hk hu (by rw [e]; exact hb) hM hadd
    have HCL := Lib.hid hclose; have HNW := Lib.hid hnew; clear hclose hnew hmc hme
    generalize hy : L[k] = y at *
    have HYE := Lib.hid hy; clear hy
    have hgy : (netsL g).getD y 0 = maskL g[y] := netsL_get hyn
    have hR : ∃ R : List Nat, g[y] = natsI R ∧ (∀ u, u ∈ R ↔ ((netsL g).getD y 0).testBit u = true) ∧ (∀ u ∈ R, u < g.length) ∧ R.length ≤ 32 := by
      have h32 := HG.out.ge32 hyn
      refine ⟨bitsN (maskL g[y]), ?_, fun u => ?_, fun u hu => ?_, bitsN_len _⟩
      · rw [← bits_natsI, bitsI_maskL (rise_sorted (HG.out.rise y hyn)) h32]
      · rw [hgy, mem_bitsN (maskL_lt32 h32)]
      · exact bit_lt_of (maskL_lt fun z hz => HG.out.ge hyn z hz) ((mem_bitsN (maskL_lt32 h32)).1 hu)
    obtain ⟨R, hgR, hRm, hRn, hR32⟩ := hR
    obtain ⟨hcell2, hrow⟩ := hc0 y hyn
    obtain ⟨rfl, -⟩ := ha (by omega)
    have hcy := (hq.cell (p := ⟨b, off + y, none⟩) (cell_lt hcell2)).trans hcell2
    rw [hgR] at hrow
    obtain ⟨ra, rb, ro, rc, hre, hrl, hra, hrc⟩ := hrow
    rw [hre] at hcy
    rw [natsI_len] at hcy hrl hra
    have HRM := Lib.hid hRm
    clear hRm hgR hgy hre hcell2 hyM
    go_wp2
    refine wp_region_held_drew (S := (fun w' => w'.cell? ⟨w.heap.size, 0, none⟩ = some (.slice (some ⟨b, off, none⟩) g.length cap) ∧ w'.cell? ⟨mb, mo + k, none⟩ = some (.int .i64 (y : Int)) ∧ w'.cell? ⟨b, off + y, none⟩ = some (.slice ra R.length rc))) (by kernel_rfl) ?_ (fun hHeld => ?_)
    · first | exact ⟨‹_›, ‹_›, ‹_›⟩ | assumption | (simp [*, go_sem])
    have hqd := hq.drew
    have hmetd : Own wr.drew (w.heap.size + 1) 2 1 (.slice (some ⟨mb, mo, none⟩) L.length mc) L.length ((natsI L).map (.int .i64)) := hmet
    have houtd : OwnB wr.drew (w.heap.size + 1) 2 _ O := hout
    clear hq hmet hout hbx hcm hcy hmi hB hB2
    generalize wr.drew = wd at hqd hmetd houtd hHeld ⊢
    have hHeld2 := hHeld
    obtain ⟨hbxd, -, -⟩ := hHeld2
    refine wpAnyH_take (i := 0) (v := ?v1) (by simp only [List.getElem?_toArray, List.getElem?_cons_zero]; exact rfl) (by kernel_rfl) (by kernel_rfl) (by kernel_rfl) (by intro _ _ _ h; exact h) (Or.inl ⟨by rfl, ?y1⟩) hHeld ?_
    case y1 => (intro w hSw; (try dsimp only at hSw); go_simp; try (with_reducible rfl))
    try simp only [Act.put, List.setIfInBounds_toArray, List.set_cons_zero, List.set_cons_succ]
    refine wpAnyH_take (i := 1) (v := ?v2) (by simp only [List.getElem?_toArray, List.getElem?_cons_succ, List.getElem?_cons_zero]; exact rfl) (by kernel_rfl) (by kernel_rfl) (by kernel_rfl) (by intro _ _ _ h; exact h) (Or.inl ⟨by rfl, ?y2⟩) hHeld ?_
    case y2 => (intro w hSw; (try dsimp only at hSw); go_simp; try (with_reducible rfl))
    try simp only [Act.put, List.setIfInBounds_toArray, List.set_cons_zero, List.set_cons_succ]
    refine wpAnyH_take (i := 2) (v := ?v3) (by simp only [List.getElem?_toArray, List.getElem?_cons_succ, List.getElem?_cons_zero]; exact rfl) (by kernel_rfl) (by kernel_rfl) (by kernel_rfl) (by intro _ _ _ h; exact h) (Or.inl ⟨by rfl, ?y3⟩) hHeld ?_
    case y3 => (intro w hSw; (try dsimp only at hSw); go_simp; try (with_reducible rfl))
    try simp only [Act.put, List.setIfInBounds_toArray, List.set_cons_zero, List.set_cons_succ]
    refine wpAnyH_take (i := 3) (v := ?v4) (by simp only [List.getElem?_toArray, List.getElem?_cons_succ, List.getElem?_cons_zero]; exact rfl) (by kernel_rfl) (by kernel_rfl) (by kernel_rfl) (by intro _ _ _ h; exact h) (Or.inl ⟨by rfl, ?y4⟩) hHeld ?_
    case y4 => (intro w hSw; (try dsimp only at hSw); go_simp; try (with_reducible rfl))
    try simp only [Act.put, List.setIfInBounds_toArray, List.set_cons_zero, List.set_cons_succ]
    refine wpAnyH_take (i := 4) (v := ?v5) (by simp only [List.getElem?_toArray, List.getElem?_cons_succ, List.getElem?_cons_zero]; exact rfl) (by kernel_rfl) (by kernel_rfl) (by kernel_rfl) (by intro _ _ _ h; exact h) (Or.inl ⟨by rfl, ?y5⟩) hHeld ?_
    case y5 => (intro w hSw; (try dsimp only at hSw); go_simp; try (with_reducible rfl))
    try simp only [Act.put, List.setIfInBounds_toArray, List.set_cons_zero, List.set_cons_succ]
    refine wpAnyH_take (i := 5) (v := ?v6) (by simp only [List.getElem?_toArray, List.getElem?_cons_succ, List.getElem?_cons_zero]; exact rfl) (by kernel_rfl) (by kernel_rfl) (by kernel_rfl) (by intro _ _ _ h; exact h) (Or.inl ⟨by rfl, ?y6⟩) hHeld ?_
    case y6 => (intro w hSw; (try dsimp only at hSw); go_simp; try (with_reducible rfl))
    try simp only [Act.put, List.setIfInBounds_toArray, List.set_cons_zero, List.set_cons_succ]
    refine wpAnyH_take (i := 6) (v := ?v7) (by simp only [List.getElem?_toArray, List.getElem?_cons_succ, List.getElem?_cons_zero]; exact rfl) (by kernel_rfl) (by kernel_rfl) (by kernel_rfl) (by intro _ _ _ h; exact h) (Or.inl ⟨by rfl, ?y7⟩) hHeld ?_
    case y7 => (intro w hSw; (try dsimp only at hSw); go_simp; try (with_reducible rfl))
    try simp only [Act.put, List.setIfInBounds_toArray, List.set_cons_zero, List.set_cons_succ]
    refine wpAnyH_take (i := 7) (v := ?v8) (by simp only [List.getElem?_toArray, List.getElem?_cons_succ, List.getElem?_cons_zero]; exact rfl) (by kernel_rfl) (by kernel_rfl) (by kernel_rfl) (by intro _ _ _ h; exact h) (Or.inl ⟨by rfl, ?y8⟩) hHeld ?_
    case y8 => (intro w hSw; (try dsimp only at hSw); go_simp; try (with_reducible rfl))
    try simp only [Act.put, List.setIfInBounds_toArray, List.set_cons_zero, List.set_cons_succ]
    refine wpAnyH_take (i := 8) (v := ?v9) (by simp only [List.getElem?_toArray, List.getElem?_cons_succ, List.getElem?_cons_zero]; exact rfl) (by kernel_rfl) (by kernel_rfl) (by kernel_rfl) (by intro _ _ _ h; exact h) (Or.inl ⟨by rfl, ?y9⟩) hHeld ?_
    case y9 => (intro w hSw; (try dsimp only at hSw); go_simp; try (with_reducible rfl))
    try simp only [Act.put, List.setIfInBounds_toArray, List.set_cons_zero, List.set_cons_succ]
    refine wpAnyH_done (by kernel_rfl) ?_ _
    all_goals
      clear hHeld
      go_wp2
      go_loopw [7, 8, 11] (fun m o i wr => ∃ (L2 : List Nat) (M2 j O2 : Nat), i = .int .i64 j ∧ j ≤ R.length ∧ Own wr (w.heap.size + 1) 2 1 m L2.length ((natsI L2).map (.int .i64)) ∧ OwnB wr (w.heap.size + 1) 2 o O2 ∧ Apart m o ∧ RowKit.Hid (BJ (netsL g) gone x g.length L2 M2 k (R.take j) O2) ∧ RowKit.Hid (∃ hk : k < L2.length, L2[k] = y) ∧ Below w.heap.size w wr ∧ wr.cell? ⟨w.heap.size, 0, none⟩ = some (.slice (some ⟨b, off, none⟩) g.length cap)) (fun _ _ i _ => R.length - (intOf i).toNat)
      case atStart => exact ⟨L, M, 0, O, rfl, Nat.zero_le _, hmetd, houtd, hap, HB, Lib.hid ⟨HLT.out, HYE.out⟩, hqd, hbxd⟩
      case round =>
        clear hmetd houtd hap hqd hbxd hLn hkl HB
        obtain ⟨wi, rfl⟩ : ∃ wi : World, wi = wr := ⟨_, rfl⟩
        obtain ⟨L2, M2, j, O2, rfl, hj, hmet, hout, hap, HB, HK, hq, hbx⟩ := hrel
        have hB := hq.size
        have hB2 : w.heap.size + 1 ≤ wi.heap.size := cell_lt hbx
        have hLn := HB.out.len h16
        by_cases hjl : j < R.length
        case neg =>
          obtain rfl : j = R.length := by omega
          obtain ⟨hk2, hky⟩ := HK.out
          have hcl := HCL.out M2 L2 (R.take R.length) O2 HB.out hk2 hky (by rw [List.take_length]; exact HRM.out)
          have HC := Lib.hid hcl
          have hkl2 := HB.out.ilt
          clear hcl hk2 hky HK
          go_wp2
          go_roundw
          case rel => exact ⟨L2, M2, k + 1, O2, by go_num, hmet, hout, hap, HC, hq, hbx⟩
          case measure => have := HLT.out; simp [intOf]; omega
        have hM32 : M2 < 4294967296 := Nat.lt_trans HB.out.lt (pow16_lt h16)
        have hO32 : O2 < 4294967296 := Nat.lt_trans HB.out.olt (pow16_lt h16)
        have hmi := Own.ints (xs := natsI L2) hmet (by omega)
        have hcr := hrc j (by rw [natsI_len]; exact hjl)
        rw [natsI_get] at hcr
        obtain ⟨rfl, -⟩ := hra (by omega)
        have hzb := (HRM.out R[j]).1 (List.getElem_mem hjl)
        have hzn := hRn R[j] (List.getElem_mem hjl)
        have htk : R.take (j + 1) = R.take j ++ [R[j]] := List.take_succ_eq_append_getElem hjl
        have HTK := Lib.hid htk; clear htk
        generalize R[j] = z at *
        have hcz := (hq.cell (p := ⟨rb, ro + j, none⟩) (cell_lt hcr)).trans hcr
        obtain ⟨hmz, -⟩ := (hm.below hq (Nat.le_refl _)) z hzn
        unfold markV at hmz
        have hhas := l1Has_any _ (natsI L2) (z : Int) wi hmi
        have hmem : decide ((z : Int) ∈ natsI L2) = M2.testBit z := by
          rw [Bool.eq_iff_iff, decide_eq_true_eq, mem_natsI, HB.out.mem]
        rw [hmem] at hhas
        have HZ := Lib.hid hzb
        clear hmem hzb
        obtain ⟨m2a, m2c, rfl⟩ := hmet.isSlice
        cases hgz : gone.testBit z
        · rw [hgz] at hmz
          by_cases hzx : z = x
          · subst hzx
            have hb1 : ((z : Int) != (z : Int)) = false := by simp
            have hb2 : (z != z) = false := by simp
            have hnx := HB.out.self
            rw [← HTK.out] at hnx
            have HN := Lib.hid hnx; clear hnx hgz
            go_wp2
            go_roundw
            case rel => exact ⟨L2, M2, j + 1, O2, by go_num, by omega, hmet, hout, hap, HN, HK, hq, hbx⟩
            case measure => simp [intOf]; omega
          · have hb1 : ((z : Int) != (x : Int)) = true := by rw [bne_iff_ne]; omega
            have hb2 : (z != x) = true := by rw [bne_iff_ne]; exact hzx
            have hnx := HB.out.put HI.out hzn hgz (fun e => hzx e.symm)
            rw [← HTK.out] at hnx
            have HN := Lib.hid hnx
            have hinto := intoB_apart hout hB2 hO32 (x := z) (by omega)
            clear hnx hgz hzx
            go_wp2_with (go_at_call 70; refine hinto.mono ?_; rintro e w3 ⟨o2, rfl, ho2, hmv, hb3⟩)
            have hmet3 := hmet.below hb3 (Nat.le_refl _)
            have hap3 : Apart (.slice m2a L2.length m2c) o2 := fun c h1 h2 => by
              rcases hmv with h | h
              · rw [h] at h2; exact hap c h1 h2
              · have := h c h2; have := (hmet.lt c h1).2; omega
            go_roundw
            case rel => exact ⟨L2, M2, j + 1, O2 ||| bit z, by go_num, by omega, hmet3, ho2, hap3, HN, HK, hq.trans (hb3.mono hB), (hb3.cell (cell_lt hbx)).trans hbx⟩
            case measure => simp [intOf]; omega
        · rw [hgz] at hmz
          cases hMz : M2.testBit z
          · rw [hMz] at hhas
            obtain ⟨hk2, hky⟩ := HK.out
            have hnx := HNW.out M2 L2 (R.take j) O2 z HB.out hk2 hky hgz HZ.out hMz (popN_add hM32 (by omega) hMz)
            rw [← HTK.out] at hnx
            have HN := Lib.hid hnx
            have HK2 : RowKit.Hid (∃ hk : k < (L2 ++ [z]).length, (L2 ++ [z])[k] = y) := Lib.hid ⟨by rw [List.length_append]; omega, by rw [List.getElem_append_left hk2]; exact hky⟩
            have hMZ : ∀ W : World, Below w.heap.size w W → W.cell? ⟨gb, z, none⟩ = some (.bool true) := fun W hW => by
              have h := ((hm.below hW (Nat.le_refl _)) z hzn).1
              unfold markV at h
              rw [hgz] at h; exact h
            have hCZ : ∀ W : World, Below w.heap.size w W → W.cell? ⟨rb, ro + j, none⟩ = some (.int .i64 (z : Int)) := fun W hW => (hW.cell (p := ⟨rb, ro + j, none⟩) (cell_lt hcr)).trans hcr
            clear hnx hgz hMz hk2 hky HK
            go_wp2_with (first | (go_at_call 69; refine hhas.mono ?_; rintro e w' ⟨rfl, rfl⟩) | (at_builtin; refine wpList_append1b elI64 rfl _ _ rfl hmet rfl rfl rfl rfl (by omega) hB2 ?_; intro m3 w3 hmet3 hkept hmv; have hq3 := hkept.below hq hB (fun c h => by have := (hmet.lt c h).1; omega); have hmz3 := hMZ _ hq3; have hcz3 := hCZ _ hq3))
            have hout3 : OwnB w3 (w.heap.size + 1) 2 _ O2 := Own.kept hout hkept (fun c h1 h2 => hap c h2 h1)
            have hap3 := Apart.moved hap hout (by simp) hmv
            have hbx3 : w3.cell? ⟨w.heap.size, 0, none⟩ = some (.slice (some ⟨b, off, none⟩) g.length cap) := (World.cell?_of_block (a := ⟨w.heap.size, 0, none⟩) (hkept.2.2.2.2 w.heap.size (cell_lt hbx) (fun e => by have := (hmet.lt _ e.symm).1; omega))).trans hbx
            go_roundw
            case rel => exact ⟨L2 ++ [z], M2 ||| bit z, j + 1, O2, by go_num, by omega, by simpa [natsI] using hmet3, hout3, hap3, HN, HK2, hq3, hbx3⟩
            case measure => simp [intOf]; omega
          · rw [hMz] at hhas
            have hnx := HB.out.met hgz hMz
            rw [← HTK.out] at hnx
            have HN := Lib.hid hnx; clear hnx hgz hMz
            go_wp2_with (go_at_call 69; refine hhas.mono ?_; rintro e w' ⟨rfl, rfl⟩)
            go_roundw
            case rel => exact ⟨L2, M2, j + 1, O2, by go_num, by omega, hmet, hout, hap, HN, HK, hq, hbx⟩
            case measure => simp [intOf]; omega
end Go.Proofs.YtfkdhlmigbkefaaDoor
