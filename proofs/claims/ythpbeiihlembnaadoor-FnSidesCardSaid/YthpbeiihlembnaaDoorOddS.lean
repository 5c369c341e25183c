/- OddLoop of the reference. -/
import Derived.Test.YthpbeiihlembnaaDoorFar
import Derived.Test.YthpbeiihlembnaaDoorOddM
import Derived.Test.YthpbeiihlembnaaDoorLeast1
import Derived.Test.YthpbeiihlembnaaDoorFit4
namespace Go.Proofs.YthpbeiihlembnaaDoor
open Go.RowKit
/-- The number that a neighbour has in the doubled graph. -/
def twN (x z : Nat) : Nat := 2 * z + 1 - x % 2
theorem tw_lt {x z n : Nat} (h : z < n) : twN x z < 2 * n := by unfold twN; omega
theorem tw_nb {H : List Nat} {x z : Nat} (h : (H.getD (x / 2) 0).testBit z = true) : nbO H x (twN x z) := by
  have e : twN x z / 2 = z := by unfold twN; omega
  exact ⟨by rw [e]; exact h, by unfold twN; omega⟩
theorem nb_tw {H : List Nat} {x y : Nat} (h : nbO H x y) : y = twN x (y / 2) := by
  have := h.2
  unfold twN; omega
/-- The queue while the neighbours of its number are gone through. -/
def TwT (x : Nat) (R : List Nat) (z : Nat) : Prop := ∃ r ∈ R, z = twN x r
theorem twT_snoc {x : Nat} {R : List Nat} {r : Nat} : (fun z => TwT x R z ∨ z = twN x r) = TwT x (R ++ [r]) := by
  funext z
  apply propext
  unfold TwT
  constructor
  · rintro (⟨q, hq, e⟩ | e)
    · exact ⟨q, List.mem_append_left _ hq, e⟩
    · exact ⟨r, by simp, e⟩
  · rintro ⟨q, hq, e⟩
    rcases List.mem_append.1 hq with h | h
    · exact .inl ⟨q, h, e⟩
    · rw [List.mem_singleton] at h; subst h; exact .inr e
theorem twT_nil (x : Nat) : (fun _ : Nat => False) = TwT x [] := by
  funext z
  apply propext
  unfold TwT
  simp
theorem half_int (x : Nat) : Int.tdiv (x : Int) 2 = ((x / 2 : Nat) : Int) := rfl
theorem odd_int (x : Nat) : Int.tmod (x : Int) 2 = ((x % 2 : Nat) : Int) := rfl
set_option maxRecDepth 100000 in
set_option maxHeartbeats 8000000 in
theorem l3Twice_any {S : Nat → Prop} {v : Value} {g : List (List Int)} {s : Nat} {w : World} (hg : GOk g) (hv : SlR S w v g) (hs : s < g.length) :
    Calls Tryd.prog 151 #[.agg #[v], .int .i64 (s : Int)] w fun e w' => ∃ ob c D, e = .returned (.slice (some ⟨ob, 0, none⟩) (2 * g.length) c) ∧ w.heap.size ≤ ob ∧ Row w' ob (2 * g.length) (tabV D) ∧ IsD (nbO (netsL g)) (2 * g.length) (2 * s) D ∧ (∀ y, D y ≤ 32) ∧ Below w.heap.size w w' := by
  have h16 := hg.hi
  have HG := Lib.hid hg
  have HS0 := Lib.hid (BQ.start (nb := nbO (netsL g)) (N := 2 * g.length) (s := 2 * s) (by omega))
  have hsize := fun (W : World) (hb : Below w.heap.size w W) => wSize_any (hv.below hb (Nat.le_refl _))
  obtain ⟨a, b, off, cap, fr, rfl, hl, ha, hc0⟩ := hv
  have hq0 : Below w.heap.size w (w.alloc (.cells #[.slice a g.length cap] 29)) := (Below.refl _ _).alloc (Nat.le_refl _) _
  go_enter Tryd.func151, Tryd.ntmps151
  go_wp2_with fail
  refine (hsize _ hq0).mono ?_
  rintro e w1 ⟨rfl, hb1⟩
  have hq1 := hq0.trans (hb1.mono hq0.size)
  have hbx1 : w1.cell? ⟨w.heap.size, 0, none⟩ = some (.slice a g.length cap) := (hb1.cell (p := ⟨w.heap.size, 0, none⟩) (by simp)).trans (by simp [go_sem])
  have hsz1 : w.heap.size + 1 ≤ w1.heap.size := cell_lt hbx1
  have hba1 : Below w1.heap.size w1 (w1.alloc (.cells #[] 2)) := (Below.refl _ _).alloc (Nat.le_refl _) _
  have ho0 : Own (w1.alloc (.cells #[] 2)) (w.heap.size + 1) 2 1 (.slice (some ⟨w1.heap.size, 0, none⟩) 0 0) 0 [] := by
    have := World.ownsRow_lit (base := w.heap.size + 1) (e := 2) (size := 1) w1 #[] 0 hsz1 (by unfold maxLen; omega) rfl
    simpa [Own] using this
  have hq2 := hq1.trans (hba1.mono hq1.size)
  have hbx2 := (hba1.cell (cell_lt hbx1)).trans hbx1
  clear hq0 hb1 hq1 hbx1 hba1 hsize
  go_wp2
  go_loopw [6, 7] (fun o i wr => ∃ k : Nat, k ≤ 2 * g.length ∧ i = .int .i64 k ∧ Own wr (w.heap.size + 1) 2 1 o k (List.replicate k (.int .i64 (-1))) ∧ Below w.heap.size w wr ∧ wr.cell? ⟨w.heap.size, 0, none⟩ = some (.slice a g.length cap)) (fun _ i _ => 2 * g.length - (intOf i).toNat)
  case atStart => exact ⟨0, Nat.zero_le _, rfl, ho0, hq2, hbx2⟩
  case round =>
    clear ho0 hq2 hbx2 hsz1
    obtain ⟨k, hk, rfl, ho, hq, hbx⟩ := hrel
    obtain ⟨wo, rfl⟩ : ∃ wx : World, wx = wr := ⟨_, rfl⟩
    have hB2 : w.heap.size + 1 ≤ wo.heap.size := cell_lt hbx
    by_cases hlt : k < 2 * g.length
    case pos =>
      go_wp2_with (at_builtin; refine wpList_append1b elI64 rfl _ _ rfl ho rfl rfl rfl rfl (by omega) hB2 ?_; intro o' w3 ho3 hkept hmv)
      have hq3 := hkept.below hq hq.size (fun c h => by have := (ho.lt c h).1; omega)
      have hbx3 : w3.cell? ⟨w.heap.size, 0, none⟩ = some (.slice a g.length cap) := (World.cell?_of_block (a := ⟨w.heap.size, 0, none⟩) (hkept.2.2.2.2 w.heap.size (cell_lt hbx) (fun e => by have := (ho.lt _ e.symm).1; omega))).trans hbx
      go_roundw
      case rel => exact ⟨k + 1, by omega, by go_num, by rw [List.replicate_succ']; exact ho3, hq3, hbx3⟩
      case measure => simp [intOf]; omega
    obtain rfl : k = 2 * g.length := by omega
    obtain ⟨ob, oc, rfl⟩ := own_some ho (by omega)
    have hob := ho.lt ob rfl
    have hr : Row wo ob (2 * g.length) (tabV fun _ => -1) := Row.ofOwn ho (fun i hi => by simp [tabV])
    have h2s : 2 * s < 2 * g.length := by omega
    obtain ⟨c1, f1⟩ := hr (2 * s) h2s
    have hr1 : Row (wo.setCell ⟨ob, 2 * s, none⟩ (.int .i64 0)) ob (2 * g.length) (tabV fun y => if 2 * s = y then 0 else -1) := hr.set h2s fun i _ => by
      unfold tabV
      by_cases e : 2 * s = i <;> simp [e]
    have hq1 := hq.setCell (p := ⟨ob, 2 * s, none⟩) (by simp; omega) (.int .i64 0)
    have hbx1 : (wo.setCell ⟨ob, 2 * s, none⟩ (.int .i64 0)).cell? ⟨w.heap.size, 0, none⟩ = some (.slice a g.length cap) := (World.cell?_of_block (a := ⟨w.heap.size, 0, none⟩) (Below.heap_setCell _ _ _ _ (by simp; omega))).trans hbx
    have hqe : Own ((wo.setCell ⟨ob, 2 * s, none⟩ (.int .i64 0)).alloc (.cells #[.int .i64 ((2 * s : Nat) : Int)] 2)) (w.heap.size + 1) 2 1 (.slice (some ⟨wo.heap.size, 0, none⟩) 1 1) 1 ((natsI [2 * s]).map (.int .i64)) := by
      have := World.ownsRow_lit (base := w.heap.size + 1) (e := 2) (size := 1) (wo.setCell ⟨ob, 2 * s, none⟩ (.int .i64 0)) #[.int .i64 ((2 * s : Nat) : Int)] 1 (by simpa using hB2) (by unfold maxLen; omega) rfl
      simpa [Own, natsI] using this
    have hba : Below (wo.setCell ⟨ob, 2 * s, none⟩ (.int .i64 0)).heap.size (wo.setCell ⟨ob, 2 * s, none⟩ (.int .i64 0)) ((wo.setCell ⟨ob, 2 * s, none⟩ (.int .i64 0)).alloc (.cells #[.int .i64 ((2 * s : Nat) : Int)] 2)) := (Below.refl _ _).alloc (Nat.le_refl _) _
    have hr2 := hr1.below hba (Nat.le_refl _)
    have hq2 := hq1.trans (hba.mono hq1.size)
    have hbx2 := (hba.cell (cell_lt hbx1)).trans hbx1
    have hap2 : Apart (.slice (some ⟨ob, 0, none⟩) (2 * g.length) oc) (.slice (some ⟨wo.heap.size, 0, none⟩) 1 1) := apart_lit (by omega)
    have HOB := Lib.hid (show w.heap.size + 1 ≤ ob from hob.1)
    have hcast : ((2 * s : Nat) : Int) = 2 * (s : Int) := by omega
    rw [hcast] at hqe hr2 hq2 hbx2
    unfold tabV at c1
    clear hr1 hq1 hbx1 hba hcast
    go_wp2
    clear c1 f1 hr hq hbx hob
    go_loopw [8, 9] (fun q i wr => ∃ (D : Nat → Int) (Q : List Nat) (i0 : Nat), i = .int .i64 i0 ∧ i0 ≤ Q.length ∧ Q.length ≤ 2 * g.length ∧ Own wr (w.heap.size + 1) 2 1 q Q.length ((natsI Q).map (.int .i64)) ∧ Apart (.slice (some ⟨ob, 0, none⟩) (2 * g.length) oc) q ∧ Row wr ob (2 * g.length) (tabV D) ∧ RowKit.Hid (BQ (nbO (netsL g)) (2 * g.length) (2 * s) D Q i0 (fun _ => False) ∧ ∀ y, D y < Q.length) ∧ Below w.heap.size w wr ∧ wr.cell? ⟨w.heap.size, 0, none⟩ = some (.slice a g.length cap)) (fun _ i _ => 2 * g.length - (intOf i).toNat)
    case atStart => exact ⟨_, [2 * s], 0, rfl, Nat.zero_le _, by simp; omega, hqe, hap2, hr2, Lib.hid ⟨HS0.out, fun y => by by_cases e : 2 * s = y <;> simp [e]⟩, hq2, hbx2⟩
    case round =>
      clear hqe hap2 hr2 HS0 hq2 hbx2 ho hB2
      obtain ⟨wo, rfl⟩ : ∃ wx : World, wx = wr := ⟨_, rfl⟩
      obtain ⟨D, Q, i0, rfl, hi0, hQ32, hqu, hap, hr, HB, hq, hbx⟩ := hrel
      by_cases hil : i0 < Q.length
      case neg =>
        obtain ⟨qa, qc, rfl⟩ := hqu.isSlice
        obtain rfl : i0 = Q.length := by omega
        have HE := Lib.hid (HB.out.1.end_ (fun x y hx hb => by have h1 := nb_tw hb; have h2 := hb.1; rw [nets_bit2 HG.out (show x / 2 < g.length by omega), decide_eq_true_eq] at h2; rw [h1]; exact tw_lt (HG.out.symD (by omega) h2).1) (by omega))
        go_wp2
        go_ret
        exact ⟨_, _, D, rfl, by have := HOB.out; omega, hr, HE.out, fun y => by have := HB.out.2 y; omega, hq⟩
      obtain ⟨qg, qc, rfl⟩ := own_some hqu (by omega)
      obtain ⟨x, hx⟩ : ∃ x, x = Q[i0] := ⟨_, rfl⟩
      have hmc := (World.ownsRow.cellAt hqu i0 (by omega)).trans (show _ = some (.int .i64 (x : Int)) by simp [natsI, hil, hx])
      have hx2 : x < 2 * g.length := by rw [hx]; exact HB.out.1.lt _ (List.getElem_mem hil)
      have HX := Lib.hid (show Q.getD i0 0 = x by rw [hx]; simp [hil])
      clear hx
      have hxn : x / 2 < g.length := by omega
      have hgy : (netsL g).getD (x / 2) 0 = maskL g[x / 2] := netsL_get hxn
      have hR : ∃ R : List Nat, g[x / 2] = natsI R ∧ (∀ u, u ∈ R ↔ ((netsL g).getD (x / 2) 0).testBit u = true) ∧ (∀ u ∈ R, u < g.length) ∧ R.length ≤ 32 := by
        have h32 := HG.out.ge32 hxn
        refine ⟨bitsN (maskL g[x / 2]), ?_, fun u => ?_, fun u hu => ?_, bitsN_len _⟩
        · rw [← bits_natsI3, bitsI_maskL (rise_sorted (HG.out.rise (x / 2) hxn)) h32]
        · rw [hgy, mem_bitsN (maskL_lt32 h32)]
        · exact bit_lt_of (maskL_lt fun z hz => HG.out.ge hxn z hz) ((mem_bitsN (maskL_lt32 h32)).1 hu)
      obtain ⟨R, hgR, hRm, hRn, hR32⟩ := hR
      obtain ⟨hcell2, hrow⟩ := hc0 (x / 2) hxn
      obtain ⟨rfl, -⟩ := ha (by omega)
      rw [hgR] at hrow
      obtain ⟨ra, rb, ro, rc, hre, hrl, hra, hrc⟩ := hrow
      rw [hre] at hcell2
      rw [natsI_len] at hcell2 hrl hra
      have hcx := (hq.cell (p := ⟨b, off + x / 2, none⟩) (cell_lt hcell2)).trans hcell2
      have HRM := Lib.hid hRm
      obtain ⟨xh, hxh⟩ : ∃ h, h = x / 2 := ⟨_, rfl⟩
      have hhalf : IntKind.i64.wrap ((x : Int) / 2) = (xh : Int) := by rw [IntWalk.i64_in _ (by omega)]; omega
      have hxhn : xh < g.length := by omega
      rw [← hxh] at hcx hcell2
      have HXH := Lib.hid hxh
      clear hRm hgR hgy hre hxh
      go_wp2
      refine wp_region_held_drew (S := (fun w' => w'.cell? ⟨w.heap.size, 0, none⟩ = some (.slice (some ⟨b, off, none⟩) g.length cap) ∧ w'.cell? ⟨qg, i0, none⟩ = some (.int .i64 (x : Int)) ∧ w'.cell? ⟨b, off + xh, none⟩ = some (.slice ra R.length rc))) (by kernel_rfl) ?_ (fun hHeld => ?_)
      · first | exact ⟨‹_›, ‹_›, ‹_›⟩ | assumption | (simp [*, go_sem])
      have hd : Below wo.heap.size wo wo.drew := (Below.refl _ _).drew
      have hqd := hq.drew
      have hqud := hqu.below hd (Nat.le_refl _)
      have hrd := hr.below hd (Nat.le_refl _)
      generalize wo.drew = wd at hd hqd hqud hrd hHeld ⊢
      have hHeld2 := hHeld
      obtain ⟨cbx, cm, cr⟩ := hHeld2
      refine wpAnyH_take (i := 0) (v := ?v1) (by simp only [List.getElem?_toArray, List.getElem?_cons_zero]; exact rfl) (by kernel_rfl) (by kernel_rfl) (by kernel_rfl) (by intro _ _ _ h; exact h) (Or.inl ⟨by rfl, ?y1⟩) hHeld ?_
      case y1 => (intro w hSw; (try dsimp only at hSw); go_simp; try (with_reducible rfl))
      try simp only [Act.put, List.setIfInBounds_toArray, List.set_cons_zero, List.set_cons_succ]
      refine wpAnyH_take (i := 1) (v := ?v2) (by simp only [List.getElem?_toArray, List.getElem?_cons_succ, List.getElem?_cons_zero]; exact rfl) (by kernel_rfl) (by kernel_rfl) (by kernel_rfl) (by intro _ _ _ h; exact h) (Or.inl ⟨by rfl, ?y2⟩) hHeld ?_
      case y2 => (intro w hSw; (try dsimp only at hSw); go_simp; try (with_reducible rfl))
      try simp only [Act.put, List.setIfInBounds_toArray, List.set_cons_zero, List.set_cons_succ]
      refine wpAnyH_take (i := 2) (v := ?v3) (by simp only [List.getElem?_toArray, List.getElem?_cons_succ, List.getElem?_cons_zero]; exact rfl) (by kernel_rfl) (by kernel_rfl) (by kernel_rfl) (by intro _ _ _ h; exact h) (Or.inl ⟨by rfl, ?y3⟩) hHeld ?_
      case y3 => (intro w hSw; (try dsimp only at hSw); go_simp; try (with_reducible rfl))
      try simp only [Act.put, List.setIfInBounds_toArray, List.set_cons_zero, List.set_cons_succ]
      refine wpAnyH_take (i := 3) (v := ?v4) (by simp only [List.getElem?_toArray, List.getElem?_cons_succ, List.getElem?_cons_zero]; exact rfl) (by kernel_rfl) (by kernel_rfl) (by kernel_rfl) (by intro _ _ _ h; exact h) (Or.inl ⟨by rfl, ?y4⟩) hHeld ?_
      case y4 => (intro w hSw; (try dsimp only at hSw); go_simp; try (with_reducible rfl))
      try simp only [Act.put, List.setIfInBounds_toArray, List.set_cons_zero, List.set_cons_succ]
      refine wpAnyH_take (i := 4) (v := ?v5) (by simp only [List.getElem?_toArray, List.getElem?_cons_succ, List.getElem?_cons_zero]; exact rfl) (by kernel_rfl) (by kernel_rfl) (by kernel_rfl) (by intro _ _ _ h; exact h) (Or.inl ⟨by rfl, ?y5⟩) hHeld ?_
      case y5 => (intro w hSw; (try dsimp only at hSw); go_simp; try (with_reducible rfl))
      try simp only [Act.put, List.setIfInBounds_toArray, List.set_cons_zero, List.set_cons_succ]
      refine wpAnyH_take (i := 5) (v := ?v6) (by simp only [List.getElem?_toArray, List.getElem?_cons_succ, List.getElem?_cons_zero]; exact rfl) (by kernel_rfl) (by kernel_rfl) (by kernel_rfl) (by intro _ _ _ h; exact h) (Or.inl ⟨by rfl, ?y6⟩) hHeld ?_
      case y6 => (intro w hSw; (try dsimp only at hSw); go_simp; try (with_reducible rfl))
      try simp only [Act.put, List.setIfInBounds_toArray, List.set_cons_zero, List.set_cons_succ]
      refine wpAnyH_take (i := 6) (v := ?v7) (by simp only [List.getElem?_toArray, List.getElem?_cons_succ, List.getElem?_cons_zero]; exact rfl) (by kernel_rfl) (by kernel_rfl) (by kernel_rfl) (by intro _ _ _ h; exact h) (Or.inl ⟨by rfl, ?y7⟩) hHeld ?_
      case y7 => (intro w hSw; (try dsimp only at hSw); go_simp; try (with_reducible rfl))
      try simp only [Act.put, List.setIfInBounds_toArray, List.set_cons_zero, List.set_cons_succ]
      refine wpAnyH_take (i := 7) (v := ?v8) (by simp only [List.getElem?_toArray, List.getElem?_cons_succ, List.getElem?_cons_zero]; exact rfl) (by kernel_rfl) (by kernel_rfl) (by kernel_rfl) (by intro _ _ _ h; exact h) (Or.inl ⟨by rfl, ?y8⟩) hHeld ?_
      case y8 => (intro w hSw; (try dsimp only at hSw); go_simp; try (with_reducible rfl))
      try simp only [Act.put, List.setIfInBounds_toArray, List.set_cons_zero, List.set_cons_succ]
      refine wpAnyH_take (i := 8) (v := ?v9) (by simp only [List.getElem?_toArray, List.getElem?_cons_succ, List.getElem?_cons_zero]; exact rfl) (by kernel_rfl) (by kernel_rfl) (by kernel_rfl) (by intro _ _ _ h; exact h) (Or.inl ⟨by rfl, ?y9⟩) hHeld ?_
      case y9 => (intro w hSw; (try dsimp only at hSw); go_simp; try (with_reducible rfl))
      try simp only [Act.put, List.setIfInBounds_toArray, List.set_cons_zero, List.set_cons_succ]
      refine wpAnyH_take (i := 9) (v := ?v10) (by simp only [List.getElem?_toArray, List.getElem?_cons_succ, List.getElem?_cons_zero]; exact rfl) (by kernel_rfl) (by kernel_rfl) (by kernel_rfl) (by intro _ _ _ h; exact h) (Or.inl ⟨by rfl, ?y10⟩) hHeld ?_
      case y10 => (intro w hSw; (try dsimp only at hSw); go_simp; try (with_reducible rfl))
      try simp only [Act.put, List.setIfInBounds_toArray, List.set_cons_zero, List.set_cons_succ]
      refine wpAnyH_done (by kernel_rfl) ?_ _
      clear hq hqu hr hd hmc hcx hHeld
      go_wp2
      go_loopw [8, 11] (fun q i wr => ∃ (D2 : Nat → Int) (P : List Nat) (j : Nat), i = .int .i64 j ∧ j ≤ R.length ∧ i0 < P.length ∧ P.length ≤ 2 * g.length ∧ RowKit.Hid (P.getD i0 0 = x ∧ BQ (nbO (netsL g)) (2 * g.length) (2 * s) D2 P i0 (TwT x (R.take j)) ∧ ∀ y, D2 y < P.length) ∧ Own wr (w.heap.size + 1) 2 1 q P.length ((natsI P).map (.int .i64)) ∧ Apart (.slice (some ⟨ob, 0, none⟩) (2 * g.length) oc) q ∧ Row wr ob (2 * g.length) (tabV D2) ∧ Below w.heap.size w wr ∧ wr.cell? ⟨w.heap.size, 0, none⟩ = some (.slice (some ⟨b, off, none⟩) g.length cap)) (fun _ i _ => R.length - (intOf i).toNat)
      case atStart => exact ⟨D, Q, 0, rfl, Nat.zero_le _, hil, hQ32, Lib.hid ⟨HX.out, by rw [List.take_zero, ← twT_nil]; exact HB.out.1, HB.out.2⟩, hqud, hap, hrd, hqd, cbx⟩
      case round =>
        clear hqud hap hrd HB hqd cbx cm cr hil hQ32 HX
        obtain ⟨wi, rfl⟩ : ∃ wi : World, wi = wr := ⟨_, rfl⟩
        obtain ⟨D2, P, j, rfl, hj, hlq, hP32, HPN, hqu, hap, hr, hq, hbx⟩ := hrel
        have hB2 : w.heap.size + 1 ≤ wi.heap.size := cell_lt hbx
        by_cases hjl : j < R.length
        case neg =>
          obtain rfl : j = R.length := by omega
          have HQD := Lib.hid (show BQ (nbO (netsL g)) (2 * g.length) (2 * s) D2 P (i0 + 1) (fun _ => False) ∧ ∀ y, D2 y < P.length from ⟨HPN.out.2.1.next (fun _ y hy => by rw [HPN.out.1] at hy; rw [List.take_length]; exact ⟨y / 2, (HRM.out _).2 hy.1, nb_tw hy⟩), HPN.out.2.2⟩)
          go_wp2
          go_roundw
          case rel => exact ⟨D2, P, i0 + 1, by go_num, by omega, hP32, hqu, hap, hr, HQD, hq, hbx⟩
          case measure => simp [intOf]; omega
        have hcr := hrc j (by rw [natsI_len]; exact hjl)
        rw [natsI_get] at hcr
        obtain ⟨rfl, -⟩ := hra (by omega)
        have hzb := (HRM.out R[j]).1 (List.getElem_mem hjl)
        have hzn := hRn R[j] (List.getElem_mem hjl)
        have HTK := Lib.hid (show R.take (j + 1) = R.take j ++ [R[j]] from List.take_succ_eq_append_getElem hjl)
        generalize R[j] = z at *
        have HZ := Lib.hid hzb
        have hcz := (hq.cell (p := ⟨rb, ro + j, none⟩) (cell_lt hcr)).trans hcr
        obtain ⟨to, hto⟩ : ∃ t, t = twN x z := ⟨_, rfl⟩
        have hton : to < 2 * g.length := by rw [hto]; exact tw_lt hzn
        have htoI : IntKind.i64.wrap (IntKind.i64.wrap (IntKind.i64.wrap (2 * (z : Int)) + 1) - (x : Int).tmod 2) = (to : Int) := by
          rw [odd_int, IntWalk.i64_in (2 * (z : Int)) (by omega), IntWalk.i64_in (2 * (z : Int) + 1) (by omega), IntWalk.i64_in _ (by omega), hto]; unfold twN; omega
        have HTO := Lib.hid hto
        obtain ⟨co, fo⟩ := hr to hton
        obtain ⟨cx, -⟩ := hr x hx2
        unfold tabV at co cx
        have hxs : 0 ≤ D2 x ∧ D2 x < P.length := ⟨by
          obtain ⟨k, hk, -⟩ := HPN.out.2.1.wk _ (getD_mem hlq)
          rw [HPN.out.1] at hk; omega, HPN.out.2.2 x⟩
        obtain ⟨qh, qk, rfl⟩ := own_some hqu (by omega)
        have hmc := (World.ownsRow.cellAt hqu i0 (by omega)).trans (show _ = some (.int .i64 (x : Int)) by
          have e := HPN.out.1
          rw [show P.getD i0 0 = P[i0] by simp [hlq]] at e
          simp only [natsI, List.map_map, List.getElem?_map]; rw [List.getElem?_eq_getElem hlq, e]; rfl)
        clear hzb hto
        go_wp2
        refine wp_region_held_drew (S := (fun w' => w'.cell? ⟨rb, ro + j, none⟩ = some (.int .i64 (z : Int)) ∧ w'.cell? ⟨qh, i0, none⟩ = some (.int .i64 (x : Int)))) (by kernel_rfl) ?_ (fun hHeld => ?_)
        · first | exact ⟨‹_›, ‹_›⟩ | assumption | (simp [*, go_sem])
        have hd : Below wi.heap.size wi wi.drew := (Below.refl _ _).drew
        have hqd := hq.drew
        have hqud := hqu.below hd (Nat.le_refl _)
        have hrd := hr.below hd (Nat.le_refl _)
        have hbxd := (hd.cell (cell_lt hbx)).trans hbx
        have hszd : w.heap.size + 1 ≤ wi.drew.heap.size := cell_lt hbxd
        have cod := (hd.cell (cell_lt co)).trans co
        have cxd := (hd.cell (cell_lt cx)).trans cx
        generalize wi.drew = wd at hd hqd hqud hrd hbxd hszd cod cxd hHeld ⊢
        have hHeld2 := hHeld
        obtain ⟨cz, cm⟩ := hHeld2
        refine wpAnyH_take (i := 0) (v := ?v11) (by simp only [List.getElem?_toArray, List.getElem?_cons_zero]; exact rfl) (by kernel_rfl) (by kernel_rfl) (by kernel_rfl) (by intro _ _ _ h; exact h) (Or.inl ⟨by rfl, ?y11⟩) hHeld ?_
        case y11 => (intro w hSw; (try dsimp only at hSw); go_simp; try (with_reducible rfl))
        try simp only [Act.put, List.setIfInBounds_toArray, List.set_cons_zero, List.set_cons_succ]
        refine wpAnyH_take (i := 1) (v := ?v12) (by simp only [List.getElem?_toArray, List.getElem?_cons_succ, List.getElem?_cons_zero]; exact rfl) (by kernel_rfl) (by kernel_rfl) (by kernel_rfl) (by intro _ _ _ h; exact h) (Or.inl ⟨by rfl, ?y12⟩) hHeld ?_
        case y12 => (intro w hSw; (try dsimp only at hSw); go_simp; try (with_reducible rfl))
        try simp only [Act.put, List.setIfInBounds_toArray, List.set_cons_zero, List.set_cons_succ]
        refine wpAnyH_take (i := 2) (v := ?v13) (by simp only [List.getElem?_toArray, List.getElem?_cons_succ, List.getElem?_cons_zero]; exact rfl) (by kernel_rfl) (by kernel_rfl) (by kernel_rfl) (by intro _ _ _ h; exact h) (Or.inl ⟨by rfl, ?y13⟩) hHeld ?_
        case y13 => (intro w hSw; (try dsimp only at hSw); go_simp; try (with_reducible rfl))
        try simp only [Act.put, List.setIfInBounds_toArray, List.set_cons_zero, List.set_cons_succ]
        refine wpAnyH_take (i := 3) (v := ?v14) (by simp only [List.getElem?_toArray, List.getElem?_cons_succ, List.getElem?_cons_zero]; exact rfl) (by kernel_rfl) (by kernel_rfl) (by kernel_rfl) (by intro _ _ _ h; exact h) (Or.inl ⟨by rfl, ?y14⟩) hHeld ?_
        case y14 => (intro w hSw; (try dsimp only at hSw); go_simp; try (with_reducible rfl))
        try simp only [Act.put, List.setIfInBounds_toArray, List.set_cons_zero, List.set_cons_succ]
        refine wpAnyH_take (i := 4) (v := ?v15) (by simp only [List.getElem?_toArray, List.getElem?_cons_succ, List.getElem?_cons_zero]; exact rfl) (by kernel_rfl) (by kernel_rfl) (by kernel_rfl) (by intro _ _ _ h; exact h) (Or.inl ⟨by rfl, ?y15⟩) hHeld ?_
        case y15 => (intro w hSw; (try dsimp only at hSw); go_simp; try (with_reducible rfl))
        try simp only [Act.put, List.setIfInBounds_toArray, List.set_cons_zero, List.set_cons_succ]
        refine wpAnyH_take (i := 5) (v := ?v16) (by simp only [List.getElem?_toArray, List.getElem?_cons_succ, List.getElem?_cons_zero]; exact rfl) (by kernel_rfl) (by kernel_rfl) (by kernel_rfl) (by intro _ _ _ h; exact h) (Or.inl ⟨by rfl, ?y16⟩) hHeld ?_
        case y16 => (intro w hSw; (try dsimp only at hSw); go_simp; try (with_reducible rfl))
        try simp only [Act.put, List.setIfInBounds_toArray, List.set_cons_zero, List.set_cons_succ]
        refine wpAnyH_take (i := 6) (v := ?v17) (by simp only [List.getElem?_toArray, List.getElem?_cons_succ, List.getElem?_cons_zero]; exact rfl) (by kernel_rfl) (by kernel_rfl) (by kernel_rfl) (by intro _ _ _ h; exact h) (Or.inl ⟨by rfl, ?y17⟩) hHeld ?_
        case y17 => (intro w hSw; (try dsimp only at hSw); go_simp; try (with_reducible rfl))
        try simp only [Act.put, List.setIfInBounds_toArray, List.set_cons_zero, List.set_cons_succ]
        refine wpAnyH_take (i := 7) (v := ?v18) (by simp only [List.getElem?_toArray, List.getElem?_cons_succ, List.getElem?_cons_zero]; exact rfl) (by kernel_rfl) (by kernel_rfl) (by kernel_rfl) (by intro _ _ _ h; exact h) (Or.inl ⟨by rfl, ?y18⟩) hHeld ?_
        case y18 => (intro w hSw; (try dsimp only at hSw); go_simp; try (with_reducible rfl))
        try simp only [Act.put, List.setIfInBounds_toArray, List.set_cons_zero, List.set_cons_succ]
        refine wpAnyH_take (i := 8) (v := ?v19) (by simp only [List.getElem?_toArray, List.getElem?_cons_succ, List.getElem?_cons_zero]; exact rfl) (by kernel_rfl) (by kernel_rfl) (by kernel_rfl) (by intro _ _ _ h; exact h) (Or.inl ⟨by rfl, ?y19⟩) hHeld ?_
        case y19 => (intro w hSw; (try dsimp only at hSw); go_simp; try (with_reducible rfl))
        try simp only [Act.put, List.setIfInBounds_toArray, List.set_cons_zero, List.set_cons_succ]
        refine wpAnyH_take (i := 9) (v := ?v20) (by simp only [List.getElem?_toArray, List.getElem?_cons_succ, List.getElem?_cons_zero]; exact rfl) (by kernel_rfl) (by kernel_rfl) (by kernel_rfl) (by intro _ _ _ h; exact h) (Or.inl ⟨by rfl, ?y20⟩) hHeld ?_
        case y20 => (intro w hSw; (try dsimp only at hSw); go_simp; try (with_reducible rfl))
        try simp only [Act.put, List.setIfInBounds_toArray, List.set_cons_zero, List.set_cons_succ]
        refine wpAnyH_take (i := 10) (v := ?v21) (by simp only [List.getElem?_toArray, List.getElem?_cons_succ, List.getElem?_cons_zero]; exact rfl) (by kernel_rfl) (by kernel_rfl) (by kernel_rfl) (by intro _ _ _ h; exact h) (Or.inl ⟨by rfl, ?y21⟩) hHeld ?_
        case y21 => (intro w hSw; (try dsimp only at hSw); go_simp; try (with_reducible rfl))
        try simp only [Act.put, List.setIfInBounds_toArray, List.set_cons_zero, List.set_cons_succ]
        refine wpAnyH_take (i := 11) (v := ?v22) (by simp only [List.getElem?_toArray, List.getElem?_cons_succ, List.getElem?_cons_zero]; exact rfl) (by kernel_rfl) (by kernel_rfl) (by kernel_rfl) (by intro _ _ _ h; exact h) (Or.inl ⟨by rfl, ?y22⟩) hHeld ?_
        case y22 => (intro w hSw; (try dsimp only at hSw); go_simp; try (with_reducible rfl))
        try simp only [Act.put, List.setIfInBounds_toArray, List.set_cons_zero, List.set_cons_succ]
        refine wpAnyH_take (i := 12) (v := ?v23) (by simp only [List.getElem?_toArray, List.getElem?_cons_succ, List.getElem?_cons_zero]; exact rfl) (by kernel_rfl) (by kernel_rfl) (by kernel_rfl) (by intro _ _ _ h; exact h) (Or.inl ⟨by rfl, ?y23⟩) hHeld ?_
        case y23 => (intro w hSw; (try dsimp only at hSw); go_simp; try (with_reducible rfl))
        try simp only [Act.put, List.setIfInBounds_toArray, List.set_cons_zero, List.set_cons_succ]
        refine wpAnyH_done (by kernel_rfl) ?_ _

        clear hq hqu hr hbx hcz hmc co fo cx hd htoI
        obtain ⟨cod, fod⟩ := hrd to hton
        unfold tabV at cod
        by_cases hneg : D2 to < 0
        · have hnb : nbO (netsL g) (P.getD i0 0) to := by rw [HPN.out.1, HTO.out]; exact tw_nb HZ.out
          have HADD := Lib.hid (show (P ++ [to]).getD i0 0 = x ∧ BQ (nbO (netsL g)) (2 * g.length) (2 * s) (fun y => if to = y then D2 x + 1 else D2 y) (P ++ [to]) i0 (TwT x (R.take (j + 1))) ∧ ∀ y, (if to = y then D2 x + 1 else D2 y) < (P ++ [to]).length from ⟨by rw [getD_left hlq]; exact HPN.out.1, by
              have h := HPN.out.2.1.add (D' := fun y => if to = y then D2 x + 1 else D2 y) hlq hton hneg hnb (fun z => by rw [HPN.out.1])
              rw [HTK.out, ← twT_snoc, ← HTO.out]; exact h, fun y => by
              have h1 := HPN.out.2.2 y
              have h2 := hxs.2
              rw [List.length_append, List.length_singleton]
              split <;> omega⟩)
          have hPl : P.length + 1 ≤ 2 * g.length := by have h := HADD.out.2.1.len; rw [List.length_append, List.length_singleton] at h; exact h
          have hr2 : Row (wd.setCell ⟨ob, to, none⟩ (.int .i64 (D2 x + 1))) ob (2 * g.length) (tabV (fun y => if to = y then D2 x + 1 else D2 y)) := tab_set hrd hton
          have hqu2 := hqud.keep (w' := wd.setCell ⟨ob, to, none⟩ (.int .i64 (D2 x + 1))) (fun k hk => Below.heap_setCell _ _ _ _ (by
            have := hap ob rfl
            intro e; subst e; exact this hk))
          have hq2 := hqd.setCell (p := ⟨ob, to, none⟩) (by have := HOB.out; simp; omega) (.int .i64 (D2 x + 1))
          have hbx2 : (wd.setCell ⟨ob, to, none⟩ (.int .i64 (D2 x + 1))).cell? ⟨w.heap.size, 0, none⟩ = some (.slice (some ⟨b, off, none⟩) g.length cap) := (World.cell?_of_block (a := ⟨w.heap.size, 0, none⟩) (Below.heap_setCell _ _ _ _ (by have := HOB.out; simp; omega))).trans hbxd
          have hap0 := hap
          clear HPN hnb hHeld cz
          go_wp2_with (at_builtin; refine wpList_append1b elI64 rfl _ _ rfl hqu2 rfl (by first | rfl | simp) rfl rfl (by omega) (by simpa using hszd) ?_; intro q' w5 hqu5 hkept hmv)
          have hq5 := hkept.below hq2 hq2.size (fun c h => by have := (hqu2.lt c h).1; omega)
          have hbx5 : w5.cell? ⟨w.heap.size, 0, none⟩ = some (.slice (some ⟨b, off, none⟩) g.length cap) := (World.cell?_of_block (a := ⟨w.heap.size, 0, none⟩) (hkept.2.2.2.2 w.heap.size (cell_lt hbx2) (fun e => by have := (hqu2.lt _ e.symm).1; omega))).trans hbx2
          have hr5 := hr2.keep (w' := w5) (hkept.2.2.2.2 ob (hr2.lt (by omega)) (fun e => hap0 ob rfl e.symm))
          have hap5 : Apart (.slice (some ⟨ob, 0, none⟩) (2 * g.length) oc) q' := fun c h1 h2 => by
            rcases hmv with h | h
            · rw [h] at h2; exact hap0 c h1 h2
            · rw [h] at h2
              have h3 := hr2.lt (by omega)
              simp [Value.ownBlock] at h1 h2; simp at h3; omega
          have hqu6 : Own w5 (w.heap.size + 1) 2 1 q' (P ++ [to]).length ((natsI (P ++ [to])).map (.int .i64)) := by
            rw [List.length_append]
            simpa [natsI] using hqu5
          go_roundw
          case rel => exact ⟨_, P ++ [to], j + 1, by go_num, by omega, by rw [List.length_append]; omega, by rw [List.length_append, List.length_singleton]; exact hPl, HADD, hqu6, hap5, hr5, hq5, hbx5⟩
          case measure => simp [intOf]; omega
        · have HSK := Lib.hid (show P.getD i0 0 = x ∧ BQ (nbO (netsL g)) (2 * g.length) (2 * s) D2 P i0 (TwT x (R.take (j + 1))) ∧ ∀ y, D2 y < P.length from ⟨HPN.out.1, by
              have h := HPN.out.2.1.skip hton (by omega)
              rw [HTK.out, ← twT_snoc, ← HTO.out]; exact h, HPN.out.2.2⟩)
          clear HPN hHeld cz
          go_wp2
          go_roundw
          case rel => exact ⟨D2, P, j + 1, by go_num, by omega, hlq, hP32, HSK, hqud, hap, hrd, hqd, hbxd⟩
          case measure => simp [intOf]; omega
set_option maxRecDepth 100000 in
set_option maxHeartbeats 8000000 in
theorem l3Odd_any {S : Nat → Prop} {v : Value} {g : List (List Int)} {s : Nat} {w : World} (hg : GOk g) (hv : SlR S w v g) (hs : s < g.length) :
    Calls Tryd.prog 90 #[.agg #[v], .int .i64 (s : Int)] w fun e w' => ∃ u D, e = .returned u ∧ Own w' w.heap.size 2 1 u (oddW (netsL g) D (D (2 * s + 1)).toNat s).length ((natsI (oddW (netsL g) D (D (2 * s + 1)).toNat s)).map (.int .i64)) ∧ IsD (nbO (netsL g)) (2 * g.length) (2 * s) D ∧ (∀ y, D y ≤ 32) ∧ Below w.heap.size w w' := by
  have h16 := hg.hi
  have HG := Lib.hid hg
  have htw := fun (W : World) (hb : Below w.heap.size w W) => l3Twice_any hg (hv.below hb (Nat.le_refl _)) hs
  obtain ⟨a, b, off, cap, fr, rfl, hl, ha, hc0⟩ := hv
  obtain ⟨rfl, -⟩ := ha (by omega)
  have hq0 : Below w.heap.size w (w.alloc (.cells #[.slice (some ⟨b, off, none⟩) g.length cap] 29)) := (Below.refl _ _).alloc (Nat.le_refl _) _
  go_enter Tryd.func90, Tryd.ntmps90
  go_wp2_with fail
  refine (htw _ hq0).mono ?_
  rintro e w1 ⟨ob, oc, D, rfl, hob, hr, hD, h32, hb1⟩
  have hq1 := hq0.trans (hb1.mono hq0.size)
  have hbx1 : w1.cell? ⟨w.heap.size, 0, none⟩ = some (.slice (some ⟨b, off, none⟩) g.length cap) := (hb1.cell (p := ⟨w.heap.size, 0, none⟩) (by simp)).trans (by simp [go_sem])
  have hsz1 : w.heap.size + 1 ≤ w1.heap.size := cell_lt hbx1
  have HOB := Lib.hid (show w.heap.size + 1 ≤ ob by simpa using hob)
  have HD := Lib.hid hD
  have H32 := Lib.hid h32
  obtain ⟨c1, -⟩ := hr (2 * s + 1) (by omega)
  unfold tabV at c1
  have hba1 : Below w1.heap.size w1 (w1.alloc (.cells #[] 2)) := (Below.refl _ _).alloc (Nat.le_refl _) _
  have ho0 : Own (w1.alloc (.cells #[] 2)) (w.heap.size + 1) 2 1 (.slice (some ⟨w1.heap.size, 0, none⟩) 0 0) 0 [] := by
    have := World.ownsRow_lit (base := w.heap.size + 1) (e := 2) (size := 1) w1 #[] 0 hsz1 (by unfold maxLen; omega) rfl
    simpa [Own] using this
  have hq2 := hq1.trans (hba1.mono hq1.size)
  have hbx2 := (hba1.cell (cell_lt hbx1)).trans hbx1
  have hr2 := hr.below hba1 (Nat.le_refl _)
  have hapo : Apart (.slice (some ⟨ob, 0, none⟩) (2 * g.length) oc) (.slice (some ⟨w1.heap.size, 0, none⟩) 0 0) := apart_lit (by have := hr.lt (show 0 < 2 * g.length by omega); omega)
  have h1le := h32 (2 * s + 1)
  clear hq0 hb1 hq1 hob hD h32 htw hba1
  obtain ⟨L, hL⟩ : ∃ L, L = D (2 * s + 1) := ⟨_, rfl⟩
  rw [← hL] at c1 h1le
  have HL := Lib.hid hL
  clear hL
  go_wp2
  clear c1 hr hbx1
  go_loopw [6, 7, 8] (fun l o vv wr => ∃ (lf : Int) (p : List Nat) (u : Nat), l = .int .i64 lf ∧ lf ≤ 32 ∧ vv = .int .i64 (u : Int) ∧ u < g.length ∧ p.length ≤ 32 ∧ RowKit.Hid (p ++ oddW (netsL g) D lf.toNat u = oddW (netsL g) D L.toNat s ∧ p.length + lf.toNat = L.toNat) ∧ Own wr (w.heap.size + 1) 2 1 o p.length ((natsI p).map (.int .i64)) ∧ Apart (.slice (some ⟨ob, 0, none⟩) (2 * g.length) oc) o ∧ Row wr ob (2 * g.length) (tabV D) ∧ Below w.heap.size w wr ∧ wr.cell? ⟨w.heap.size, 0, none⟩ = some (.slice (some ⟨b, off, none⟩) g.length cap)) (fun l _ _ _ => (intOf l).toNat)
  case atStart => exact ⟨L, [], s, rfl, h1le, rfl, hs, by simp, Lib.hid ⟨by simp, by simp⟩, ho0, hapo, hr2, hq2, hbx2⟩
  case round =>
    clear ho0 hapo hr2 hq2 hbx2
    obtain ⟨wo, rfl⟩ : ∃ wx : World, wx = wr := ⟨_, rfl⟩
    obtain ⟨lf, p, u, rfl, hlf, rfl, hu, hp, HP, ho, hap, hr, hq, hbx⟩ := hrel
    have hB2 : w.heap.size + 1 ≤ wo.heap.size := cell_lt hbx
    by_cases hpos : 0 < lf
    case neg =>
      have HE := Lib.hid (show p = oddW (netsL g) D (D (2 * s + 1)).toNat s by
        have h := HP.out.1
        rw [show lf.toNat = 0 by omega] at h
        rw [← HL.out, ← h]; simp [oddW])
      go_wp2
      go_ret
      exact ⟨_, rfl, D, by rw [← HE.out]; exact ho.weak (by omega), HD.out, H32.out, hq⟩
    obtain ⟨k, hk⟩ : ∃ k : Nat, lf = ((k + 1 : Nat) : Int) := ⟨(lf - 1).toNat, by omega⟩
    subst hk
    have hR : ∃ R : List Nat, g[u] = natsI R ∧ R = bitsN ((netsL g).getD u 0) ∧ (∀ x ∈ R, x < g.length) ∧ R.length ≤ 32 := by
      have h32 := HG.out.ge32 hu
      have hgy : (netsL g).getD u 0 = maskL g[u] := netsL_get hu
      refine ⟨bitsN ((netsL g).getD u 0), ?_, rfl, fun x hx => ?_, bitsN_len _⟩
      · rw [hgy, ← bits_natsI3, bitsI_maskL (rise_sorted (HG.out.rise u hu)) h32]
      · rw [hgy] at hx
        exact bit_lt_of (maskL_lt fun z hz => HG.out.ge hu z hz) ((mem_bitsN (maskL_lt32 h32)).1 hx)
    obtain ⟨R, hgR, hRe, hRn, hR32⟩ := hR
    have HST := Lib.hid (show stepO (netsL g) D k u = (R.find? fun x => decide (D (2 * x + k % 2) = (k : Int))).getD u by rw [hRe]; rfl)
    obtain ⟨hcell2, hrow⟩ := hc0 u hu
    rw [hgR] at hrow
    obtain ⟨ra, rb, ro, rc, hre, hrl, hra, hrc⟩ := hrow
    rw [hre] at hcell2
    rw [natsI_len] at hcell2 hrl hra
    have hpl : p.length < 32 := by have := HP.out.2; have := h1le; omega
    clear hRe hgR hre
    go_wp2_with (at_builtin; refine wpList_append1b elI64 rfl _ _ rfl ho rfl rfl rfl rfl (by omega) hB2 ?_; intro o' w3 ho3 hkept hmv)
    have hq3 := hkept.below hq hq.size (fun c h => by have := (ho.lt c h).1; omega)
    have hbx3 : w3.cell? ⟨w.heap.size, 0, none⟩ = some (.slice (some ⟨b, off, none⟩) g.length cap) := (World.cell?_of_block (a := ⟨w.heap.size, 0, none⟩) (hkept.2.2.2.2 w.heap.size (cell_lt hbx) (fun e => by have := (ho.lt _ e.symm).1; omega))).trans hbx
    have hr3 := hr.keep (w' := w3) (hkept.2.2.2.2 ob (hr.lt (by omega)) (fun e => hap ob rfl e.symm))
    have hap3 : Apart (.slice (some ⟨ob, 0, none⟩) (2 * g.length) oc) o' := fun c h1 h2 => by
      rcases hmv with h | h
      · rw [h] at h2; exact hap c h1 h2
      · rw [h] at h2
        have h3 := hr.lt (by omega)
        simp [Value.ownBlock] at h1 h2; omega
    have ho4 : Own w3 (w.heap.size + 1) 2 1 o' (p ++ [u]).length ((natsI (p ++ [u])).map (.int .i64)) := by
      rw [List.length_append]
      simpa [natsI] using ho3
    have hcx := (hq3.cell (p := ⟨b, off + u, none⟩) (cell_lt hcell2)).trans hcell2
    have HNX := Lib.hid (fun y (hy : stepO (netsL g) D k u = y) => show (p ++ [u]) ++ oddW (netsL g) D (k : Int).toNat y = oddW (netsL g) D L.toNat s ∧ (p ++ [u]).length + (k : Int).toNat = L.toNat from ⟨by
      have h := HP.out.1
      rw [Int.toNat_natCast, oddW, hy] at h
      rw [Int.toNat_natCast, List.append_assoc]; exact h, by have h := HP.out.2; rw [Int.toNat_natCast] at h ⊢; rw [List.length_append, List.length_singleton]; omega⟩)
    have hkk : ((k + 1 : Nat) : Int) - 1 = (k : Int) := by omega
    clear HP ho hap hr hq hbx hkept hmv ho3 hcell2
    go_wp2
    go_loopw [8, 9] (fun vv i wr => ∃ j : Nat, j ≤ R.length ∧ vv = .int .i64 (u : Int) ∧ i = .int .i64 j ∧ RowKit.Hid (∀ x ∈ R.take j, ¬ D (2 * x + k % 2) = (k : Int)) ∧ wr = w3) (fun _ i _ => R.length - (intOf i).toNat)
    case atStart => exact ⟨0, Nat.zero_le _, rfl, rfl, Lib.hid (by simp), rfl⟩
    case round =>
      obtain ⟨j, hj, rfl, rfl, HN, rfl⟩ := hrel
      by_cases hjl : j < R.length
      case neg =>
        obtain rfl : j = R.length := by omega
        have HNO := Lib.hid (HNX.out u (by
          rw [HST.out, List.find?_eq_none.2 (fun x hx => by have := HN.out x (by rw [List.take_length]; exact hx); simpa using this)]; rfl))
        go_wp2
        go_roundw
        case rel => exact ⟨(k : Int), p ++ [u], u, by go_num, by omega, rfl, hu, by simp; omega, HNO, ho4, hap3, hr3, hq3, hbx3⟩
        case measure => (simp [intOf]; try omega)
      have hcr := hrc j (by rw [natsI_len]; exact hjl)
      rw [natsI_get] at hcr
      obtain ⟨rfl, -⟩ := hra (by omega)
      have hzn := hRn R[j] (List.getElem_mem hjl)
      have hcz := (hq3.cell (p := ⟨rb, ro + j, none⟩) (cell_lt hcr)).trans hcr
      have HTK := Lib.hid (show R.take (j + 1) = R.take j ++ [R[j]] from List.take_succ_eq_append_getElem hjl)
      have HFD := Lib.hid (fun (hd : D (2 * R[j] + k % 2) = (k : Int)) => show stepO (netsL g) D k u = R[j] by
        rw [HST.out, List.find?_eq_some_iff_getElem.2 ⟨by simpa using hd, j, hjl, rfl, fun i hi => by
          have := HN.out R[i] (List.mem_take_iff_getElem.2 ⟨i, by omega, rfl⟩)
          simpa using this⟩]; rfl)
      generalize R[j] = z at *
      obtain ⟨co, -⟩ := hr3 (2 * z + k % 2) (by omega)
      unfold tabV at co
      obtain ⟨km, hkm⟩ : ∃ m, m = k % 2 := ⟨_, rfl⟩
      have hwm : IntKind.i64.wrap ((k : Int) % 2) = (km : Int) := by rw [IntWalk.i64_in _ (by omega)]; omega
      have hkm1 : km ≤ 1 := by omega
      by_cases hd : D (2 * z + k % 2) = (k : Int)
      · have HNO := Lib.hid (HNX.out z (HFD.out hd))
        go_wp2
        go_roundw
        case rel => exact ⟨(k : Int), p ++ [u], z, by go_num, by omega, rfl, hzn, by simp; omega, HNO, ho4, hap3, hr3, hq3, hbx3⟩
        case measure => (simp [intOf]; try omega)
      · have HN2 := Lib.hid (show ∀ x ∈ R.take (j + 1), ¬ D (2 * x + k % 2) = (k : Int) from fun x hx => by
          rw [HTK.out, List.mem_append, List.mem_singleton] at hx
          rcases hx with hx | rfl
          · exact HN.out x hx
          · exact hd)
        go_wp2
        go_roundw
        case rel => exact ⟨j + 1, by omega, rfl, by go_num, HN2, by first | rfl | trivial⟩
        case measure => (simp [intOf]; try omega)
theorem SlI.emptyO (S : Nat → Prop) (w : World) (k : IntKind) (a : Option Addr) : SlI S w k (.slice a 0 0) [] := ⟨a, 0, 0, 0, rfl, by simp, fun h => by simp at h, fun i hi => by simp at hi⟩
/-- The least odd loop. -/
noncomputable def oddF (g : List (List Int)) : List Nat := if gokB g = true then pickG (OddN (netsL g) g.length) else []
theorem irrO {g : List (List Int)} (hg : GOk g) {x : Nat} (hx : x < g.length) : ((netsL g).getD x 0).testBit x = false := by
  rw [nets_bit2 hg hx]
  exact decide_eq_false fun h => (hg.symD hx h).2.2 rfl
theorem oi_of {g : List (List Int)} (hg : GOk g) {s : Nat} {D : Nat → Int} (hs : s < g.length) (hD : IsD (nbO (netsL g)) (2 * g.length) (2 * s) D) : OI (netsL g) g.length s D :=
  ⟨fun u => nat_getD (netsL_lt hg) u, fun x y hx h => by rw [nets_bit2 hg hx, decide_eq_true_eq] at h; exact (hg.symD hx h).1, fun x y hx hy h => by
    rw [nets_bit2 hg hx, decide_eq_true_eq] at h
    rw [nets_bit2 hg hy, decide_eq_true_eq]; exact (hg.symD hx h).2.1, hs, hD⟩
def BestO (H : List Nat) (n k : Nat) (best : List Nat) : Prop := (best = [] ∨ CW H n best) ∧ ∀ q, CW H n q → q.getD 0 0 < k → best ≠ [] ∧ leN best q
theorem cw_pos {H : List Nat} {n : Nat} {q : List Nat} (h : CW H n q) : 0 < q.length := by have := h.odd; omega
theorem BestO.end_ {H : List Nat} {n : Nat} {best : List Nat} (h : BestO H n n best) (hir : ∀ x, x < n → (H.getD x 0).testBit x = false) : best = pickG (OddN H n) := by
  rcases h.1 with h1 | h1
  · rw [h1, pick_none]
    intro q hq
    exact (h.2 q hq.cw (hq.cw.lt 0 (cw_pos hq.cw))).1 h1
  · rw [pick_some (cw_least hir ⟨h1, fun q hq => (h.2 q hq (hq.lt 0 (cw_pos hq))).2⟩)]
theorem BestO.skip {H : List Nat} {n k : Nat} {D : Nat → Int} {best : List Nat} (h : BestO H n k best) (hO : OI H n k D) (h0 : oddW H D (D (2 * k + 1)).toNat k = []) : BestO H n (k + 1) best :=
  ⟨h.1, fun q hq hv => by
    by_cases e : q.getD 0 0 = k
    · obtain ⟨L, h1, h2, -⟩ := odd_from hO hq e
      have := congrArg List.length h0
      rw [odd_len, h1, Int.toNat_natCast] at this
      simp at this; omega
    · exact h.2 q hq (by omega)⟩
theorem BestO.take {H : List Nat} {n k : Nat} {D : Nat → Int} {best : List Nat} (h : BestO H n k best) (hO : OI H n k D) (h0 : oddW H D (D (2 * k + 1)).toNat k ≠ []) :
    BestO H n (k + 1) (if best = [] ∨ lessN (oddW H D (D (2 * k + 1)).toNat k) best = true then oddW H D (D (2 * k + 1)).toNat k else best) := by
  have hL : 0 < (D (2 * k + 1)).toNat := by
    apply Classical.byContradiction
    intro hc
    exact h0 (by rw [show (D (2 * k + 1)).toNat = 0 by omega]; rfl)
  have hcw := (odd_cw (L := (D (2 * k + 1)).toNat) hO (by omega) hL).1
  have hle : ∀ q, CW H n q → q.getD 0 0 = k → leN (oddW H D (D (2 * k + 1)).toNat k) q := fun q hq e => by
    obtain ⟨L, h1, -, h3⟩ := odd_from hO hq e
    rw [h1, Int.toNat_natCast]; exact h3
  generalize oddW H D (D (2 * k + 1)).toNat k = l at *
  by_cases hb : best = [] ∨ lessN l best = true
  · rw [if_pos hb]
    refine ⟨.inr hcw, fun q hq hv => ⟨h0, ?_⟩⟩
    by_cases e : q.getD 0 0 = k
    · exact hle q hq e
    · have h2 := h.2 q hq (by omega)
      rcases hb with hb | hb
      · exact absurd hb h2.1
      · exact leN_trans (less_yes hb) h2.2
  · rw [if_neg hb]
    have h1 : best ≠ [] := fun e => hb (.inl e)
    have h2 : lessN l best = false := by
      cases hx : lessN l best
      · rfl
      · exact absurd (.inr hx) hb
    refine ⟨h.1, fun q hq hv => ⟨h1, ?_⟩⟩
    by_cases e : q.getD 0 0 = k
    · exact leN_trans (less_no h2) (hle q hq e)
    · exact (h.2 q hq (by omega)).2
set_option maxRecDepth 100000 in
set_option maxHeartbeats 8000000 in
theorem specOddLoop_any {S : Nat → Prop} {v : Value} {g : List (List Int)} {w : World} (hv : SlR S w v g) :
    Calls Tryd.prog 26 #[.agg #[v]] w fun e w' => ∃ u, e = .returned u ∧ SlI (fun b => b < w'.heap.size) w' .i64 u (natsI (oddF g)) ∧ Below w.heap.size w w' := by
  have hv0 := hv
  obtain ⟨a, c, rfl⟩ := hv.slice
  have hb0 : Below w.heap.size w ((w.alloc (.cells #[.slice a g.length c] 29)).alloc (.cells #[] 2)) := ((Below.refl _ _).alloc (Nat.le_refl _) _).alloc (by simp) _
  have c0 : ((w.alloc (.cells #[.slice a g.length c] 29)).alloc (.cells #[] 2)).cell? ⟨w.heap.size, 0, none⟩ = some (.slice a g.length c) := by simp [go_sem]
  have hsize := fun (W : World) (hb : Below w.heap.size w W) => l1Size_any (hv0.below hb (Nat.le_refl _))
  have hgo := fun (W : World) (hb : Below w.heap.size w W) => specGraphOk_any _ _ _ (hv0.below hb (Nat.le_refl _))
  by_cases hgb : gokB g = true
  case neg =>
    have HE := Lib.hid (show oddF g = [] by rw [oddF, if_neg hgb])
    rw [Bool.not_eq_true] at hgb
    rw [hgb] at hgo
    clear hgb
    rw [HE.out]
    go_enter Tryd.func26, Tryd.ntmps26
    go_wp2
    go_loopw [3, 4] (fun bv sv wr => bv = .slice (some ⟨w.heap.size + 1, 0, none⟩) 0 0 ∧ sv = .int .i64 0 ∧ Below w.heap.size w wr ∧ wr.cell? ⟨w.heap.size, 0, none⟩ = some (.slice a g.length c)) (fun _ _ _ => 0)
    case atStart => exact ⟨rfl, rfl, hb0, c0⟩
    case round =>
      clear hb0 c0
      obtain ⟨rfl, rfl, hq, cg⟩ := hrel
      by_cases h0 : 0 < g.length
      · have hd : decide ((0 : Int) < (g.length : Int)) = true := by simp; omega
        go_wp2_with fail
        refine (hsize _ hq).mono ?_
        rintro e w5 ⟨rfl, hb5⟩
        have hq5 := hq.trans (hb5.mono hq.size)
        have cg5 := (hb5.cell (cell_lt cg)).trans cg
        go_wp2_with fail
        refine (hgo _ hq5).mono ?_
        rintro e w6 ⟨rfl, hb6⟩
        go_wp2
        go_ret
        exact ⟨_, rfl, SlI.emptyO _ _ _ _, hq5.trans (hb6.mono hq5.size)⟩
      · have hd : decide ((0 : Int) < (g.length : Int)) = false := decide_eq_false (by omega)
        go_wp2_with fail
        refine (hsize _ hq).mono ?_
        rintro e w5 ⟨rfl, hb5⟩
        go_wp2
        go_ret
        exact ⟨_, rfl, SlI.emptyO _ _ _ _, hq.trans (hb5.mono hq.size)⟩
  have hg := gokB_iff.1 hgb
  have h16 := hg.hi
  have HE := Lib.hid (show oddF g = pickG (OddN (netsL g) g.length) by rw [oddF, if_pos hgb])
  rw [hgb] at hgo
  have HG := Lib.hid hg
  clear hgb
  rw [HE.out]
  have hodd := fun (W : World) (hb : Below w.heap.size w W) (k : Nat) (hk : k < g.length) => l3Odd_any HG.out (hv0.below hb (Nat.le_refl _)) hk
  have H0 := Lib.hid (show BestO (netsL g) g.length 0 [] from ⟨.inl rfl, fun q _ h => absurd h (Nat.not_lt_zero _)⟩)
  clear hg
  go_enter Tryd.func26, Tryd.ntmps26
  go_wp2
  go_loopw [3, 4] (fun bv sv wr => ∃ (k : Nat) (best : List Nat), k ≤ g.length ∧ sv = .int .i64 k ∧ SlI (fun _ => True) wr .i64 bv (natsI best) ∧ RowKit.Hid (BestO (netsL g) g.length k best) ∧ Below w.heap.size w wr ∧ wr.cell? ⟨w.heap.size, 0, none⟩ = some (.slice a g.length c)) (fun _ sv _ => g.length - (RowKit.intOf sv).toNat)
  case atStart => exact ⟨0, [], Nat.zero_le _, rfl, SlI.emptyO _ _ _ _, H0, hb0, c0⟩
  case round =>
    clear H0 hb0 c0
    obtain ⟨k, best, hk, rfl, hbest, HB, hq, cg⟩ := hrel
    obtain ⟨ba, bc, rfl⟩ := hbest.slice
    simp only [natsI_len] at hbest ⊢
    by_cases hlt : k < g.length
    case neg =>
      obtain rfl : k = g.length := by omega
      have HF := Lib.hid (HB.out.end_ (fun x hx => irrO HG.out hx))
      go_wp2_with fail
      refine (hsize _ hq).mono ?_
      rintro e w5 ⟨rfl, hb5⟩
      go_wp2
      go_ret
      rw [← HF.out]
      exact ⟨_, rfl, (hbest.below hb5 (Nat.le_refl _)).lowS, hq.trans (hb5.mono hq.size)⟩
    go_wp2_with fail
    refine (hsize _ hq).mono ?_
    rintro e w5 ⟨rfl, hb5⟩
    have hq5 := hq.trans (hb5.mono hq.size)
    have cg5 := (hb5.cell (cell_lt cg)).trans cg
    have hbest5 := hbest.below hb5 (Nat.le_refl _)
    go_wp2_with fail
    refine (hgo _ hq5).mono ?_
    rintro e w6 ⟨rfl, hb6⟩
    have hq6 := hq5.trans (hb6.mono hq5.size)
    have cg6 := (hb6.cell (cell_lt cg5)).trans cg5
    have hbest6 := hbest5.below hb6 (Nat.le_refl _)
    clear hbest hbest5 hq hq5 cg cg5 hb5 hb6
    go_wp2_with fail
    refine (hodd _ hq6 k hlt).mono ?_
    rintro e w7 ⟨u, D, rfl, hu, hD, h32, hb7⟩
    have hq7 := hq6.trans (hb7.mono hq6.size)
    have cg7 := (hb7.cell (cell_lt cg6)).trans cg6
    have hbest7 := hbest6.below hb7 (Nat.le_refl _)
    have hO := oi_of HG.out hlt hD
    have hll : (oddW (netsL g) D (D (2 * k + 1)).toNat k).length ≤ 32 := by rw [odd_len]; have := h32 (2 * k + 1); omega
    have hT := fun h => BestO.take HB.out hO h
    have hS := fun h => BestO.skip HB.out hO h
    generalize oddW (netsL g) D (D (2 * k + 1)).toNat k = l at *
    have hli : SlI (fun _ => True) w7 .i64 u (natsI l) := (Own.ints (xs := natsI l) hu (by omega)).weak (fun _ _ => trivial)
    obtain ⟨la, lc, rfl⟩ := hu.isSlice
    clear hbest6 hq6 cg6 hb7 hu hD h32 hO HB
    by_cases hl0 : l = []
    · subst hl0
      have HN := Lib.hid (hS rfl)
      clear hT hS
      go_wp2
      go_roundw
      case rel => exact ⟨k + 1, best, by omega, by go_num, hbest7, HN, hq7, cg7⟩
      case measure => simp [RowKit.intOf]; omega
    have HNEW := Lib.hid (hT hl0)
    have hlp : 0 < l.length := List.length_pos_iff.2 hl0
    have hls := l1Less_any hli hbest7
    clear hT hS hl0
    by_cases hb0 : best = []
    · subst hb0
      have HN3 : RowKit.Hid (BestO (netsL g) g.length (k + 1) l) := Lib.hid (by have := HNEW.out; rwa [if_pos (.inl rfl)] at this)
      clear hls HNEW
      go_wp2
      go_roundw
      case rel => exact ⟨k + 1, l, by omega, by go_num, hli, HN3, hq7, cg7⟩
      case measure => simp [RowKit.intOf]; omega
    have hbl0 : 0 < best.length := List.length_pos_iff.2 hb0
    have hbl1 : ((best.length : Int) == 0) = false := by
      rw [beq_eq_false_iff_ne]; omega
    have hbl2 : (best.length == 0) = false := by
      rw [beq_eq_false_iff_ne]; omega
    have HB0 := Lib.hid hb0
    clear hb0 hbl0
    cases hlb : lessN l best with
    | true =>
      have HN3 : RowKit.Hid (BestO (netsL g) g.length (k + 1) l) := Lib.hid (by have := HNEW.out; rwa [if_pos (.inr hlb)] at this)
      rw [hlb] at hls
      clear HNEW hlb
      go_wp2_with fail
      refine hls.mono ?_
      rintro e wc ⟨rfl, hd⟩
      clear hls
      have hlc := hli.drawn hd
      have hqd := hq7.trans (hd.below _)
      have cgd := (hd.cell _).trans cg7
      go_wp2_with fail
      go_roundw
      case rel => exact ⟨k + 1, l, by omega, by go_num, hlc, HN3, hqd, cgd⟩
      case measure => simp [RowKit.intOf]; omega
    | false =>
      have HN3 : RowKit.Hid (BestO (netsL g) g.length (k + 1) best) := Lib.hid (by
        have := HNEW.out
        rwa [if_neg (fun h => by
          rcases h with h | h
          · exact HB0.out h
          · rw [hlb] at h; cases h)] at this)
      rw [hlb] at hls
      clear HNEW hlb
      go_wp2_with fail
      refine hls.mono ?_
      rintro e wc ⟨rfl, hd⟩
      clear hls
      have hbd := hbest7.drawn hd
      have hqd := hq7.trans (hd.below _)
      have cgd := (hd.cell _).trans cg7
      go_wp2_with fail
      go_roundw
      case rel => exact ⟨k + 1, best, by omega, by go_num, hbd, HN3, hqd, cgd⟩
      case measure => simp [RowKit.intOf]; omega
end Go.Proofs.YthpbeiihlembnaaDoor
