/- FourPath of the reference and of the program; the law. -/
import Derived.Test.YtplohdnakllbiaaDoorFourM
import Derived.Test.YtplohdnakllbiaaDoorJoin
import Derived.Test.YtplohdnakllbiaaDoorLawEmb
namespace Go.Proofs.YtplohdnakllbiaaDoor
open Go.RowKit
theorem lit2f (S : Nat → Prop) (w : World) (E : TypeId) (a b : Nat) (hS : S w.heap.size) : SlI S (w.alloc (.cells #[.int .i64 (a : Int), .int .i64 (b : Int)] E)) .i64 (.slice (some ⟨w.heap.size, 0, none⟩) 2 2) (natsI [a, b]) := by
  refine ⟨some ⟨w.heap.size, 0, none⟩, w.heap.size, 0, 2, rfl, by simp [natsI], fun _ => ⟨rfl, hS⟩, fun i hi => ?_⟩
  match i, hi with
  | 0, _ => simp [natsI, go_sem]
  | 1, _ => simp [natsI, go_sem]
  | _ + 2, h => simp [natsI] at h; omega
theorem lit3 (S : Nat → Prop) (w : World) (E : TypeId) (a b c : Nat) (hS : S w.heap.size) : SlI S (w.alloc (.cells #[.int .i64 (a : Int), .int .i64 (b : Int), .int .i64 (c : Int)] E)) .i64 (.slice (some ⟨w.heap.size, 0, none⟩) 3 3) (natsI [a, b, c]) := by
  refine ⟨some ⟨w.heap.size, 0, none⟩, w.heap.size, 0, 3, rfl, by simp [natsI], fun _ => ⟨rfl, hS⟩, fun i hi => ?_⟩
  match i, hi with
  | 0, _ => simp [natsI, go_sem]
  | 1, _ => simp [natsI, go_sem]
  | 2, _ => simp [natsI, go_sem]
  | _ + 3, h => simp [natsI] at h; omega
theorem lit4 (S : Nat → Prop) (w : World) (E : TypeId) (a b c d : Nat) (hS : S w.heap.size) : SlI S (w.alloc (.cells #[.int .i64 (a : Int), .int .i64 (b : Int), .int .i64 (c : Int), .int .i64 (d : Int)] E)) .i64 (.slice (some ⟨w.heap.size, 0, none⟩) 4 4) (natsI [a, b, c, d]) := by
  refine ⟨some ⟨w.heap.size, 0, none⟩, w.heap.size, 0, 4, rfl, by simp [natsI], fun _ => ⟨rfl, hS⟩, fun i hi => ?_⟩
  match i, hi with
  | 0, _ => simp [natsI, go_sem]
  | 1, _ => simp [natsI, go_sem]
  | 2, _ => simp [natsI, go_sem]
  | 3, _ => simp [natsI, go_sem]
  | _ + 4, h => simp [natsI] at h; omega
set_option maxHeartbeats 4000000 in
theorem implFourPath_any {S : Nat → Prop} {v : Value} {g : List (List Int)} {w : World} (hv : SlR S w v g) :
    Calls Tryd.prog 33 #[.agg #[v]] w (TwoO 2 (fourF g) w) := by
  have hq0 : Below w.heap.size w (w.alloc (.cells #[v] 29)) := (Below.refl _ _).alloc (Nat.le_refl _) _
  obtain ⟨va, vc, rfl⟩ := hv.slice
  have hgo := implGraphOk_any _ _ _ (hv.below hq0 (Nat.le_refl _))
  by_cases hgg : gokB g = true
  case neg =>
    have hgg' : gokB g = false := by simpa using hgg
    rw [hgg'] at hgo
    have HE := Lib.hid (show fourF g = none by simp [fourF, hgg'])
    clear hgg hgg'
    go_enter Tryd.func33, Tryd.ntmps33
    go_wp2_with fail
    refine hgo.mono ?_
    rintro e w1 ⟨rfl, hb1⟩
    go_wp2
    go_ret2
    rw [HE.out]
    exact ⟨_, rfl, Own.nil _ _ _ _, hq0.trans (hb1.mono hq0.size)⟩
  rw [hgg] at hgo
  have hg := gokB_iff.1 hgg
  have h16 := hg.hi
  have HE := Lib.hid (show fourF g = fitO (netsL g) q4 by simp [fourF, hgg])
  clear hgg
  have q := nilInts
  go_enter Tryd.func33, Tryd.ntmps33
  go_wp2_with fail
  refine hgo.mono ?_
  rintro e w1 ⟨rfl, hb1⟩
  have hq1 := hq0.trans (hb1.mono hq0.size)
  have c3 : w1.cell? ⟨w.heap.size, 0, none⟩ = some (.slice va g.length vc) := (hb1.cell (p := ⟨w.heap.size, 0, none⟩) (by simp; try omega)).trans (by simp [go_sem])
  clear hgo
  go_wp2_with fail
  refine (netsOf_any _ _ _ (hv.below hq1 (Nat.le_refl _)) hg).mono ?_
  rintro e w2 ⟨x1, rfl, hx1, hb2⟩
  have hq2 := hq1.trans (hb2.mono hq1.size)
  go_wp2_with fail
  refine pathNets_any.mono ?_
  rintro e w3 ⟨x2, rfl, hx2, hb3⟩
  have hq3 := hq2.trans (hb3.mono hq2.size)
  have hh := Own.ints (xs := natsI (netsL g)) (hx1.below hb3 (Nat.le_refl _)) (by omega)
  have hp2 := Own.ints (xs := natsI q4) hx2 (by omega)
  go_wp2_with fail
  refine (firstFit_any hh hp2 (by rw [netsL_len]; omega) (by decide) (netsL_lt hg) (by decide)).mono ?_
  rintro e w4 ⟨r, rfl, hr0, hr, hb4⟩
  have hq4 := hq3.trans (hb4.mono hq3.size)
  have hfl := fun r => four_len (g := g) (r := r)
  cases hf : fitO (netsL g) q4 with
  | none =>
    rw [hf] at hr0 HE
    obtain rfl := hr0 rfl
    clear hr hfl hf
    go_wp2
    go_ret2
    rw [HE.out]
    exact ⟨_, rfl, Own.nil _ _ _ _, hq4⟩
  | some r' =>
    have hl := hfl r' hf
    rw [hf] at hr HE
    simp only [Option.getD_some] at hr
    have hri := hr.ints (xs := natsI r') (by omega)
    obtain ⟨rb, ro, rcap, hre, -⟩ := hri.at_
    have hre := hre (by rw [natsI_len]; omega)
    subst hre
    have HLL := Lib.hid hl
    clear hr0 hfl hf hl
    go_wp2_with fail
    refine (wide_any hri (by have := HLL.out; rw [natsI_len]; omega)).mono ?_
    rintro e w5 ⟨u, rfl, hu, hb5⟩
    obtain ⟨ua, uc, rfl⟩ := hu.isSlice
    rw [natsI_len] at hu ⊢
    go_wp2
    go_ret2
    rw [HE.out]
    exact ⟨_, rfl, hu.weak hq4.size, hq4.trans (hb5.mono hq4.size)⟩
