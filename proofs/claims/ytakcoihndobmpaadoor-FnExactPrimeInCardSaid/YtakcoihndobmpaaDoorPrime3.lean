/- PrimeIn of the program and of the reference. -/
import Derived.Test.YtakcoihndobmpaaDoorPrime2
namespace Go.Proofs.YtakcoihndobmpaaDoor
open Go.RowKit
set_option maxHeartbeats 2000000 in
theorem isPrime_any {S : Nat → Prop} (v : Value) (g : List (List Int)) (w : World) (ht : Tab w) (hg : GOk g) (hv : SlI S w .u32 v (natsI (netsL g))) :
    Calls Tryd.prog 56 #[v] w fun e w' => e = .returned (.bool (decide (4 ≤ g.length) && !anyB g)) ∧ Below w.heap.size w w' := by
  obtain ⟨va, vc, rfl⟩ := hv.slice
  have hl : (natsI (netsL g)).length = g.length := by simp [natsI_len, netsL_len]
  rw [hl] at hv ⊢
  have hhi := hg.hi
  by_cases h4 : 4 ≤ g.length
  · have hlt : decide ((g.length : Int) < 4) = false := by simp; omega
    have hq0 : Below w.heap.size w (w.alloc (.cells #[.slice va g.length vc] 61)) := (Below.refl _ _).alloc (Nat.le_refl _) _
    have hc := choose2_any w.heap.size va vc g (w.alloc (.cells #[.slice va g.length vc] 61)) (ht.below hq0 (Nat.le_refl _)) hg (hv.below hq0 (Nat.le_refl _)) (by simp [go_sem])
    have H4 := Lib.hid h4; clear h4
    go_enter Tryd.func56, Tryd.ntmps56
    go_wp2_with (go_at_call 76; refine hc.mono ?_; rintro e w2 ⟨rfl, hb2⟩)
    go_ret
    exact ⟨ret_bool (by simp [H4.out]), hq0.trans (hb2.mono hq0.size)⟩
  · have hlt : decide ((g.length : Int) < 4) = true := by simp; omega
    have hq0 : Below w.heap.size w (w.alloc (.cells #[.slice va g.length vc] 61)) := (Below.refl _ _).alloc (Nat.le_refl _) _
    have H4 := Lib.hid h4; clear h4
    go_enter Tryd.func56, Tryd.ntmps56
    go_wp2
    go_ret
    exact ⟨ret_bool (by simp [H4.out]), hq0⟩
set_option maxHeartbeats 2000000 in
theorem implPrimeIn_any {S : Nat → Prop} (v : Value) (g : List (List Int)) (w : World) (ht : Tab w) (hv : SlR S w v g) :
    Calls Tryd.prog 27 #[.agg #[v]] w fun e w' => e = .returned (.bool (primeG g)) ∧ Below w.heap.size w w' := by
  have hb : Below w.heap.size w (w.alloc (.cells #[v] 35)) := (Below.refl _ _).alloc (Nat.le_refl _) _
  obtain ⟨va, vc, rfl⟩ := hv.slice
  have hv1 := hv.below hb (Nat.le_refl _)
  by_cases hgb : gokB g = true
  · have hg := gokB_iff.1 hgb
    have hhi := hg.hi
    go_enter Tryd.func27, Tryd.ntmps27
    go_wp2_with fail
    refine (implGraphOk_any _ _ _ hv1).mono ?_
    rintro e w1 ⟨rfl, hb1⟩
    rw [hgb]
    have hq1 := hb.trans (hb1.mono hb.size)
    have c1 : w1.cell? ⟨w.heap.size, 0, none⟩ = some (.slice va g.length vc) := (hb1.cell (p := ⟨w.heap.size, 0, none⟩) (by simp)).trans (by simp [go_sem])
    have hv2 := hv.below hq1 (Nat.le_refl _)
    go_wp2_with fail
    refine (netsOf_any _ _ _ hv2 hg).mono ?_
    rintro e w2 ⟨x, rfl, hx, hb2⟩
    have hq2 := hq1.trans (hb2.mono hq1.size)
    have ht2 := ht.below hq2 (Nat.le_refl _)
    have hx2 := Own.ints (xs := natsI (netsL g)) hx (by omega)
    go_wp2_with fail
    refine (isPrime_any _ _ _ ht2 hg hx2).mono ?_
    rintro e w3 ⟨rfl, hb3⟩
    go_wp2
    go_ret
    exact ⟨ret_bool (by simp [primeG, hgb]), hq2.trans (hb3.mono hq2.size)⟩
  · have hgb' : gokB g = false := by simpa using hgb
    go_enter Tryd.func27, Tryd.ntmps27
    go_wp2_with fail
    refine (implGraphOk_any _ _ _ hv1).mono ?_
    rintro e w1 ⟨rfl, hb1⟩
    rw [hgb']
    go_wp2
    go_ret
    exact ⟨ret_bool (by simp [primeG, hgb']), hb.trans (hb1.mono hb.size)⟩
end Go.Proofs.YtakcoihndobmpaaDoor
