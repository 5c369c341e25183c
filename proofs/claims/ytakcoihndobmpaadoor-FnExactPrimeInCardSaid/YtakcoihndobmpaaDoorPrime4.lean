/- PrimeIn of the reference. -/
import Derived.Test.YtakcoihndobmpaaDoorPrime3
namespace Go.Proofs.YtakcoihndobmpaaDoor
open Go.RowKit
theorem anyB_hit {g : List (List Int)} {u v : Nat} (hu : u < v) (hv : v < g.length) (h : badB g u v = true) : anyB g = true := anyB_true (Nat.lt_trans hu hv) (pairB_true hv hu h)
theorem closL_le (g : List (List Int)) (s : List Int) : (closL g s).length ≤ g.length := by
  have : (closL g s).length ≤ (rangeI g.length).length := List.length_filter_le _ _
  rwa [rangeI_len] at this
set_option maxHeartbeats 4000000 in
theorem specPrimeIn_any {S : Nat → Prop} (v : Value) (g : List (List Int)) (w : World) (hv : SlR S w v g) :
    Calls Tryd.prog 26 #[.agg #[v]] w fun e w' => e = .returned (.bool (primeG g)) ∧ Below w.heap.size w w' := by
  have hb : Below w.heap.size w (w.alloc (.cells #[v] 35)) := (Below.refl _ _).alloc (Nat.le_refl _) _
  obtain ⟨va, vc, rfl⟩ := hv.slice
  have hv1 := hv.below hb (Nat.le_refl _)
  by_cases hgb : gokB g = true
  case neg =>
    have hgb' : gokB g = false := by simpa using hgb
    go_enter Tryd.func26, Tryd.ntmps26
    go_wp2_with fail
    refine (specGraphOk_any _ _ _ hv1).mono ?_
    rintro e w1 ⟨rfl, hb1⟩
    rw [hgb']
    go_wp2
    go_ret
    exact ⟨ret_bool (by simp [primeG, hgb']), hb.trans (hb1.mono hb.size)⟩
  have hg := gokB_iff.1 hgb
  have hhi := hg.hi
  by_cases h4 : 4 ≤ g.length
  case neg =>
    have hlt : decide ((g.length : Int) < 4) = true := by simp; omega
    have H4 := Lib.hid h4; clear h4
    go_enter Tryd.func26, Tryd.ntmps26
    go_wp2_with fail
    refine (specGraphOk_any _ _ _ hv1).mono ?_
    rintro e w1 ⟨rfl, hb1⟩
    have c1 : w1.cell? ⟨w.heap.size, 0, none⟩ = some (.slice va g.length vc) := (hb1.cell (p := ⟨w.heap.size, 0, none⟩) (by simp)).trans (by simp [go_sem])
    rw [hgb]
    go_wp2
    go_ret
    exact ⟨ret_bool (by simp [primeG, H4.out]), hb.trans (hb1.mono hb.size)⟩
  have hlt : decide ((g.length : Int) < 4) = false := by simp; omega
  have H4 := Lib.hid h4; clear h4
  go_enter Tryd.func26, Tryd.ntmps26
  go_wp2_with fail
  refine (specGraphOk_any _ _ _ hv1).mono ?_
  rintro e w1 ⟨rfl, hb1⟩
  have hq1 := hb.trans (hb1.mono hb.size)
  have c1 : w1.cell? ⟨w.heap.size, 0, none⟩ = some (.slice va g.length vc) := (hb1.cell (p := ⟨w.heap.size, 0, none⟩) (by simp)).trans (by simp [go_sem])
  have hv2 := hv.below hq1 (Nat.le_refl _)
  rw [hgb]
  have HGB := Lib.hid hgb; clear hgb
  go_wp2_with fail
  refine (l16All_any _ _ _ hv2 (by omega)).mono ?_
  rintro e w2 ⟨x, rfl, hx, hb2⟩
  have hq2 := hq1.trans (hb2.mono hq1.size)
  have c2 := (hb2.cell (p := ⟨w.heap.size, 0, none⟩) (cell_lt c1)).trans c1
  have hx2 := Own.ints (xs := rangeI g.length) hx (by omega)
  obtain ⟨xa, xc, hxe⟩ := hx2.slice
  rw [rangeI_len] at hxe
  subst hxe
  clear hx
  go_wp2
  go_loopw [4] (fun i wr => ∃ k : Nat, k ≤ g.length ∧ i = .int .i64 k ∧ (∀ i j, i < j → j < k → badB g i j = false) ∧ Below w2.heap.size w2 wr) (fun i _ => g.length - (intOf i).toNat)
  case atStart => exact ⟨0, Nat.zero_le _, rfl, fun i j _ h => by omega, Below.refl _ _⟩
  case round =>
    obtain ⟨k, hk, rfl, hno, hq⟩ := hrel
    by_cases hlt1 : k < g.length
    · go_wp2
      go_loopw [5] (fun i wr => ∃ u : Nat, u ≤ k ∧ i = .int .i64 u ∧ (∀ i, i < u → badB g i k = false) ∧ Below w2.heap.size w2 wr) (fun i _ => k - (intOf i).toNat)
      case atStart => exact ⟨0, Nat.zero_le _, rfl, fun i h => by omega, hq⟩
      case round =>
        clear hq
        obtain ⟨wo, rfl⟩ : ∃ wo : World, wo = wr := ⟨_, rfl⟩
        obtain ⟨u, hu, rfl, hno2, hq⟩ := hrel
        have hB := hq.size
        by_cases hlt2 : u < k
        · have cb := (hq.cell (p := ⟨w.heap.size, 0, none⟩) (cell_lt c2)).trans c2
          have hq3 : Below w2.heap.size w2 (wo.alloc (.cells #[.int .i64 u, .int .i64 k] 2)) := hq.alloc hB _
          have hq4 := hq2.trans (hq3.mono hq2.size)
          have hlit : Own (wo.alloc (.cells #[.int .i64 u, .int .i64 k] 2)) wo.heap.size 2 1 (.slice (some ⟨wo.heap.size, 0, none⟩) 2 2) 2 ([(u : Int), (k : Int)].map (.int .i64)) := World.ownsRow_lit (base := wo.heap.size) (e := 2) (size := 1) wo #[.int .i64 u, .int .i64 k] 2 (Nat.le_refl _) (by unfold maxLen; omega) rfl
          have hr2 : Rise [(u : Int), (k : Int)] g.length := sorted_rise (by simp; omega) (by simp; omega)
          have hcl := l17Closure_any (.slice va g.length vc) (.slice xa g.length xc) _ g [(u : Int), (k : Int)] _ hg hr2 (hv.below hq4 (Nat.le_refl _)) (hx2.below hq3 (Nat.le_refl _)) (hlit.ints (by omega))
          by_cases hbd : badB g u k = true
          · have hlen : decide ((closL g [(u : Int), (k : Int)]).length < g.length) = true := hbd
            have hany := Lib.hid (anyB_hit hlt2 hlt1 hbd)
            clear hbd
            go_wp2_with fail
            refine hcl.mono ?_
            rintro e w5 ⟨y, rfl, hy, hb5⟩
            obtain ⟨ya, yc, rfl⟩ := (hy.ints (by have := closL_le g [(u : Int), (k : Int)]; omega)).slice
            go_wp2
            go_ret
            exact ⟨ret_bool (by simp [primeG, hany.out]), hq4.trans (hb5.mono hq4.size)⟩
          · have hbd' : badB g u k = false := by simpa using hbd
            have hlen : decide ((closL g [(u : Int), (k : Int)]).length < g.length) = false := hbd'
            clear hbd
            have HBD := Lib.hid hbd'; clear hbd'
            go_wp2_with fail
            refine hcl.mono ?_
            rintro e w5 ⟨y, rfl, hy, hb5⟩
            obtain ⟨ya, yc, rfl⟩ := (hy.ints (by have := closL_le g [(u : Int), (k : Int)]; omega)).slice
            go_wp2
            go_roundw
            case rel =>
              refine ⟨u + 1, by omega, by go_num, fun i h1 => ?_, hq3.trans (hb5.mono hq3.size)⟩
              by_cases hik : i = u
              · subst hik; exact HBD.out
              · exact hno2 i (by omega)
            case measure => simp [intOf]; omega
        · obtain rfl : u = k := by omega
          go_wp2
          go_roundw
          case rel =>
            refine ⟨u + 1, by omega, by go_num, fun i j h1 h2 => ?_, hq⟩
            by_cases hju : j = u
            · subst hju; exact hno2 i h1
            · exact hno i j h1 (by omega)
          case measure => simp [intOf]; omega
    · obtain rfl : k = g.length := by omega
      have hpf := Lib.hid (anyB_false hno)
      clear hno
      go_wp2
      go_ret
      exact ⟨ret_bool (by simp [primeG, hpf.out, HGB.out, H4.out]), hq2.trans (hq.mono hq2.size)⟩
end Go.Proofs.YtakcoihndobmpaaDoor
