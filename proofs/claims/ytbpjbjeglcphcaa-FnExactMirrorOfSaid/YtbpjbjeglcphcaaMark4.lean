/- Marks written into a slice of slices and read again, exactly; equal results. -/
import Derived.Test.YtbpjbjeglcphcaaMark3
namespace Go.Proofs.Ytbpjbjeglcphcaa
open Go.RowKit
def sumL (g : List (List Int)) : Nat := (g.map List.length).sum
def sumTL (g : List (List Int)) (j : Nat) : Nat := sumL (g.take j)
theorem sumTL_succ {g : List (List Int)} {j : Nat} (hj : j < g.length) : sumTL g (j + 1) = sumTL g j + g[j].length := by
  unfold sumTL sumL
  rw [List.take_succ_eq_append_getElem hj, List.map_append, List.sum_append]; simp
theorem sumTL_all (g : List (List Int)) : sumTL g g.length = sumL g := by unfold sumTL; rw [List.take_length]
theorem sumTL_le {g : List (List Int)} (hs : SmallR g 1048576) : ∀ j, j ≤ g.length → sumTL g j ≤ 1048576 * j
  | 0, _ => by simp [sumTL, sumL]
  | j + 1, hj => by
    have := sumTL_le hs j (by omega)
    have h2 := hs.2 j (by omega) (by omega)
    rw [sumTL_succ (by omega)]; omega
theorem sumTL_small {g : List (List Int)} (hs : SmallR g 1048576) {j : Nat} (hj : j ≤ g.length) : sumTL g j ≤ 1099511627776 := by
  have h1 := sumTL_le hs j hj
  have h2 := hs.1
  have h3 : 1048576 * j ≤ 1048576 * 1048576 := Nat.mul_le_mul_left _ (by omega)
  omega
/-- The rows of marks. -/
def marksR (k : Int) (g : List (List Int)) : List (List Int) := (List.range g.length).map fun i => marksL (k + (sumTL g i : Int)) (g.getD i []).length
theorem marksR_len (k : Int) (g : List (List Int)) : (marksR k g).length = g.length := by simp [marksR]
theorem marksR_get {k : Int} {g : List (List Int)} {i : Nat} (h : i < (marksR k g).length) (h2 : i < g.length) : (marksR k g)[i] = marksL (k + (sumTL g i : Int)) g[i].length := by simp [marksR, h2]
theorem marksR_small {k : Int} {g : List (List Int)} (hs : SmallR g 1048576) : SmallR (marksR k g) 1048576 := by
  refine ⟨by rw [marksR_len]; exact hs.1, fun i hi _ => ?_⟩
  have h2 : i < g.length := by rw [marksR_len] at hi; exact hi
  rw [marksR_get hi h2, marksL_len]
  exact hs.2 i h2 h2
theorem SlR.betweenR {S : Nat → Prop} {w w' : World} {v : Value} {g : List (List Int)} {B C : Nat} (h : SlR S w v g) (hb : Between B C w w') (hS : ∀ b, S b → b < w.heap.size ∧ (b < B ∨ C ≤ b)) : SlR S w' v g :=
  h.keep fun b hSb => hb.block b (hS b hSb).1 (hS b hSb).2
theorem eqR_same {S S' : Nat → Prop} {v u : Value} {xs : List (List Int)} {w : World} (hv : SlR S w v xs) (hu : SlR S' w u xs) :
    Calls Try.prog 21 #[v, u] w fun e w' => e = .returned (.bool true) ∧ Below w.heap.size w w' := by
  refine (eqInt64SS_any _ _ _ _ _ hv hu).mono ?_
  rintro e w' ⟨rfl, hd⟩
  exact ⟨by rw [decide_eq_true rfl], hd.below _⟩
set_option maxHeartbeats 1000000 in
theorem markRR_any {B C : Nat} {EO : TypeId} {u : Value} {g : List (List Int)} {k : Int} {w : World} (hu : OwnR w B C EO 2 u g) (hs : SmallR g 1048576) (hk0 : 0 ≤ k) (hk1 : k ≤ 100000000000000) :
    Calls Try.prog 24 #[u, .int .i64 k] w fun e w' => e = .returned (.int .i64 (k + (sumL g : Int))) ∧ OwnR w' B C EO 2 u (marksR k g) ∧ Between B C w w' := by
  obtain ⟨vs, h1, h2, h3, hap, h4⟩ := hu
  have hgl : g.length ≤ 1048576 := by have := hs.1; omega
  rcases own_none_some h2 with ⟨rfl, hn⟩ | ⟨gb, gc, rfl⟩
  · have hg0 : g = [] := List.eq_nil_of_length_eq_zero hn
    subst hg0
    go_enter Try.func24, Try.ntmps24
    go_wp2
    go_loopw [5, 1] (fun i m wr => i = .int .i64 0 ∧ m = .int .i64 k ∧ w = wr) (fun _ _ _ => 0)
    case atStart => exact ⟨rfl, rfl, rfl⟩
    case round =>
      obtain ⟨rfl, rfl, rfl⟩ := hrel
      go_wp2
      go_ret
      exact ⟨ret_int (by simp [sumL]), ⟨vs, h1, h2, h3, hap, fun i hi => by simp [marksR] at hi⟩, Between.refl _ _ _⟩
  · have hsum := fun j (hj : j ≤ g.length) => sumTL_small hs hj
    have HSM := Lib.hid hsum
    clear hsum
    go_enter Try.func24, Try.ntmps24
    go_wp2
    go_loopw [5, 1] (fun i m wr => ∃ j : Nat, j ≤ g.length ∧ i = .int .i64 j ∧ m = .int .i64 (k + (sumTL g j : Int)) ∧ Own wr B EO 1 (.slice (some ⟨gb, 0, none⟩) g.length gc) g.length vs ∧ RowKit.Hid (∀ i (h : i < g.length) (h2 : i < vs.length), Own wr B 2 1 vs[i] g[i].length ((if i < j then marksL (k + (sumTL g i : Int)) g[i].length else g[i]).map (.int .i64))) ∧ Between B C w wr) (fun i _ _ => g.length - (intOf i).toNat)
    case atStart => exact ⟨0, Nat.zero_le _, rfl, by simp [sumTL, sumL], h2, Lib.hid (fun i h h5 => by rw [if_neg (by omega)]; exact (h4 i h h5).1), Between.refl _ _ _⟩
    case round =>
      obtain ⟨j, hj, rfl, rfl, hown, HR, hbt⟩ := hrel
      have hsj := HSM.out j hj
      by_cases hlt : j < g.length
      · have hjv : j < vs.length := by omega
        have hcell : wr.cell? ⟨gb, j, none⟩ = some vs[j] := (World.ownsRow.cellAt hown j (by omega)).trans (List.getElem?_eq_getElem hjv)
        have hx := HR.out j hlt hjv
        rw [if_neg (by omega)] at hx
        have hsm : g[j].length ≤ 1048576 := by have := hs.2 j hlt hlt; omega
        obtain ⟨ra, rc, hre⟩ := hx.isSlice
        have hbl := (h4 j hlt hjv).2
        have hge := (h4 j hlt hjv).1.ge
        rw [hre] at hcell hx hbl hge
        have HRE := Lib.hid hre; clear hre
        have HSS := Lib.hid (sumTL_succ hlt)
        generalize hgs : sumTL g j = sj at *
        have HGS := Lib.hid hgs
        clear hgs
        go_wp2_with fail
        refine (markInt64S_any hx hsm (by omega) (by omega)).mono ?_
        rintro e w' ⟨rfl, hx', hkp⟩
        go_wp2
        go_roundw
        case rel =>
          refine ⟨j + 1, by omega, by go_num, by rw [HSS.out]; congr 1; push_cast; omega, hown.kept hkp (fun b hb he => (hbl b he).2 hb), Lib.hid (fun i hi hi2 => ?_), hbt.trans (hkp.between (fun b hb => ⟨hge b hb, (hbl b hb).1⟩))⟩
          by_cases e : i = j
          · subst e
            rw [if_pos (by omega), HGS.out, HRE.out]
            exact hx'
          · have h5 : (i < j + 1) = (i < j) := by apply propext; omega
            rw [show (if i < j + 1 then marksL (k + (sumTL g i : Int)) g[i].length else g[i]) = (if i < j then marksL (k + (sumTL g i : Int)) g[i].length else g[i]) by simp only [h5]]
            refine (HR.out i hi hi2).kept hkp (fun b hb he => ?_)
            have := hap i j hi2 hjv b hb (by rw [HRE.out]; exact he)
            omega
        case measure => simp [intOf]; omega
      · obtain rfl : j = g.length := by omega
        have HA := Lib.hid (sumTL_all g)
        go_wp2
        go_ret
        refine ⟨ret_int (by rw [HA.out]), ⟨vs, by rw [marksR_len]; exact h1, by rw [marksR_len]; exact hown, h3, hap, fun i hi hi2 => ?_⟩, hbt⟩
        have hi3 : i < g.length := by rw [marksR_len] at hi; exact hi
        have h5 := HR.out i hi3 hi2
        rw [if_pos hi3] at h5
        rw [marksR_get hi hi3, marksL_len]
        exact ⟨h5, (h4 i hi3 hi2).2⟩
set_option maxHeartbeats 1000000 in
theorem heldRR_any {S : Nat → Prop} {u : Value} {g : List (List Int)} {k : Int} {w : World} (hu : SlR S w u (marksR k g)) (hs : SmallR g 1048576) (hk0 : 0 ≤ k) (hk1 : k ≤ 100000000000000) :
    Calls Try.prog 25 #[u, .int .i64 k] w fun e w' => e = .returned (.int .i64 (k + (sumL g : Int))) ∧ Below w.heap.size w w' := by
  obtain ⟨a, b, off, cap, f, rfl, hl, ha, hc0⟩ := hu
  simp only [marksR_len] at hl ha ⊢
  have hsum := fun j (hj : j ≤ g.length) => sumTL_small hs hj
  have HSM := Lib.hid hsum
  clear hsum
  go_enter Try.func25, Try.ntmps25
  go_wp2
  go_loopw [5, 1] (fun i m wr => ∃ j : Nat, j ≤ g.length ∧ i = .int .i64 j ∧ m = .int .i64 (k + (sumTL g j : Int)) ∧ Below w.heap.size w wr) (fun i _ _ => g.length - (intOf i).toNat)
  case atStart => exact ⟨0, Nat.zero_le _, rfl, by simp [sumTL, sumL], Below.refl _ _⟩
  case round =>
    obtain ⟨j, hj, rfl, rfl, hq⟩ := hrel
    have hsj := HSM.out j hj
    by_cases hlt : j < g.length
    · obtain ⟨hcell0, hrow0⟩ := hc0 j (by rw [marksR_len]; exact hlt)
      rw [marksR_get _ hlt] at hrow0
      have hcell := (hq.cell (cell_lt hcell0)).trans hcell0
      have hrow := hrow0.below hq (Nat.le_refl _)
      obtain ⟨rfl, -⟩ := ha (by omega)
      have hsm : g[j].length ≤ 1048576 := by have := hs.2 j hlt hlt; omega
      have HSS := Lib.hid (sumTL_succ hlt)
      have hneg : ¬ (k + (sumTL g j : Int) + (g[j].length : Int)) < 0 := by omega
      generalize hgs : sumTL g j = sj at *
      clear hrow0 hcell0 hgs
      go_wp2_with fail
      refine (heldInt64S_any hrow hsm (by omega) (by omega)).mono ?_
      rintro e w' ⟨rfl, hd⟩
      go_wp2
      go_roundw
      case rel => exact ⟨j + 1, by omega, by go_num, by rw [HSS.out]; congr 1; push_cast; omega, hq.trans (hd.below _)⟩
      case measure => simp [intOf]; omega
    · obtain rfl : j = g.length := by omega
      have HA := Lib.hid (sumTL_all g)
      go_wp2
      go_ret
      exact ⟨ret_int (by rw [HA.out]), hq⟩
end Go.Proofs.Ytbpjbjeglcphcaa
