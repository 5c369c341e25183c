/- Orbits of the reference. -/
import Derived.Test.YtplohdnakllbiaaOrb6
namespace Go.Proofs.Ytplohdnakllbiaa
open Go.RowKit
noncomputable def orbL (g : List (List Int)) : List Int := if smallB g = true then natsI (orbN (netsL g)) else []
theorem orbN_len (H : List Nat) : (orbN H).length = H.length := by simp [orbN]
theorem orbN_take {H : List Nat} {k : Nat} (hk : k < H.length) : (orbN H).take (k + 1) = (orbN H).take k ++ [orbV H k] := by
  have h : k < (orbN H).length := by rw [orbN_len]; exact hk
  rw [List.take_succ_eq_append_getElem h]
  congr 1
  simp [orbN]
set_option maxRecDepth 100000 in
set_option maxHeartbeats 4000000 in
theorem specOrbitsOf_any {S : Nat → Prop} {gv : Value} {g : List (List Int)} {w : World} (hvg : SlR S w gv g) :
    Calls Try.prog 26 #[.agg #[gv]] w fun e w' => ∃ u, e = .returned u ∧ SlI (fun b => b < w'.heap.size) w' .i64 u (orbL g) ∧ Below w.heap.size w w' := by
  have hq0 : Below w.heap.size w ((w.alloc (.cells #[gv] 31)).alloc (.cells #[] 2)) := ((Below.refl _ _).alloc (Nat.le_refl _) _).alloc (by simp) _
  have hsz := fun (W : World) (hb : Below w.heap.size w W) => l1Size_any (hvg.below hb (Nat.le_refl _))
  have hsm := fun (W : World) (hb : Below w.heap.size w W) => l4Small_any (hvg.below hb (Nat.le_refl _))
  obtain ⟨ga, gc, rfl⟩ := hvg.slice
  have ho0 : Own ((w.alloc (.cells #[.slice ga g.length gc] 31)).alloc (.cells #[] 2)) (w.heap.size + 1) 2 1 (.slice (some ⟨w.heap.size + 1, 0, none⟩) 0 0) 0 [] := by
    have := World.ownsRow_lit (base := w.heap.size + 1) (e := 2) (size := 1) (w.alloc (.cells #[.slice ga g.length gc] 31)) #[] 0 (by simp) (by unfold maxLen; omega) rfl
    simpa [Own] using this
  by_cases hs : smallB g = true
  case neg =>
    have hs' : smallB g = false := by simpa using hs
    simp only [hs'] at hsm
    have HE := Lib.hid (show orbL g = [] by simp [orbL, hs'])
    clear hs hs'
    go_enter Try.func26, Try.ntmps26
    go_wp2
    go_loopw [3, 4] (fun o i wr => i = .int .i64 (0 : Int) ∧ o = .slice (some ⟨w.heap.size + 1, 0, none⟩) 0 0 ∧ Below w.heap.size w wr ∧ wr.cell? ⟨w.heap.size, 0, none⟩ = some (.slice ga g.length gc)) (fun _ i _ => 0)
    case atStart => exact ⟨rfl, rfl, hq0, by simp [go_sem]⟩
    case round =>
      clear hq0
      obtain ⟨rfl, rfl, hq, c3⟩ := hrel
      have h0 := hsz _ hq
      by_cases hz : g.length = 0
      · have hlb : decide ((0 : Int) < (g.length : Int)) = false := decide_eq_false (by omega)
        have hlbn : decide (0 < g.length) = false := decide_eq_false (by omega)
        clear hz
        go_wp2_with fail
        refine h0.mono ?_
        rintro e w1 ⟨rfl, hb1⟩
        have hq1 := hq.trans (hb1.mono hq.size)
        go_wp2
        go_ret
        exact ⟨_, rfl, by rw [HE.out]; exact SlI.empty _ _ _ _, hq1⟩
      · have hlb : decide ((0 : Int) < (g.length : Int)) = true := decide_eq_true (by omega)
        have hlbn : decide (0 < g.length) = true := decide_eq_true (by omega)
        clear hz
        go_wp2_with fail
        refine h0.mono ?_
        rintro e w1 ⟨rfl, hb1⟩
        have hq1 := hq.trans (hb1.mono hq.size)
        have c3 := (hb1.cell (cell_lt c3)).trans c3
        go_wp2_with fail
        refine (hsm _ hq1).mono ?_
        rintro e w2 ⟨rfl, hb2⟩
        have hq2 := hq1.trans (hb2.mono hq1.size)
        go_wp2
        go_ret
        exact ⟨_, rfl, by rw [HE.out]; exact SlI.empty _ _ _ _, hq2⟩
  simp only [hs] at hsm
  have HE := Lib.hid (show orbL g = natsI (orbN (netsL g)) by rw [orbL, if_pos hs])
  have hg := gokB_iff.1 (show gokB g = true by simp only [smallB, Bool.and_eq_true] at hs; exact hs.1)
  have h8 : g.length ≤ 8 := by simp only [smallB, Bool.and_eq_true, decide_eq_true_eq] at hs; exact hs.2
  have HNL := Lib.hid (netsL_len g)
  have HMO := Lib.hid (fun (u v : Nat) (hu : u < g.length) (hv : v < g.length) (W : World) (hb : Below w.heap.size w W) => l4Moves_any (hvg.below hb (Nat.le_refl _)) hg h8 hu hv)
  have HSY := Lib.hid (sym_nets hg)
  clear hs
  go_enter Try.func26, Try.ntmps26
  go_wp2
  go_loopw [3, 4] (fun o i wr => ∃ k : Nat, k ≤ g.length ∧ i = .int .i64 k ∧ Own wr (w.heap.size + 1) 2 1 o k ((natsI ((orbN (netsL g)).take k)).map (.int .i64)) ∧ Below w.heap.size w wr ∧ wr.cell? ⟨w.heap.size, 0, none⟩ = some (.slice ga g.length gc)) (fun _ i _ => g.length - (intOf i).toNat)
  case atStart => exact ⟨0, Nat.zero_le _, rfl, by simpa [natsI] using ho0, hq0, by simp [go_sem]⟩
  case round =>
    clear hq0 ho0
    obtain ⟨k, hk, rfl, hown, hq, c3⟩ := hrel
    by_cases hlt : k < g.length
    case neg =>
      obtain rfl : k = g.length := by omega
      go_wp2_with fail
      refine (hsz _ hq).mono ?_
      rintro e w1 ⟨rfl, hb1⟩
      have hq1 := hq.trans (hb1.mono hq.size)
      have hown1 := hown.below hb1 (Nat.le_refl _)
      rw [List.take_of_length_le (by rw [orbN_len, HNL.out]; exact Nat.le_refl _)] at hown1
      go_wp2
      go_ret
      refine ⟨_, rfl, ?_, hq1⟩
      rw [HE.out]
      exact (Own.ints (xs := natsI (orbN (netsL g))) hown1 (by omega)).low
    have HOT := Lib.hid (orbN_take (H := netsL g) (by rw [HNL.out]; exact hlt))
    have HOM := Lib.hid (orb_moves HSY.out (by rw [HNL.out]; exact hlt))
    have HOL := Lib.hid (fun u (h : movesB (netsL g) u k = true) => orb_le h)
    have hos : orbV (netsL g) k ≤ k := orb_self
    go_wp2_with fail
    refine (hsz _ hq).mono ?_
    rintro e w1 ⟨rfl, hb1⟩
    have hq1 := hq.trans (hb1.mono hq.size)
    have c3 := (hb1.cell (cell_lt c3)).trans c3
    have hown1 := hown.below hb1 (Nat.le_refl _)
    go_wp2_with fail
    refine (hsm _ hq1).mono ?_
    rintro e w2 ⟨rfl, hb2⟩
    have hq2 := hq1.trans (hb2.mono hq1.size)
    have c3 := (hb2.cell (cell_lt c3)).trans c3
    have hown2 := hown1.below hb2 (Nat.le_refl _)
    clear hown hown1 hq hq1 hb1 hb2
    go_wp2
    go_loopw [5] (fun i wr => ∃ j : Nat, j ≤ orbV (netsL g) k ∧ i = .int .i64 j ∧ Below w2.heap.size w2 wr) (fun i _ => orbV (netsL g) k - (intOf i).toNat)
    case atStart => exact ⟨0, Nat.zero_le _, rfl, Below.refl _ _⟩
    case round =>
      obtain ⟨j, hj, rfl, hq3⟩ := hrel
      have hq4 := hq2.trans (hq3.mono hq2.size)
      have c4 := (hq3.cell (cell_lt c3)).trans c3
      have hown4 := hown2.below hq3 (Nat.le_refl _)
      have hmo := HMO.out j k (by omega) hlt _ hq4
      have hjs : j ≤ 8 := by omega
      clear hq2 hown2
      by_cases hjl : j < orbV (netsL g) k
      · have hmf : movesB (netsL g) j k = false := by
          cases h : movesB (netsL g) j k with
          | false => rfl
          | true => have := HOL.out j h; omega
        rw [hmf] at hmo
        clear hmf
        go_wp2_with fail
        refine hmo.mono ?_
        rintro e w5 ⟨rfl, hb5⟩
        have hq5 := hq3.trans (hb5.mono hq3.size)
        go_wp2
        go_roundw
        case rel => exact ⟨j + 1, by omega, by go_num, hq5⟩
        case measure => simp [intOf]; omega
      · obtain rfl : j = orbV (netsL g) k := by omega
        rw [HOM.out] at hmo
        generalize orbV (netsL g) k = ov at *
        go_wp2_with fail
        refine hmo.mono ?_
        rintro e w5 ⟨rfl, hb5⟩
        have hq5 := hq4.trans (hb5.mono hq4.size)
        have c5 := (hb5.cell (cell_lt c4)).trans c4
        have hown5 := hown4.below hb5 (Nat.le_refl _)
        have hB5 : w.heap.size + 1 ≤ w5.heap.size := cell_lt c5
        go_wp2_with (at_builtin; refine wpList_append1 elI64 rfl _ _ rfl hown5 rfl rfl rfl (by omega) hB5 ?_; intro v' w6 hown6 hkept hmv)
        have c6 : w6.cell? ⟨w.heap.size, 0, none⟩ = some (.slice ga g.length gc) := (World.cell?_of_block (a := ⟨w.heap.size, 0, none⟩) (hkept.2.2.2.2 w.heap.size (cell_lt c5) (fun e => by have := (hown5.lt w.heap.size e.symm).1; omega))).trans c5
        go_roundw
        case rel => exact ⟨k + 1, by omega, by go_num, by rw [HOT.out, natsI_snocN, List.map_append]; exact hown6, hkept.below hq5 hq5.size (fun b hb => by have := hown5.ge b hb; omega), c6⟩
        case measure => simp [intOf]; omega
end Go.Proofs.Ytplohdnakllbiaa
