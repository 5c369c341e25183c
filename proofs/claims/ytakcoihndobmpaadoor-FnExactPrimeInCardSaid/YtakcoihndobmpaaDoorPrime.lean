/- PrimeIn of the reference and of the program. -/
import Derived.Test.YtakcoihndobmpaaDoorClos
namespace Go.Proofs.YtakcoihndobmpaaDoor
open Go.RowKit
noncomputable def predB (g : List (List Int)) (s : List Int) : Bool := decide (maskL (closL g s) ≠ firstN g.length)
set_option maxHeartbeats 2000000 in
theorem pred_any {S : Nat → Prop} (b : Nat) (va : Option Addr) (vc : Nat) (g : List (List Int)) (s : List Int) (w : World) (ht : Tab w) (hg : GOk g) (hr : Rise s g.length) (hv : SlI S w .u32 (.slice va g.length vc) (natsI (netsL g)))
    (hbx : w.cell? ⟨b, 0, none⟩ = some (.slice va g.length vc)) :
    Calls Tryd.prog 77 #[.int .u32 (maskL s), .pointer (some ⟨b, 0, none⟩)] w fun e w' => e = .returned (.bool (predB g s)) ∧ Below w.heap.size w w' := by
  have hhi := hg.hi
  have hne : (((maskL (closL g s) : Nat) : Int) != ((firstN g.length : Nat) : Int)) = predB g s := by
    unfold predB
    by_cases h : maskL (closL g s) = firstN g.length <;> simp [h]
    exact_mod_cast h
  have HNE := Lib.hid hne; clear hne
  go_enter Tryd.func77, Tryd.ntmps77
  go_wp2
  refine wp_region_held_drew (S := (fun w' => w'.cell? ⟨b, 0, none⟩ = some (.slice va g.length vc))) (by kernel_rfl) ?_ (fun hHeld => ?_)
  · first | assumption | (simp [go_sem])
  refine wpAnyH_take (i := 0) (v := ?v1) (by simp only [List.getElem?_toArray, List.getElem?_cons_succ, List.getElem?_cons_zero]; exact rfl) (by kernel_rfl) (by kernel_rfl) (by kernel_rfl) (by intro _ _ _ h; exact h) (Or.inl ⟨by rfl, ?y1⟩) hHeld ?_
  case y1 => (intro w hSw; (try dsimp only at hSw); go_simp; try (with_reducible rfl))
  try simp only [Act.put, List.setIfInBounds_toArray, List.set_cons_zero, List.set_cons_succ]
  refine wpAnyH_take (i := 1) (v := ?v2) (by simp only [List.getElem?_toArray, List.getElem?_cons_succ, List.getElem?_cons_zero]; exact rfl) (by kernel_rfl) (by kernel_rfl) (by kernel_rfl) (by intro _ _ _ h; exact h) (Or.inl ⟨by rfl, ?y2⟩) hHeld ?_
  case y2 => (intro w hSw; (try dsimp only at hSw); go_simp; try (with_reducible rfl))
  try simp only [Act.put, List.setIfInBounds_toArray, List.set_cons_zero, List.set_cons_succ]
  refine wpAnyH_take (i := 3) (v := ?v3) (by simp only [List.getElem?_toArray, List.getElem?_cons_succ, List.getElem?_cons_zero]; exact rfl) (by kernel_rfl) (by kernel_rfl) (by kernel_rfl) (by intro _ _ _ h; exact h) (Or.inl ⟨by rfl, ?y3⟩) hHeld ?_
  case y3 => (intro w hSw; (try dsimp only at hSw); go_simp; try (with_reducible rfl))
  try simp only [Act.put, List.setIfInBounds_toArray, List.set_cons_zero, List.set_cons_succ]
  refine wpAnyH_take (i := 5) (v := ?v4) (by simp only [List.getElem?_toArray, List.getElem?_cons_succ, List.getElem?_cons_zero]; exact rfl) (by kernel_rfl) (by kernel_rfl) (by kernel_rfl) (by intro _ _ _ h; exact h) (Or.inl ⟨by rfl, ?y4⟩) hHeld ?_
  case y4 => (intro w hSw; (try dsimp only at hSw); go_simp; try (with_reducible rfl))
  try simp only [Act.put, List.setIfInBounds_toArray, List.set_cons_zero, List.set_cons_succ]
  refine wpAnyH_ready (rs := [2]) (by kernel_rfl) (by simp) ?_
  refine AllReadyH.cons (by simp only [List.getElem?_toArray, List.getElem?_cons_succ, List.getElem?_cons_zero]; exact rfl) (fun K hK => ?_) AllReadyH.nil
  go_simp
  refine (allOf_any _ _ _ _ hhi).mono ?_
  rintro e w' ⟨rfl, rfl⟩
  try dsimp only
  refine hK.out _ _ ?h6 (fun hHeld => ?_)
  case h6 => first | assumption | (simp [go_sem])
  clear hK K
  try simp only [Act.put, List.setIfInBounds_toArray, List.set_cons_zero, List.set_cons_succ]
  refine wpAnyH_ready (rs := [4]) (by kernel_rfl) (by simp) ?_
  refine AllReadyH.cons (by simp only [List.getElem?_toArray, List.getElem?_cons_succ, List.getElem?_cons_zero]; exact rfl) (fun K hK => ?_) AllReadyH.nil
  go_simp
  refine (closureOf_any _ _ _ _ (Tab.drawn ht (Drawn.refl _).drew) hg hr hv.drew).mono ?_
  rintro e w1 ⟨rfl, hb1⟩
  have c1 := (hb1.cell (p := ⟨b, 0, none⟩) (cell_lt (w := w.drew) hbx)).trans hbx
  try dsimp only
  refine hK.out _ _ ?h8 (fun hHeld => ?_)
  case h8 => first | assumption | (simp [go_sem])
  clear hK K
  try simp only [Act.put, List.setIfInBounds_toArray, List.set_cons_zero, List.set_cons_succ]
  refine wpAnyH_ready (rs := [6]) (by kernel_rfl) (by simp) ?_
  refine AllReadyH.cons (by simp only [List.getElem?_toArray, List.getElem?_cons_succ, List.getElem?_cons_zero]; exact rfl) (fun K hK => ?_) AllReadyH.nil
  go_simp
  refine (allOf_any _ _ _ _ hhi).mono ?_
  rintro e w' ⟨rfl, rfl⟩
  try dsimp only
  refine hK.out _ _ ?h10 (fun hHeld => ?_)
  case h10 => first | assumption | (simp [go_sem])
  clear hK K
  try simp only [Act.put, List.setIfInBounds_toArray, List.set_cons_zero, List.set_cons_succ]
  refine wpAnyH_take (i := 7) (v := ?v11) (by simp only [List.getElem?_toArray, List.getElem?_cons_succ, List.getElem?_cons_zero]; exact rfl) (by kernel_rfl) (by kernel_rfl) (by kernel_rfl) (by intro _ _ _ h; exact h) (Or.inl ⟨by rfl, ?y11⟩) hHeld ?_
  case y11 => (intro w hSw; (try dsimp only at hSw); go_simp; try (with_reducible rfl))
  try simp only [Act.put, List.setIfInBounds_toArray, List.set_cons_zero, List.set_cons_succ]
  refine wpAnyH_take (i := 8) (v := ?v12) (by simp only [List.getElem?_toArray, List.getElem?_cons_succ, List.getElem?_cons_zero]; exact rfl) (by kernel_rfl) (by kernel_rfl) (by kernel_rfl) (by intro _ _ _ h; exact h) (Or.inl ⟨by rfl, ?y12⟩) hHeld ?_
  case y12 => (intro w hSw; (try dsimp only at hSw); go_simp; try (with_reducible rfl))
  try simp only [Act.put, List.setIfInBounds_toArray, List.set_cons_zero, List.set_cons_succ]
  refine wpAnyH_done (by kernel_rfl) ?_ _
  go_wp2
  go_ret
  exact ⟨ret_bool HNE.out, ((Drawn.refl w).drew.below _).trans hb1⟩
/-- The choice of pairs: any pair i < j whose set the test takes. -/
noncomputable def pairB (g : List (List Int)) (i : Nat) : Bool := (List.range g.length).any fun j => decide (i < j) && badB g i j
theorem pred_pair {g : List (List Int)} (hg : g.length ≤ 16) (i j : Nat) : predB g [(i : Int), (j : Int)] = badB g i j := (bad_mask hg i j).symm
set_option maxHeartbeats 2000000 in
theorem choose0_any {S : Nat → Prop} (b : Nat) (va : Option Addr) (vc : Nat) (g : List (List Int)) (i j : Nat) (k : Int) (w : World) (ht : Tab w) (hg : GOk g) (hij : i < j) (hj : j < g.length) (hv : SlI S w .u32 (.slice va g.length vc) (natsI (netsL g)))
    (hbx : w.cell? ⟨b, 0, none⟩ = some (.slice va g.length vc)) :
    Calls Tryd.prog 76 #[.int .i64 g.length, .int .i64 k, .int .i64 0, .int .u32 (maskL [(i : Int), (j : Int)]), .func (Fn.func 77) #[] #[.pointer (some ⟨b, 0, none⟩)]] w fun e w' => e = .returned (.bool (badB g i j)) ∧ Below w.heap.size w w' := by
  have hhi := hg.hi
  have hr : Rise [(i : Int), (j : Int)] g.length := sorted_rise (by simp; omega) (by simp; omega)
  have hp := Lib.hid (pred_pair hhi i j)
  go_enter Tryd.func76, Tryd.ntmps76
  go_wp2_with (go_at_call 77; refine (pred_any _ _ _ _ _ _ ht hg hr hv hbx).mono ?_; rintro e w1 ⟨rfl, hb1⟩)
  go_ret
  exact ⟨ret_bool hp.out, hb1⟩
theorem pairB_false {g : List (List Int)} {i k : Nat} (hk : g.length ≤ k) (h : ∀ j, i < j → j < k → badB g i j = false) : pairB g i = false := by
  unfold pairB
  rw [List.any_eq_false]
  intro j hj
  have hj := List.mem_range.1 hj
  by_cases hij : i < j
  · simp [h j hij (by omega)]
  · simp [hij]
theorem pairB_true {g : List (List Int)} {i j : Nat} (hj : j < g.length) (hij : i < j) (h : badB g i j = true) : pairB g i = true := by
  unfold pairB
  rw [List.any_eq_true]
  exact ⟨j, List.mem_range.2 hj, by simp [hij, h]⟩
set_option maxHeartbeats 2000000 in
theorem choose1_any {S : Nat → Prop} (b : Nat) (va : Option Addr) (vc : Nat) (g : List (List Int)) (i : Nat) (w : World) (ht : Tab w) (hg : GOk g) (hi : i < g.length) (hv : SlI S w .u32 (.slice va g.length vc) (natsI (netsL g)))
    (hbx : w.cell? ⟨b, 0, none⟩ = some (.slice va g.length vc)) :
    Calls Tryd.prog 76 #[.int .i64 g.length, .int .i64 ((i : Int) + 1), .int .i64 1, .int .u32 (maskL [(i : Int)]), .func (Fn.func 77) #[] #[.pointer (some ⟨b, 0, none⟩)]] w fun e w' => e = .returned (.bool (pairB g i)) ∧ Below w.heap.size w w' := by
  have hhi := hg.hi
  go_enter Tryd.func76, Tryd.ntmps76
  go_wp2
  go_loopw [11] (fun j wr => ∃ k : Nat, i + 1 ≤ k ∧ k ≤ g.length ∧ j = .int .i64 k ∧ (∀ j, i < j → j < k → badB g i j = false) ∧ Below w.heap.size w wr) (fun j _ => g.length - (intOf j).toNat)
  case atStart => exact ⟨i + 1, Nat.le_refl _, by omega, by go_num, fun j h1 h2 => by omega, Below.refl _ _⟩
  case round =>
    obtain ⟨k, hk1, hk2, rfl, hno, hq⟩ := hrel
    have hB := hq.size
    by_cases hlt : k < g.length
    · have hleb : decide ((k : Int) + 1 ≤ (g.length : Int)) = true := by simp; omega
      have hsn := maskL_snoc [(i : Int)] (k : Int)
      have hm1 := maskL_lt32 (l := [(i : Int)]) (by simp; omega)
      have hor := u32_or_nat (maskL [(i : Int)]) (bit k) hm1 (bit_lt (by omega))
      rw [Int.toNat_natCast] at hsn
      rw [← hsn] at hor
      have e1 : [(i : Int)] ++ [(k : Int)] = [(i : Int), (k : Int)] := rfl
      rw [e1] at hor
      clear hsn e1
      have hc0 := fun kk => choose0_any b va vc g i k kk wr (ht.below hq (Nat.le_refl _)) hg (by omega) hlt (hv.below hq (Nat.le_refl _)) ((hq.cell (cell_lt hbx)).trans hbx)
      by_cases hb : badB g i k = true
      · have hpt := Lib.hid (pairB_true hlt (by omega) hb)
        rw [hb] at hc0
        go_wp2_with (first
          | (go_at_call 62; refine (one_any _ _ (by omega) (by omega)).mono ?_; rintro e w' ⟨rfl, rfl⟩)
          | (go_at_call 76; refine (hc0 _).mono ?_; rintro e w2 ⟨rfl, hb2⟩))
        go_ret
        exact ⟨ret_bool hpt.out.symm, hq.trans (hb2.mono hB)⟩
      · have hb' : badB g i k = false := by simpa using hb
        rw [hb'] at hc0
        go_wp2_with (first
          | (go_at_call 62; refine (one_any _ _ (by omega) (by omega)).mono ?_; rintro e w' ⟨rfl, rfl⟩)
          | (go_at_call 76; refine (hc0 _).mono ?_; rintro e w2 ⟨rfl, hb2⟩))
        go_roundw
        case rel =>
          refine ⟨k + 1, by omega, by omega, by go_num, fun j h1 h2 => ?_, hq.trans (hb2.mono hB)⟩
          by_cases hjk : j = k
          · subst hjk; exact hb'
          · exact hno j h1 (by omega)
        case measure => simp [intOf]; omega
    · have hleb : decide ((k : Int) + 1 ≤ (g.length : Int)) = false := by simp; omega
      have hpf := Lib.hid (pairB_false (by omega) hno)
      clear hno
      go_wp2
      go_ret
      exact ⟨ret_bool hpf.out.symm, hq⟩
end Go.Proofs.YtakcoihndobmpaaDoor
