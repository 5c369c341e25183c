/- Trails: distinct vertices, each a neighbour of the next one; the program's walk. -/
import Derived.Test.YtgkkgagnoeedaaaDoorEarM
namespace Go.Proofs.YtgkkgagnoeedaaaDoor
open Go.RowKit
set_option maxHeartbeats 4000000 in
theorem part_any {B u x : Nat} {v : Value} {a : List Nat} {w : World} (hv : Own w B 82 1 v a.length ((natsI a).map (.int .u32))) (hal : ∀ m ∈ a, m < 4294967296) (hu : u < a.length) (hx : x < a.length) (h16 : a.length ≤ 16) :
    Calls Tryd.prog 185 #[v, .int .i64 (u : Int), .int .i64 (x : Int)] w fun e w' => e = .returned (.tuple #[]) ∧ Own w' B 82 1 v a.length ((natsI (cutN a u x)).map (.int .u32)) ∧ KeptBut w w' v.ownBlock := by
  obtain ⟨g, c, rfl⟩ := own_some hv (by omega)
  have hl1 := cutAt_len a u x
  have hm1l := nat_getD hal u
  have hal1 : ∀ m ∈ cutAt a u x, m < 4294967296 := nat_all hal (andN_lt32 hm1l)
  have hm2l := nat_getD hal1 x
  have hor1 : bits BinOp.andNot IntKind.u32 ((a.getD u 0 : Nat) : Int) (bit x : Int) = (andN (a.getD u 0) (bit x) : Int) := u32_andNot_nat _ _ hm1l (bit_lt (by omega))
  have hor2 : bits BinOp.andNot IntKind.u32 (((cutAt a u x).getD x 0 : Nat) : Int) (bit u : Int) = (andN ((cutAt a u x).getD x 0) (bit u) : Int) := u32_andNot_nat _ _ hm2l (bit_lt (by omega))
  have HC1 := fun (w' : World) (h : Own w' B 82 1 (.slice (some ⟨g, 0, none⟩) a.length c) a.length ((natsI a).map (.int .u32))) => own_nat h hu rfl
  have HC2 := fun (w' : World) (h : Own w' B 82 1 (.slice (some ⟨g, 0, none⟩) a.length c) a.length ((natsI (cutAt a u x)).map (.int .u32))) => own_nat h (by omega : x < _) hl1
  have HS1 := fun (w' : World) (h : Own w' B 82 1 (.slice (some ⟨g, 0, none⟩) a.length c) a.length ((natsI a).map (.int .u32))) => own_nat_set h u (andN (a.getD u 0) (bit x))
  have HS2 := fun (w' : World) (h : Own w' B 82 1 (.slice (some ⟨g, 0, none⟩) a.length c) a.length ((natsI (cutAt a u x)).map (.int .u32))) => own_nat_set h x (andN ((cutAt a u x).getD x 0) (bit u))
  have e1 : a.set u (andN (a.getD u 0) (bit x)) = cutAt a u x := rfl
  have e2 : (cutAt a u x).set x (andN ((cutAt a u x).getD x 0) (bit u)) = cutN a u x := rfl
  rw [e1] at HS1
  rw [e2] at HS2
  generalize a.getD u 0 = m1 at hm1l hor1 HC1 HS1
  generalize (cutAt a u x).getD x 0 = m2 at hm2l hor2 HC2 HS2
  clear e1 e2 hal hal1 hl1
  have c1 := HC1 _ hv
  go_enter Tryd.func185, Tryd.ntmps185
  go_wp2
  refine wp_region_late (S := (fun w' => w'.cell? ⟨g, u, none⟩ = some (.int .u32 (m1 : Int)))) (late := [8]) (by kernel_rfl) ?_ (fun hHeld => ?_)
  · first | assumption | (simp [*, go_sem])
  have hdw : Drawn w w.drew := (Drawn.refl _).drew
  generalize w.drew = wd at hdw hHeld ⊢
  have ownd := hv.drawn hdw
  have hf := World.ownsRow.frozenAt ownd u
  have c2 := HC1 _ ownd
  refine wpLate_take (i := 0) (v := ?v1) (by simp only [List.getElem?_toArray, List.getElem?_cons_zero]; exact rfl) (by kernel_rfl) (by kernel_rfl) (by kernel_rfl) (by intro _ _ _ h; exact h) (Or.inl ⟨by rfl, ?y1⟩) ?_
  case y1 => (intro w _; go_simp; try (with_reducible rfl))
  try simp only [Act.put, List.setIfInBounds_toArray, List.set_cons_zero, List.set_cons_succ]
  refine wpLate_take (i := 1) (v := ?v2) (by simp only [List.getElem?_toArray, List.getElem?_cons_succ, List.getElem?_cons_zero]; exact rfl) (by kernel_rfl) (by kernel_rfl) (by kernel_rfl) (by intro _ _ _ h; exact h) (Or.inl ⟨by rfl, ?y2⟩) ?_
  case y2 => (intro w _; go_simp; try (with_reducible rfl))
  try simp only [Act.put, List.setIfInBounds_toArray, List.set_cons_zero, List.set_cons_succ]
  refine wpLate_take (i := 2) (v := ?v3) (by simp only [List.getElem?_toArray, List.getElem?_cons_succ, List.getElem?_cons_zero]; exact rfl) (by kernel_rfl) (by kernel_rfl) (by kernel_rfl) (by intro _ _ _ h; exact h) (Or.inl ⟨by rfl, ?y3⟩) ?_
  case y3 => (intro w _; go_simp; try (with_reducible rfl))
  try simp only [Act.put, List.setIfInBounds_toArray, List.set_cons_zero, List.set_cons_succ]
  refine wpLate_load (i := 3) (v := ?v4) (by simp only [List.getElem?_toArray, List.getElem?_cons_succ, List.getElem?_cons_zero]; exact rfl) (by kernel_rfl) (by kernel_rfl) (by kernel_rfl) (by kernel_rfl) (by intro _ _ _ h; exact h) (Or.inl ⟨by rfl, ?y4⟩) hHeld ?_
  case y4 => (intro w hSw; (try dsimp only at hSw); go_simp; try (with_reducible rfl))
  try simp only [Act.put, List.setIfInBounds_toArray, List.set_cons_zero, List.set_cons_succ]
  refine wpLate_take (i := 4) (v := ?v5) (by simp only [List.getElem?_toArray, List.getElem?_cons_succ, List.getElem?_cons_zero]; exact rfl) (by kernel_rfl) (by kernel_rfl) (by kernel_rfl) (by intro _ _ _ h; exact h) (Or.inl ⟨by rfl, ?y5⟩) ?_
  case y5 => (intro w _; go_simp; try (with_reducible rfl))
  try simp only [Act.put, List.setIfInBounds_toArray, List.set_cons_zero, List.set_cons_succ]
  refine wpLate_one (i := 5) (by kernel_rfl) (by simp only [List.getElem?_toArray, List.getElem?_cons_succ, List.getElem?_cons_zero]; exact rfl) (by kernel_rfl) (fun K hK => ?_)
  go_simp
  refine (one_any _ _ (by omega) (by omega)).mono ?_
  rintro e w' ⟨rfl, rfl⟩
  try dsimp only
  refine hK.out _ _ ?h6 (fun hHeld => ?_)
  case h6 => first | assumption | (simp [*, go_sem])
  clear hK K
  try simp only [Act.put, List.setIfInBounds_toArray, List.set_cons_zero, List.set_cons_succ]
  refine wpLate_take (i := 6) (v := ?v7) (by simp only [List.getElem?_toArray, List.getElem?_cons_succ, List.getElem?_cons_zero]; exact rfl) (by kernel_rfl) (by kernel_rfl) (by kernel_rfl) (by intro _ _ _ h; exact h) (Or.inl ⟨by rfl, ?y7⟩) ?_
  case y7 => (intro w _; go_simp; try (with_reducible rfl))
  try simp only [Act.put, List.setIfInBounds_toArray, List.set_cons_zero, List.set_cons_succ]
  refine wpLate_take (i := 7) (v := ?v8) (by simp only [List.getElem?_toArray, List.getElem?_cons_succ, List.getElem?_cons_zero]; exact rfl) (by kernel_rfl) (by kernel_rfl) (by kernel_rfl) (by intro _ _ _ h; exact h) (Or.inl ⟨by rfl, ?y8⟩) ?_
  case y8 => (intro w _; go_simp; try (with_reducible rfl))
  try simp only [Act.put, List.setIfInBounds_toArray, List.set_cons_zero, List.set_cons_succ]
  refine wpLate_late (i := 8) (by kernel_rfl) (by simp only [List.getElem?_toArray, List.getElem?_cons_succ, List.getElem?_cons_zero]; exact rfl) (by kernel_rfl) (fun K hK => ?_)
  go_simp
  skip
  try dsimp only
  refine hK.out _ _ ?_
  clear hK K
  try simp only [Act.put, List.setIfInBounds_toArray, List.set_cons_zero, List.set_cons_succ]
  refine wpLate_done (by kernel_rfl) ?_ _
  have own1 := HS1 _ ownd
  have hk1 : KeptBut w (wd.setCell ⟨g, u, none⟩ (.int .u32 (andN m1 (bit x) : Int))) (some g) := (KeptBut.ofDrawn hdw _).trans (KeptBut.set _ _ _ _)
  clear c1 c2 hf hv ownd hdw hor1
  generalize wd.setCell ⟨g, u, none⟩ (.int .u32 (andN m1 (bit x) : Int)) = w1 at own1 hk1 ⊢
  have c1 := HC2 _ own1
  go_wp2
  refine wp_region_late (S := (fun w' => w'.cell? ⟨g, x, none⟩ = some (.int .u32 (m2 : Int)))) (late := [8]) (by kernel_rfl) ?_ (fun hHeld => ?_)
  · first | assumption | (simp [*, go_sem])
  have hdw : Drawn w1 w1.drew := (Drawn.refl _).drew
  generalize w1.drew = wd2 at hdw hHeld ⊢
  have ownd := own1.drawn hdw
  have hf := World.ownsRow.frozenAt ownd x
  have c2 := HC2 _ ownd
  refine wpLate_take (i := 0) (v := ?v10) (by simp only [List.getElem?_toArray, List.getElem?_cons_zero]; exact rfl) (by kernel_rfl) (by kernel_rfl) (by kernel_rfl) (by intro _ _ _ h; exact h) (Or.inl ⟨by rfl, ?y10⟩) ?_
  case y10 => (intro w _; go_simp; try (with_reducible rfl))
  try simp only [Act.put, List.setIfInBounds_toArray, List.set_cons_zero, List.set_cons_succ]
  refine wpLate_take (i := 1) (v := ?v11) (by simp only [List.getElem?_toArray, List.getElem?_cons_succ, List.getElem?_cons_zero]; exact rfl) (by kernel_rfl) (by kernel_rfl) (by kernel_rfl) (by intro _ _ _ h; exact h) (Or.inl ⟨by rfl, ?y11⟩) ?_
  case y11 => (intro w _; go_simp; try (with_reducible rfl))
  try simp only [Act.put, List.setIfInBounds_toArray, List.set_cons_zero, List.set_cons_succ]
  refine wpLate_take (i := 2) (v := ?v12) (by simp only [List.getElem?_toArray, List.getElem?_cons_succ, List.getElem?_cons_zero]; exact rfl) (by kernel_rfl) (by kernel_rfl) (by kernel_rfl) (by intro _ _ _ h; exact h) (Or.inl ⟨by rfl, ?y12⟩) ?_
  case y12 => (intro w _; go_simp; try (with_reducible rfl))
  try simp only [Act.put, List.setIfInBounds_toArray, List.set_cons_zero, List.set_cons_succ]
  refine wpLate_load (i := 3) (v := ?v13) (by simp only [List.getElem?_toArray, List.getElem?_cons_succ, List.getElem?_cons_zero]; exact rfl) (by kernel_rfl) (by kernel_rfl) (by kernel_rfl) (by kernel_rfl) (by intro _ _ _ h; exact h) (Or.inl ⟨by rfl, ?y13⟩) hHeld ?_
  case y13 => (intro w hSw; (try dsimp only at hSw); go_simp; try (with_reducible rfl))
  try simp only [Act.put, List.setIfInBounds_toArray, List.set_cons_zero, List.set_cons_succ]
  refine wpLate_take (i := 4) (v := ?v14) (by simp only [List.getElem?_toArray, List.getElem?_cons_succ, List.getElem?_cons_zero]; exact rfl) (by kernel_rfl) (by kernel_rfl) (by kernel_rfl) (by intro _ _ _ h; exact h) (Or.inl ⟨by rfl, ?y14⟩) ?_
  case y14 => (intro w _; go_simp; try (with_reducible rfl))
  try simp only [Act.put, List.setIfInBounds_toArray, List.set_cons_zero, List.set_cons_succ]
  refine wpLate_one (i := 5) (by kernel_rfl) (by simp only [List.getElem?_toArray, List.getElem?_cons_succ, List.getElem?_cons_zero]; exact rfl) (by kernel_rfl) (fun K hK => ?_)
  go_simp
  refine (one_any _ _ (by omega) (by omega)).mono ?_
  rintro e w' ⟨rfl, rfl⟩
  try dsimp only
  refine hK.out _ _ ?h15 (fun hHeld => ?_)
  case h15 => first | assumption | (simp [*, go_sem])
  clear hK K
  try simp only [Act.put, List.setIfInBounds_toArray, List.set_cons_zero, List.set_cons_succ]
  refine wpLate_take (i := 6) (v := ?v16) (by simp only [List.getElem?_toArray, List.getElem?_cons_succ, List.getElem?_cons_zero]; exact rfl) (by kernel_rfl) (by kernel_rfl) (by kernel_rfl) (by intro _ _ _ h; exact h) (Or.inl ⟨by rfl, ?y16⟩) ?_
  case y16 => (intro w _; go_simp; try (with_reducible rfl))
  try simp only [Act.put, List.setIfInBounds_toArray, List.set_cons_zero, List.set_cons_succ]
  refine wpLate_take (i := 7) (v := ?v17) (by simp only [List.getElem?_toArray, List.getElem?_cons_succ, List.getElem?_cons_zero]; exact rfl) (by kernel_rfl) (by kernel_rfl) (by kernel_rfl) (by intro _ _ _ h; exact h) (Or.inl ⟨by rfl, ?y17⟩) ?_
  case y17 => (intro w _; go_simp; try (with_reducible rfl))
  try simp only [Act.put, List.setIfInBounds_toArray, List.set_cons_zero, List.set_cons_succ]
  refine wpLate_late (i := 8) (by kernel_rfl) (by simp only [List.getElem?_toArray, List.getElem?_cons_succ, List.getElem?_cons_zero]; exact rfl) (by kernel_rfl) (fun K hK => ?_)
  go_simp
  skip
  try dsimp only
  refine hK.out _ _ ?_
  clear hK K
  try simp only [Act.put, List.setIfInBounds_toArray, List.set_cons_zero, List.set_cons_succ]
  refine wpLate_done (by kernel_rfl) ?_ _
  have own2 := HS2 _ ownd
  have hk2 : KeptBut w (wd2.setCell ⟨g, x, none⟩ (.int .u32 (andN m2 (bit u) : Int))) (some g) := (hk1.trans (KeptBut.ofDrawn hdw _)).trans (KeptBut.set _ _ _ _)
  clear c1 c2 hf own1 ownd hdw hk1
  go_wp2
  go_end0
  exact ⟨rfl, own2, hk2⟩
def tokB (g : List (List Int)) (p : List Int) (i : Nat) : Bool :=
  inB (p.getD i 0) 0 ((g.length : Int) - 1) && !decide (p.getD i 0 ∈ p.take i) && (decide (i = 0) || decide (p.getD (i - 1) 0 ∈ g.getD (p.getD i 0).toNat []))
def trailB (g : List (List Int)) (p : List Int) : Bool := (List.range p.length).all (tokB g p)
def TrailTo (g : List (List Int)) (p : List Int) (k : Nat) : Prop := ∀ i, i < k → tokB g p i = true
theorem trail_false {g : List (List Int)} {p : List Int} {k : Nat} (hk : k < p.length) (h : tokB g p k = false) : trailB g p = false := by
  cases hb : trailB g p with
  | false => rfl
  | true =>
    rw [trailB, List.all_eq_true] at hb
    have := hb k (List.mem_range.2 hk)
    rw [h] at this; cases this
theorem trail_true {g : List (List Int)} {p : List Int} (h : TrailTo g p p.length) : trailB g p = true := by
  rw [trailB, List.all_eq_true]
  exact fun i hi => h i (List.mem_range.1 hi)
theorem TrailTo.next {g : List (List Int)} {p : List Int} {k : Nat} (h : TrailTo g p k) (hk : tokB g p k = true) : TrailTo g p (k + 1) := fun i hi => by
  by_cases e : i = k
  · subst e; exact hk
  · exact h i (by omega)
theorem TrailTo.range {g : List (List Int)} {p : List Int} {k : Nat} (h : TrailTo g p k) : ∀ x ∈ p.take k, 0 ≤ x ∧ x < g.length := fun x hx => by
  obtain ⟨i, hi, rfl⟩ := List.getElem_of_mem hx
  rw [List.length_take] at hi
  have := h i (by omega)
  have hl : i < p.length := by omega
  have e : p.getD i 0 = p[i] := by simp [hl]
  simp only [tokB, e, Bool.and_eq_true, inB_iff] at this
  rw [List.getElem_take]
  exact this.1.1
theorem tok_at {g : List (List Int)} {p : List Int} {k x : Nat} (hk : k < p.length) (hx : p[k] = (x : Int)) (hxg : x < g.length) : tokB g p k = (!decide ((x : Int) ∈ p.take k) && (decide (k = 0) || decide (p.getD (k - 1) 0 ∈ g.getD x []))) := by
  have e : p.getD k 0 = (x : Int) := by simp [hk, hx]
  have hi : inB (x : Int) 0 ((g.length : Int) - 1) = true := inB_iff.2 ⟨by omega, by omega⟩
  rw [tokB, e, hi, Bool.true_and, Int.toNat_natCast]
set_option maxHeartbeats 2000000 in
theorem isTrail_any {S S' : Nat → Prop} {v u : Value} {g : List (List Int)} {p : List Int} {w : World} (hg : GOk g) (hv : SlR S w v g) (hu : SlI S' w .i64 u p) :
    Calls Tryd.prog 138 #[.agg #[v], u] w fun e w' => e = .returned (.bool (trailB g p)) ∧ Below w.heap.size w w' := by
  have h16 := hg.hi
  obtain ⟨a, b, off, cap, f, rfl, hl, ha, hc0⟩ := hv
  obtain ⟨ua, ub, uo, uc, rfl, hul, hua, hut⟩ := hu
  have hq0 : Below w.heap.size w (w.alloc (.cells #[.slice a g.length cap] 27)) := (Below.refl _ _).alloc (Nat.le_refl _) _
  have hw1 : IntKind.i64.wrap ((g.length : Int) - 1) = (g.length : Int) - 1 := IntWalk.i64_in _ (by omega)
  go_enter Tryd.func138, Tryd.ntmps138
  go_wp2
  go_loopw [5, 10] (fun s i wr => ∃ k : Nat, k ≤ p.length ∧ i = .int .i64 k ∧ s = .int .u32 (maskL (p.take k) : Int) ∧ TrailTo g p k ∧ Below w.heap.size w wr ∧ wr.cell? ⟨w.heap.size, 0, none⟩ = some (.slice a g.length cap)) (fun _ i _ => p.length - (intOf i).toNat)
  case atStart => exact ⟨0, Nat.zero_le _, rfl, by simp [maskL], fun _ h => by omega, hq0, by simp [go_sem]⟩
  case round =>
    clear hq0
    obtain ⟨k, hk, rfl, rfl, hT, hq, hcg⟩ := hrel
    obtain ⟨wi, rfl⟩ : ∃ wx : World, wx = wr := ⟨_, rfl⟩
    by_cases hlt : k < p.length
    case neg =>
      obtain rfl : k = p.length := by omega
      go_wp2
      go_ret
      exact ⟨ret_bool (trail_true hT).symm, hq⟩
    have hcp0 := hut k hlt
    obtain ⟨rfl, -⟩ := hua (by omega)
    have hcp := (hq.cell (p := ⟨ub, uo + k, none⟩) (cell_lt hcp0)).trans hcp0
    have HF := Lib.hid (trail_false (g := g) hlt)
    by_cases hin : 0 ≤ p[k] ∧ p[k] ≤ (g.length : Int) - 1
    case neg =>
      have hb := inB_false hin
      have HB := Lib.hid (show tokB g p k = false by
        have e : p.getD k 0 = p[k] := by simp [hlt]
        rw [tokB, e, hb]; rfl)
      generalize p[k] = x at *
      go_wp2
      go_quiet ((go_at_call 168; exact quiet_same (inRange_any _ _ _ _)))
      go_wp2
      go_ret
      exact ⟨ret_bool (HF.out HB.out).symm, hq.drewN' _⟩
    have HN := Lib.hid (fun h => hT.next h)
    have hmt := maskL_take hlt
    have hML : maskL (p.take k) < 4294967296 := maskL_lt32 fun x hx => by have := hT.range x hx; omega
    obtain ⟨x, hx⟩ := Int.eq_ofNat_of_zero_le hin.1
    have hxg : x < g.length := by omega
    have htk := tok_at hlt hx hxg
    have hb : inB (x : Int) 0 ((g.length : Int) - 1) = true := inB_iff.2 ⟨by omega, by omega⟩
    rw [hx] at hcp hmt hcp0
    rw [Int.toNat_natCast] at hmt
    have hbx : (maskL (p.take k)).testBit x = decide ((x : Int) ∈ p.take k) := testBit_maskL (fun y hy => (hT.range y hy).1) x
    clear hx hT hin
    generalize maskL (p.take k) = M at *
    by_cases hin2 : (x : Int) ∈ p.take k
    case pos =>
      rw [decide_eq_true hin2] at hbx htk
      have HB := Lib.hid (show tokB g p k = false by rw [htk]; rfl)
      clear htk hin2
      go_wp2
      go_quiet ((first | (go_at_call 168; exact quiet_same (inRange_any _ _ _ _)) | (go_at_call 107; exact quiet_same (has_any _ _ _ hML (by omega)))))
      go_wp2
      go_ret
      exact ⟨ret_bool (HF.out HB.out).symm, hq.drewN' _⟩
    rw [decide_eq_false hin2] at hbx htk
    have hor := u32_or_nat M (bit x) hML (bit_lt (by omega))
    have HM := Lib.hid hmt
    clear hin2 hmt
    by_cases h0 : 0 < k
    case neg =>
      obtain rfl : k = 0 := by omega
      rw [Nat.add_zero] at hcp
      have HB := Lib.hid (show tokB g p 0 = true by rw [htk]; rfl)
      clear htk
      go_wp2
      go_quiet ((first | (go_at_call 168; exact quiet_same (inRange_any _ _ _ _)) | (go_at_call 107; exact quiet_same (has_any _ _ _ hML (by omega)))))
      go_wp2_with (go_at_call 70; refine (one_any _ _ (by omega) (by omega)).mono ?_; rintro e w' ⟨rfl, rfl⟩)
      go_roundw
      case rel => exact ⟨1, by omega, by go_num, by rw [HM.out], HN.out HB.out, hq.drewN' _, hcg⟩
      case measure => simp [intOf]; omega
    have hk1 : decide ((0 : Int) < (k : Int)) = true := decide_eq_true (by omega)
    have hk2 : decide (0 < k) = true := decide_eq_true h0
    have hw3 : ((k : Int) - 1).toNat = k - 1 := by omega
    have hw4 : IntKind.i64.wrap ((k : Int) - 1) = (k : Int) - 1 := IntWalk.i64_in _ (by omega)
    have hw5 : (0 : Int) ≤ (k : Int) - 1 := by omega
    have hw6 : (k : Int) - 1 < p.length := by omega
    have hcy0 := hut (k - 1) (by omega)
    have hcy := (hq.cell (p := ⟨ub, uo + (k - 1), none⟩) (cell_lt hcy0)).trans hcy0
    obtain ⟨hcr0, hrow0⟩ := hc0 x hxg
    obtain ⟨rfl, -⟩ := ha (by omega)
    have hcr := (hq.cell (p := ⟨b, off + x, none⟩) (cell_lt hcr0)).trans hcr0
    have hrow := hrow0.below hq (Nat.le_refl _)
    have e1 : p.getD (k - 1) 0 = p[k - 1] := by simp; rw [List.getElem?_eq_getElem (by omega)]; rfl
    have e2 : g.getD x [] = g[x] := by simp [hxg]
    rw [e1, e2, decide_eq_false (show ¬ k = 0 by omega), Bool.not_false, Bool.true_and, Bool.false_or] at htk
    have hcont := fun (W : World) (h : SlI S W .i64 (f x) g[x]) => contains_any _ _ p[k - 1] W h
    rw [← htk] at hcont
    clear hcy0 hcr0 hrow0 e1 e2 htk
    generalize p[k - 1] = y at *
    generalize g[x] = row at *
    generalize f x = fx at *
    by_cases hb2 : tokB g p k = true
    case neg =>
      have hb3 : tokB g p k = false := by simpa using hb2
      have HB := Lib.hid hb3
      rw [hb3] at hcont
      clear hb2 hb3
      go_wp2
      go_quiet ((first | (go_at_call 168; exact quiet_same (inRange_any _ _ _ _)) | (go_at_call 107; exact quiet_same (has_any _ _ _ hML (by omega))) | (go_at_call 131; exact quiet_same (hcont _ (hrow.drewN _)))))
      go_wp2
      go_ret
      exact ⟨ret_bool (HF.out HB.out).symm, hq.drewN' _⟩
    have HB := Lib.hid hb2
    rw [hb2] at hcont
    clear hb2
    go_wp2
    go_quiet ((first | (go_at_call 168; exact quiet_same (inRange_any _ _ _ _)) | (go_at_call 107; exact quiet_same (has_any _ _ _ hML (by omega))) | (go_at_call 131; exact quiet_same (hcont _ (hrow.drewN _)))))
    go_wp2_with (go_at_call 70; refine (one_any _ _ (by omega) (by omega)).mono ?_; rintro e w' ⟨rfl, rfl⟩)
    go_roundw
    case rel => exact ⟨k + 1, by omega, by go_num, by rw [HM.out], HN.out HB.out, hq.drewN' _, hcg⟩
    case measure => simp [intOf]; omega
end Go.Proofs.YtgkkgagnoeedaaaDoor
