/- The program's part: two vertices made no neighbours. -/
import Derived.Test.YtklnjpdpinccoaaDoorEarM
namespace Go.Proofs.YtklnjpdpinccoaaDoor
open Go.RowKit
set_option maxHeartbeats 4000000 in
theorem part_any {B u x : Nat} {v : Value} {a : List Nat} {w : World} (hv : Own w B 66 1 v a.length ((natsI a).map (.int .u32))) (hal : ∀ m ∈ a, m < 4294967296) (hu : u < a.length) (hx : x < a.length) (h16 : a.length ≤ 16) :
    Calls Tryd.prog 99 #[v, .int .i64 (u : Int), .int .i64 (x : Int)] w fun e w' => e = .returned (.tuple #[]) ∧ Own w' B 66 1 v a.length ((natsI (cutN a u x)).map (.int .u32)) ∧ KeptBut w w' v.ownBlock := by
  obtain ⟨g, c, rfl⟩ := own_some hv (by omega)
  have hl1 := cutAt_len a u x
  have hm1l := nat_getD hal u
  have hal1 : ∀ m ∈ cutAt a u x, m < 4294967296 := nat_all hal (andN_lt32 hm1l)
  have hm2l := nat_getD hal1 x
  have hor1 : bits BinOp.andNot IntKind.u32 ((a.getD u 0 : Nat) : Int) (bit x : Int) = (andN (a.getD u 0) (bit x) : Int) := u32_andNot_nat _ _ hm1l (bit_lt (by omega))
  have hor2 : bits BinOp.andNot IntKind.u32 (((cutAt a u x).getD x 0 : Nat) : Int) (bit u : Int) = (andN ((cutAt a u x).getD x 0) (bit u) : Int) := u32_andNot_nat _ _ hm2l (bit_lt (by omega))
  have HC1 := fun (w' : World) (h : Own w' B 66 1 (.slice (some ⟨g, 0, none⟩) a.length c) a.length ((natsI a).map (.int .u32))) => own_nat h hu rfl
  have HC2 := fun (w' : World) (h : Own w' B 66 1 (.slice (some ⟨g, 0, none⟩) a.length c) a.length ((natsI (cutAt a u x)).map (.int .u32))) => own_nat h (by omega : x < _) hl1
  have HS1 := fun (w' : World) (h : Own w' B 66 1 (.slice (some ⟨g, 0, none⟩) a.length c) a.length ((natsI a).map (.int .u32))) => own_nat_set h u (andN (a.getD u 0) (bit x))
  have HS2 := fun (w' : World) (h : Own w' B 66 1 (.slice (some ⟨g, 0, none⟩) a.length c) a.length ((natsI (cutAt a u x)).map (.int .u32))) => own_nat_set h x (andN ((cutAt a u x).getD x 0) (bit u))
  have e1 : a.set u (andN (a.getD u 0) (bit x)) = cutAt a u x := rfl
  have e2 : (cutAt a u x).set x (andN ((cutAt a u x).getD x 0) (bit u)) = cutN a u x := rfl
  rw [e1] at HS1
  rw [e2] at HS2
  generalize a.getD u 0 = m1 at hm1l hor1 HC1 HS1
  generalize (cutAt a u x).getD x 0 = m2 at hm2l hor2 HC2 HS2
  clear e1 e2 hal hal1 hl1
  have c1 := HC1 _ hv
  go_enter Tryd.func99, Tryd.ntmps99
  go_wp2
  refine wp_region_late (S := (fun w' => w'.cell? ⟨g, u, none⟩ = some (.int .u32 (m1 : Int)))) (late := [8]) (by kernel_rfl) ?_ (fun hHeld => ?_)
  · first | assumption | (simp [*, go_sem])
  have hdw : Drawn w w.drew := (Drawn.refl _).drew
  generalize w.drew = wd at hdw hHeld ⊢
  have ownd := hv.drawn hdw
  have hf := World.ownsRow.frozenAt ownd u
  have c2 := HC1 _ ownd
  refine wpLate_take (i := 0) (v := ?v1) (by simp only [List.getElem?_toArray, List.getElem?_cons_zero]; exact rfl) (by kernel_rfl) (by kernel_rfl) (by kernel_rfl) (by intro _ _ _ h; exact h) (Or.inl ⟨by rfl, ?y1⟩) ?_
  case y1 => (intro w _; go_simp; try (with_reducible rfl))
  try simp only [Act.put, List.setIfInBounds_toArray, List.set_cons_zero, List.set_cons_succ]
  refine wpLate_take (i := 1) (v := ?v2) (by simp only [List.getElem?_toArray, List.getElem?_cons_succ, List.getElem?_cons_zero]; exact rfl) (by kernel_rfl) (by kernel_rfl) (by kernel_rfl) (by intro _ _ _ h; exact h) (Or.inl ⟨by rfl, ?y2⟩) ?_
  case y2 => (intro w _; go_simp; try (with_reducible rfl))
  try simp only [Act.put, List.setIfInBounds_toArray, List.set_cons_zero, List.set_cons_succ]
  refine wpLate_take (i := 2) (v := ?v3) (by simp only [List.getElem?_toArray, List.getElem?_cons_succ, List.getElem?_cons_zero]; exact rfl) (by kernel_rfl) (by kernel_rfl) (by kernel_rfl) (by intro _ _ _ h; exact h) (Or.inl ⟨by rfl, ?y3⟩) ?_
  case y3 => (intro w _; go_simp; try (with_reducible rfl))
  try simp only [Act.put, List.setIfInBounds_toArray, List.set_cons_zero, List.set_cons_succ]
  refine wpLate_load (i := 3) (v := ?v4) (by simp only [List.getElem?_toArray, List.getElem?_cons_succ, List.getElem?_cons_zero]; exact rfl) (by kernel_rfl) (by kernel_rfl) (by kernel_rfl) (by kernel_rfl) (by intro _ _ _ h; exact h) (Or.inl ⟨by rfl, ?y4⟩) hHeld ?_
  case y4 => (intro w hSw; (try dsimp only at hSw); go_simp; try (with_reducible rfl))
  try simp only [Act.put, List.setIfInBounds_toArray, List.set_cons_zero, List.set_cons_succ]
  refine wpLate_take (i := 4) (v := ?v5) (by simp only [List.getElem?_toArray, List.getElem?_cons_succ, List.getElem?_cons_zero]; exact rfl) (by kernel_rfl) (by kernel_rfl) (by kernel_rfl) (by intro _ _ _ h; exact h) (Or.inl ⟨by rfl, ?y5⟩) ?_
  case y5 => (intro w _; go_simp; try (with_reducible rfl))
  try simp only [Act.put, List.setIfInBounds_toArray, List.set_cons_zero, List.set_cons_succ]
  refine wpLate_one (i := 5) (by kernel_rfl) (by simp only [List.getElem?_toArray, List.getElem?_cons_succ, List.getElem?_cons_zero]; exact rfl) (by kernel_rfl) (fun K hK => ?_)
  go_simp
  refine (one_any _ _ (by omega) (by omega)).mono ?_
  rintro e w' ⟨rfl, rfl⟩
  try dsimp only
  refine hK.out _ _ ?h6 (fun hHeld => ?_)
  case h6 => first | assumption | (simp [*, go_sem])
  clear hK K
  try simp only [Act.put, List.setIfInBounds_toArray, List.set_cons_zero, List.set_cons_succ]
  refine wpLate_take (i := 6) (v := ?v7) (by simp only [List.getElem?_toArray, List.getElem?_cons_succ, List.getElem?_cons_zero]; exact rfl) (by kernel_rfl) (by kernel_rfl) (by kernel_rfl) (by intro _ _ _ h; exact h) (Or.inl ⟨by rfl, ?y7⟩) ?_
  case y7 => (intro w _; go_simp; try (with_reducible rfl))
  try simp only [Act.put, List.setIfInBounds_toArray, List.set_cons_zero, List.set_cons_succ]
  refine wpLate_take (i := 7) (v := ?v8) (by simp only [List.getElem?_toArray, List.getElem?_cons_succ, List.getElem?_cons_zero]; exact rfl) (by kernel_rfl) (by kernel_rfl) (by kernel_rfl) (by intro _ _ _ h; exact h) (Or.inl ⟨by rfl, ?y8⟩) ?_
  case y8 => (intro w _; go_simp; try (with_reducible rfl))
  try simp only [Act.put, List.setIfInBounds_toArray, List.set_cons_zero, List.set_cons_succ]
  refine wpLate_late (i := 8) (by kernel_rfl) (by simp only [List.getElem?_toArray, List.getElem?_cons_succ, List.getElem?_cons_zero]; exact rfl) (by kernel_rfl) (fun K hK => ?_)
  go_simp
  skip
  try dsimp only
  refine hK.out _ _ ?_
  clear hK K
  try simp only [Act.put, List.setIfInBounds_toArray, List.set_cons_zero, List.set_cons_succ]
  refine wpLate_done (by kernel_rfl) ?_ _
  have own1 := HS1 _ ownd
  have hk1 : KeptBut w (wd.setCell ⟨g, u, none⟩ (.int .u32 (andN m1 (bit x) : Int))) (some g) := (KeptBut.ofDrawn hdw _).trans (KeptBut.set _ _ _ _)
  clear c1 c2 hf hv ownd hdw hor1
  generalize wd.setCell ⟨g, u, none⟩ (.int .u32 (andN m1 (bit x) : Int)) = w1 at own1 hk1 ⊢
  have c1 := HC2 _ own1
  go_wp2
  refine wp_region_late (S := (fun w' => w'.cell? ⟨g, x, none⟩ = some (.int .u32 (m2 : Int)))) (late := [8]) (by kernel_rfl) ?_ (fun hHeld => ?_)
  · first | assumption | (simp [*, go_sem])
  have hdw : Drawn w1 w1.drew := (Drawn.refl _).drew
  generalize w1.drew = wd2 at hdw hHeld ⊢
  have ownd := own1.drawn hdw
  have hf := World.ownsRow.frozenAt ownd x
  have c2 := HC2 _ ownd
  refine wpLate_take (i := 0) (v := ?v10) (by simp only [List.getElem?_toArray, List.getElem?_cons_zero]; exact rfl) (by kernel_rfl) (by kernel_rfl) (by kernel_rfl) (by intro _ _ _ h; exact h) (Or.inl ⟨by rfl, ?y10⟩) ?_
  case y10 => (intro w _; go_simp; try (with_reducible rfl))
  try simp only [Act.put, List.setIfInBounds_toArray, List.set_cons_zero, List.set_cons_succ]
  refine wpLate_take (i := 1) (v := ?v11) (by simp only [List.getElem?_toArray, List.getElem?_cons_succ, List.getElem?_cons_zero]; exact rfl) (by kernel_rfl) (by kernel_rfl) (by kernel_rfl) (by intro _ _ _ h; exact h) (Or.inl ⟨by rfl, ?y11⟩) ?_
  case y11 => (intro w _; go_simp; try (with_reducible rfl))
  try simp only [Act.put, List.setIfInBounds_toArray, List.set_cons_zero, List.set_cons_succ]
  refine wpLate_take (i := 2) (v := ?v12) (by simp only [List.getElem?_toArray, List.getElem?_cons_succ, List.getElem?_cons_zero]; exact rfl) (by kernel_rfl) (by kernel_rfl) (by kernel_rfl) (by intro _ _ _ h; exact h) (Or.inl ⟨by rfl, ?y12⟩) ?_
  case y12 => (intro w _; go_simp; try (with_reducible rfl))
  try simp only [Act.put, List.setIfInBounds_toArray, List.set_cons_zero, List.set_cons_succ]
  refine wpLate_load (i := 3) (v := ?v13) (by simp only [List.getElem?_toArray, List.getElem?_cons_succ, List.getElem?_cons_zero]; exact rfl) (by kernel_rfl) (by kernel_rfl) (by kernel_rfl) (by kernel_rfl) (by intro _ _ _ h; exact h) (Or.inl ⟨by rfl, ?y13⟩) hHeld ?_
  case y13 => (intro w hSw; (try dsimp only at hSw); go_simp; try (with_reducible rfl))
  try simp only [Act.put, List.setIfInBounds_toArray, List.set_cons_zero, List.set_cons_succ]
  refine wpLate_take (i := 4) (v := ?v14) (by simp only [List.getElem?_toArray, List.getElem?_cons_succ, List.getElem?_cons_zero]; exact rfl) (by kernel_rfl) (by kernel_rfl) (by kernel_rfl) (by intro _ _ _ h; exact h) (Or.inl ⟨by rfl, ?y14⟩) ?_
  case y14 => (intro w _; go_simp; try (with_reducible rfl))
  try simp only [Act.put, List.setIfInBounds_toArray, List.set_cons_zero, List.set_cons_succ]
  refine wpLate_one (i := 5) (by kernel_rfl) (by simp only [List.getElem?_toArray, List.getElem?_cons_succ, List.getElem?_cons_zero]; exact rfl) (by kernel_rfl) (fun K hK => ?_)
  go_simp
  refine (one_any _ _ (by omega) (by omega)).mono ?_
  rintro e w' ⟨rfl, rfl⟩
  try dsimp only
  refine hK.out _ _ ?h15 (fun hHeld => ?_)
  case h15 => first | assumption | (simp [*, go_sem])
  clear hK K
  try simp only [Act.put, List.setIfInBounds_toArray, List.set_cons_zero, List.set_cons_succ]
  refine wpLate_take (i := 6) (v := ?v16) (by simp only [List.getElem?_toArray, List.getElem?_cons_succ, List.getElem?_cons_zero]; exact rfl) (by kernel_rfl) (by kernel_rfl) (by kernel_rfl) (by intro _ _ _ h; exact h) (Or.inl ⟨by rfl, ?y16⟩) ?_
  case y16 => (intro w _; go_simp; try (with_reducible rfl))
  try simp only [Act.put, List.setIfInBounds_toArray, List.set_cons_zero, List.set_cons_succ]
  refine wpLate_take (i := 7) (v := ?v17) (by simp only [List.getElem?_toArray, List.getElem?_cons_succ, List.getElem?_cons_zero]; exact rfl) (by kernel_rfl) (by kernel_rfl) (by kernel_rfl) (by intro _ _ _ h; exact h) (Or.inl ⟨by rfl, ?y17⟩) ?_
  case y17 => (intro w _; go_simp; try (with_reducible rfl))
  try simp only [Act.put, List.setIfInBounds_toArray, List.set_cons_zero, List.set_cons_succ]
  refine wpLate_late (i := 8) (by kernel_rfl) (by simp only [List.getElem?_toArray, List.getElem?_cons_succ, List.getElem?_cons_zero]; exact rfl) (by kernel_rfl) (fun K hK => ?_)
  go_simp
  skip
  try dsimp only
  refine hK.out _ _ ?_
  clear hK K
  try simp only [Act.put, List.setIfInBounds_toArray, List.set_cons_zero, List.set_cons_succ]
  refine wpLate_done (by kernel_rfl) ?_ _
  have own2 := HS2 _ ownd
  have hk2 : KeptBut w (wd2.setCell ⟨g, x, none⟩ (.int .u32 (andN m2 (bit u) : Int))) (some g) := (hk1.trans (KeptBut.ofDrawn hdw _)).trans (KeptBut.set _ _ _ _)
  clear c1 c2 hf own1 ownd hdw hk1
  go_wp2
  go_end0
  exact ⟨rfl, own2, hk2⟩
end Go.Proofs.YtklnjpdpinccoaaDoor
