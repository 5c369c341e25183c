/- Two vertices joined in an own slice of sets; the path of four as a graph. -/
import Derived.Test.YtplohdnakllbiaaDoorFitM
import Derived.Test.YtplohdnakllbiaaDoorHeld
namespace Go.Proofs.YtplohdnakllbiaaDoor
open Go.RowKit
def orAt (a : List Nat) (u x : Nat) : List Nat := a.set u (a.getD u 0 ||| bit x)
def joinN (a : List Nat) (u x : Nat) : List Nat := orAt (orAt a u x) x u
theorem orAt_len (a : List Nat) (u x : Nat) : (orAt a u x).length = a.length := by simp [orAt]
theorem joinN_len (a : List Nat) (u x : Nat) : (joinN a u x).length = a.length := by simp [joinN, orAt_len]
theorem natsI_set (a : List Nat) (u m : Nat) : (natsI a).set u (m : Int) = natsI (a.set u m) := by simp [natsI, List.map_set]
theorem own_nat {w : World} {B g n c u : Nat} {E : TypeId} {k : IntKind} {a : List Nat} (h : Own w B E 1 (.slice (some ⟨g, 0, none⟩) n c) n ((natsI a).map (.int k))) (hu : u < a.length) (hn : a.length = n) :
    w.cell? ⟨g, u, none⟩ = some (.int k ((a.getD u 0 : Nat) : Int)) :=
  (World.ownsRow.cellAt h u (by omega)).trans (by simp [natsI, hu])
theorem own_nat_set {w : World} {B g n c : Nat} {E : TypeId} {k : IntKind} {a : List Nat} (h : Own w B E 1 (.slice (some ⟨g, 0, none⟩) n c) n ((natsI a).map (.int k))) (u m : Nat) :
    Own (w.setCell ⟨g, u, none⟩ (.int k (m : Int))) B E 1 (.slice (some ⟨g, 0, none⟩) n c) n ((natsI (a.set u m)).map (.int k)) := by
  have := h.stored u (.int k (m : Int))
  rw [← List.map_set, natsI_set] at this; exact this
theorem own_some {w : World} {B : Nat} {E : TypeId} {size : Nat} {v : Value} {n : Nat} {xs : List Value} (h : Own w B E size v n xs) (hn : 0 < n) : ∃ g c, v = .slice (some ⟨g, 0, none⟩) n c := by
  rcases h.2 with ⟨rfl, rfl⟩ | ⟨g, cap, cur, rfl, _⟩
  · omega
  · exact ⟨g, cap, rfl⟩
theorem KeptBut.refl (w : World) (r : Option Nat) : KeptBut w w r := ⟨rfl, rfl, rfl, Nat.le_refl _, fun _ _ _ => rfl⟩
theorem KeptBut.trans {a b c : World} {r : Option Nat} (h : KeptBut a b r) (k : KeptBut b c r) : KeptBut a c r :=
  ⟨k.1.trans h.1, k.2.1.trans h.2.1, k.2.2.1.trans h.2.2.1, Nat.le_trans h.2.2.2.1 k.2.2.2.1, fun i hi hr => (k.2.2.2.2 i (Nat.lt_of_lt_of_le hi h.2.2.2.1) hr).trans (h.2.2.2.2 i hi hr)⟩
theorem KeptBut.ofDrawn {a b : World} (h : Drawn a b) (r : Option Nat) : KeptBut a b r := by obtain ⟨m, rfl⟩ := h; exact ⟨rfl, rfl, rfl, Nat.le_refl _, fun _ _ _ => rfl⟩
theorem KeptBut.set (w : World) (g j : Nat) (u : Value) : KeptBut w (w.setCell ⟨g, j, none⟩ u) (some g) :=
  ⟨rfl, rfl, rfl, by simp, fun k _ hk => Below.heap_setCell _ _ _ _ (fun e => hk (by simp at e; rw [e]))⟩
theorem nat_all {a : List Nat} {u m : Nat} (h : ∀ x ∈ a, x < 4294967296) (hm : m < 4294967296) : ∀ x ∈ a.set u m, x < 4294967296 := fun x hx => by
  rcases List.mem_or_eq_of_mem_set hx with h1 | h1
  · exact h x h1
  · omega
theorem nat_getD {a : List Nat} (h : ∀ x ∈ a, x < 4294967296) (u : Nat) : a.getD u 0 < 4294967296 := by
  by_cases hu : u < a.length
  · have : a.getD u 0 = a[u] := by simp [hu]
    rw [this]; exact h _ (List.getElem_mem _)
  · have : a.getD u 0 = 0 := by simp [List.getElem?_eq_none (show a.length ≤ u by omega)]
    omega
theorem or_lt32 {a b : Nat} (ha : a < 4294967296) (hb : b < 4294967296) : a ||| b < 4294967296 := Nat.or_lt_two_pow (n := 32) ha hb
theorem joinN_lt {a : List Nat} {u x : Nat} (h : ∀ m ∈ a, m < 4294967296) (hu : u < 32) (hx : x < 32) : ∀ m ∈ joinN a u x, m < 4294967296 := by
  have h1 : ∀ m ∈ orAt a u x, m < 4294967296 := nat_all h (or_lt32 (nat_getD h u) (bit_lt hx))
  exact nat_all h1 (or_lt32 (nat_getD h1 x) (bit_lt hu))
set_option maxHeartbeats 4000000 in
theorem join_any {B u x : Nat} {v : Value} {a : List Nat} {w : World} (hv : Own w B 66 1 v a.length ((natsI a).map (.int .u32))) (hal : ∀ m ∈ a, m < 4294967296) (hu : u < a.length) (hx : x < a.length) (h16 : a.length ≤ 16) :
    Calls Tryd.prog 142 #[v, .int .i64 (u : Int), .int .i64 (x : Int)] w fun e w' => e = .returned (.tuple #[]) ∧ Own w' B 66 1 v a.length ((natsI (joinN a u x)).map (.int .u32)) ∧ KeptBut w w' v.ownBlock := by
  obtain ⟨g, c, rfl⟩ := own_some hv (by omega)
  have hl1 := orAt_len a u x
  have hm1l := nat_getD hal u
  have hal1 : ∀ m ∈ orAt a u x, m < 4294967296 := nat_all hal (or_lt32 hm1l (bit_lt (by omega)))
  have hm2l := nat_getD hal1 x
  have hor1 := u32_or_nat (a.getD u 0) (bit x) hm1l (bit_lt (by omega))
  have hor2 := u32_or_nat ((orAt a u x).getD x 0) (bit u) hm2l (bit_lt (by omega))
  have HC1 := fun (w' : World) (h : Own w' B 66 1 (.slice (some ⟨g, 0, none⟩) a.length c) a.length ((natsI a).map (.int .u32))) => own_nat h hu rfl
  have HC2 := fun (w' : World) (h : Own w' B 66 1 (.slice (some ⟨g, 0, none⟩) a.length c) a.length ((natsI (orAt a u x)).map (.int .u32))) => own_nat h (by omega : x < _) hl1
  have HS1 := fun (w' : World) (h : Own w' B 66 1 (.slice (some ⟨g, 0, none⟩) a.length c) a.length ((natsI a).map (.int .u32))) => own_nat_set h u (a.getD u 0 ||| bit x)
  have HS2 := fun (w' : World) (h : Own w' B 66 1 (.slice (some ⟨g, 0, none⟩) a.length c) a.length ((natsI (orAt a u x)).map (.int .u32))) => own_nat_set h x ((orAt a u x).getD x 0 ||| bit u)
  have e1 : a.set u (a.getD u 0 ||| bit x) = orAt a u x := rfl
  have e2 : (orAt a u x).set x ((orAt a u x).getD x 0 ||| bit u) = joinN a u x := rfl
  rw [e1] at HS1
  rw [e2] at HS2
  generalize a.getD u 0 = m1 at hm1l hor1 HC1 HS1
  generalize (orAt a u x).getD x 0 = m2 at hm2l hor2 HC2 HS2
  clear e1 e2 hal hal1 hl1
  have c1 := HC1 _ hv
  go_enter Tryd.func142, Tryd.ntmps142
  go_wp2
  refine wp_region_late (S := (fun w' => w'.cell? ⟨g, u, none⟩ = some (.int .u32 (m1 : Int)))) (late := [8]) (by kernel_rfl) ?_ (fun hHeld => ?_)
  · first | assumption | (simp [*, go_sem])
  have hdw : Drawn w w.drew := (Drawn.refl _).drew
  generalize w.drew = wd at hdw hHeld ⊢
  have ownd := hv.drawn hdw
  have hf := World.ownsRow.frozenAt ownd u
  have c2 := HC1 _ ownd
  refine wpLate_take (i := 0) (v := ?v1) (by simp only [List.getElem?_toArray, List.getElem?_cons_zero]; exact rfl) (by kernel_rfl) (by kernel_rfl) (by kernel_rfl) (by intro _ _ _ h; exact h) (Or.inl ⟨by rfl, ?y1⟩) ?_
  case y1 => (intro w _; go_simp; try (with_reducible rfl))
  try simp only [Act.put, List.setIfInBounds_toArray, List.set_cons_zero, List.set_cons_succ]
  refine wpLate_take (i := 1) (v := ?v2) (by simp only [List.getElem?_toArray, List.getElem?_cons_succ, List.getElem?_cons_zero]; exact rfl) (by kernel_rfl) (by kernel_rfl) (by kernel_rfl) (by intro _ _ _ h; exact h) (Or.inl ⟨by rfl, ?y2⟩) ?_
  case y2 => (intro w _; go_simp; try (with_reducible rfl))
  try simp only [Act.put, List.setIfInBounds_toArray, List.set_cons_zero, List.set_cons_succ]
  refine wpLate_take (i := 2) (v := ?v3) (by simp only [List.getElem?_toArray, List.getElem?_cons_succ, List.getElem?_cons_zero]; exact rfl) (by kernel_rfl) (by kernel_rfl) (by kernel_rfl) (by intro _ _ _ h; exact h) (Or.inl ⟨by rfl, ?y3⟩) ?_
  case y3 => (intro w _; go_simp; try (with_reducible rfl))
  try simp only [Act.put, List.setIfInBounds_toArray, List.set_cons_zero, List.set_cons_succ]
  refine wpLate_load (i := 3) (v := ?v4) (by simp only [List.getElem?_toArray, List.getElem?_cons_succ, List.getElem?_cons_zero]; exact rfl) (by kernel_rfl) (by kernel_rfl) (by kernel_rfl) (by kernel_rfl) (by intro _ _ _ h; exact h) (Or.inl ⟨by rfl, ?y4⟩) hHeld ?_
  case y4 => (intro w hSw; (try dsimp only at hSw); go_simp; try (with_reducible rfl))
  try simp only [Act.put, List.setIfInBounds_toArray, List.set_cons_zero, List.set_cons_succ]
  refine wpLate_take (i := 4) (v := ?v5) (by simp only [List.getElem?_toArray, List.getElem?_cons_succ, List.getElem?_cons_zero]; exact rfl) (by kernel_rfl) (by kernel_rfl) (by kernel_rfl) (by intro _ _ _ h; exact h) (Or.inl ⟨by rfl, ?y5⟩) ?_
  case y5 => (intro w _; go_simp; try (with_reducible rfl))
  try simp only [Act.put, List.setIfInBounds_toArray, List.set_cons_zero, List.set_cons_succ]
  refine wpLate_one (i := 5) (by kernel_rfl) (by simp only [List.getElem?_toArray, List.getElem?_cons_succ, List.getElem?_cons_zero]; exact rfl) (by kernel_rfl) (fun K hK => ?_)
  go_simp
  refine (one_any _ _ (by omega) (by omega)).mono ?_
  rintro e w' ⟨rfl, rfl⟩
  try dsimp only
  refine hK.out _ _ ?h6 (fun hHeld => ?_)
  case h6 => first | assumption | (simp [*, go_sem])
  clear hK K
  try simp only [Act.put, List.setIfInBounds_toArray, List.set_cons_zero, List.set_cons_succ]
  refine wpLate_take (i := 6) (v := ?v7) (by simp only [List.getElem?_toArray, List.getElem?_cons_succ, List.getElem?_cons_zero]; exact rfl) (by kernel_rfl) (by kernel_rfl) (by kernel_rfl) (by intro _ _ _ h; exact h) (Or.inl ⟨by rfl, ?y7⟩) ?_
  case y7 => (intro w _; go_simp; try (with_reducible rfl))
  try simp only [Act.put, List.setIfInBounds_toArray, List.set_cons_zero, List.set_cons_succ]
  refine wpLate_take (i := 7) (v := ?v8) (by simp only [List.getElem?_toArray, List.getElem?_cons_succ, List.getElem?_cons_zero]; exact rfl) (by kernel_rfl) (by kernel_rfl) (by kernel_rfl) (by intro _ _ _ h; exact h) (Or.inl ⟨by rfl, ?y8⟩) ?_
  case y8 => (intro w _; go_simp; try (with_reducible rfl))
  try simp only [Act.put, List.setIfInBounds_toArray, List.set_cons_zero, List.set_cons_succ]
  refine wpLate_late (i := 8) (by kernel_rfl) (by simp only [List.getElem?_toArray, List.getElem?_cons_succ, List.getElem?_cons_zero]; exact rfl) (by kernel_rfl) (fun K hK => ?_)
  go_simp
  skip
  try dsimp only
  refine hK.out _ _ ?_
  clear hK K
  try simp only [Act.put, List.setIfInBounds_toArray, List.set_cons_zero, List.set_cons_succ]
  refine wpLate_done (by kernel_rfl) ?_ _
  have own1 := HS1 _ ownd
  have hk1 : KeptBut w (wd.setCell ⟨g, u, none⟩ (.int .u32 ((m1 ||| bit x : Nat) : Int))) (some g) := (KeptBut.ofDrawn hdw _).trans (KeptBut.set _ _ _ _)
  clear c1 c2 hf hv ownd hdw hor1
  generalize wd.setCell ⟨g, u, none⟩ (.int .u32 ((m1 ||| bit x : Nat) : Int)) = w1 at own1 hk1 ⊢
  have c1 := HC2 _ own1
  go_wp2
  refine wp_region_late (S := (fun w' => w'.cell? ⟨g, x, none⟩ = some (.int .u32 (m2 : Int)))) (late := [8]) (by kernel_rfl) ?_ (fun hHeld => ?_)
  · first | assumption | (simp [*, go_sem])
  have hdw : Drawn w1 w1.drew := (Drawn.refl _).drew
  generalize w1.drew = wd2 at hdw hHeld ⊢
  have ownd := own1.drawn hdw
  have hf := World.ownsRow.frozenAt ownd x
  have c2 := HC2 _ ownd
  refine wpLate_take (i := 0) (v := ?v10) (by simp only [List.getElem?_toArray, List.getElem?_cons_zero]; exact rfl) (by kernel_rfl) (by kernel_rfl) (by kernel_rfl) (by intro _ _ _ h; exact h) (Or.inl ⟨by rfl, ?y10⟩) ?_
  case y10 => (intro w _; go_simp; try (with_reducible rfl))
  try simp only [Act.put, List.setIfInBounds_toArray, List.set_cons_zero, List.set_cons_succ]
  refine wpLate_take (i := 1) (v := ?v11) (by simp only [List.getElem?_toArray, List.getElem?_cons_succ, List.getElem?_cons_zero]; exact rfl) (by kernel_rfl) (by kernel_rfl) (by kernel_rfl) (by intro _ _ _ h; exact h) (Or.inl ⟨by rfl, ?y11⟩) ?_
  case y11 => (intro w _; go_simp; try (with_reducible rfl))
  try simp only [Act.put, List.setIfInBounds_toArray, List.set_cons_zero, List.set_cons_succ]
  refine wpLate_take (i := 2) (v := ?v12) (by simp only [List.getElem?_toArray, List.getElem?_cons_succ, List.getElem?_cons_zero]; exact rfl) (by kernel_rfl) (by kernel_rfl) (by kernel_rfl) (by intro _ _ _ h; exact h) (Or.inl ⟨by rfl, ?y12⟩) ?_
  case y12 => (intro w _; go_simp; try (with_reducible rfl))
  try simp only [Act.put, List.setIfInBounds_toArray, List.set_cons_zero, List.set_cons_succ]
  refine wpLate_load (i := 3) (v := ?v13) (by simp only [List.getElem?_toArray, List.getElem?_cons_succ, List.getElem?_cons_zero]; exact rfl) (by kernel_rfl) (by kernel_rfl) (by kernel_rfl) (by kernel_rfl) (by intro _ _ _ h; exact h) (Or.inl ⟨by rfl, ?y13⟩) hHeld ?_
  case y13 => (intro w hSw; (try dsimp only at hSw); go_simp; try (with_reducible rfl))
  try simp only [Act.put, List.setIfInBounds_toArray, List.set_cons_zero, List.set_cons_succ]
  refine wpLate_take (i := 4) (v := ?v14) (by simp only [List.getElem?_toArray, List.getElem?_cons_succ, List.getElem?_cons_zero]; exact rfl) (by kernel_rfl) (by kernel_rfl) (by kernel_rfl) (by intro _ _ _ h; exact h) (Or.inl ⟨by rfl, ?y14⟩) ?_
  case y14 => (intro w _; go_simp; try (with_reducible rfl))
  try simp only [Act.put, List.setIfInBounds_toArray, List.set_cons_zero, List.set_cons_succ]
  refine wpLate_one (i := 5) (by kernel_rfl) (by simp only [List.getElem?_toArray, List.getElem?_cons_succ, List.getElem?_cons_zero]; exact rfl) (by kernel_rfl) (fun K hK => ?_)
  go_simp
  refine (one_any _ _ (by omega) (by omega)).mono ?_
  rintro e w' ⟨rfl, rfl⟩
  try dsimp only
  refine hK.out _ _ ?h15 (fun hHeld => ?_)
  case h15 => first | assumption | (simp [*, go_sem])
  clear hK K
  try simp only [Act.put, List.setIfInBounds_toArray, List.set_cons_zero, List.set_cons_succ]
  refine wpLate_take (i := 6) (v := ?v16) (by simp only [List.getElem?_toArray, List.getElem?_cons_succ, List.getElem?_cons_zero]; exact rfl) (by kernel_rfl) (by kernel_rfl) (by kernel_rfl) (by intro _ _ _ h; exact h) (Or.inl ⟨by rfl, ?y16⟩) ?_
  case y16 => (intro w _; go_simp; try (with_reducible rfl))
  try simp only [Act.put, List.setIfInBounds_toArray, List.set_cons_zero, List.set_cons_succ]
  refine wpLate_take (i := 7) (v := ?v17) (by simp only [List.getElem?_toArray, List.getElem?_cons_succ, List.getElem?_cons_zero]; exact rfl) (by kernel_rfl) (by kernel_rfl) (by kernel_rfl) (by intro _ _ _ h; exact h) (Or.inl ⟨by rfl, ?y17⟩) ?_
  case y17 => (intro w _; go_simp; try (with_reducible rfl))
  try simp only [Act.put, List.setIfInBounds_toArray, List.set_cons_zero, List.set_cons_succ]
  refine wpLate_late (i := 8) (by kernel_rfl) (by simp only [List.getElem?_toArray, List.getElem?_cons_succ, List.getElem?_cons_zero]; exact rfl) (by kernel_rfl) (fun K hK => ?_)
  go_simp
  skip
  try dsimp only
  refine hK.out _ _ ?_
  clear hK K
  try simp only [Act.put, List.setIfInBounds_toArray, List.set_cons_zero, List.set_cons_succ]
  refine wpLate_done (by kernel_rfl) ?_ _
  have own2 := HS2 _ ownd
  have hk2 : KeptBut w (wd2.setCell ⟨g, x, none⟩ (.int .u32 ((m2 ||| bit u : Nat) : Int))) (some g) := (hk1.trans (KeptBut.ofDrawn hdw _)).trans (KeptBut.set _ _ _ _)
  clear c1 c2 hf own1 ownd hdw hk1
  go_wp2
  go_end0
  exact ⟨rfl, own2, hk2⟩
def p4 : Nat → List Nat | 0 => [0, 0, 0, 0] | 1 => [0, 0, 0, 0] | 2 => [2, 1, 0, 0] | 3 => [2, 5, 2, 0] | _ => [2, 5, 10, 4]
theorem p4_len (k : Nat) : (p4 k).length = 4 := by
  match k with
  | 0 => rfl
  | 1 => rfl
  | 2 => rfl
  | 3 => rfl
  | _ + 4 => rfl
theorem p4_lt (k : Nat) : ∀ m ∈ p4 k, m < 4294967296 := by
  match k with
  | 0 => decide
  | 1 => decide
  | 2 => decide
  | 3 => decide
  | _ + 4 => show ∀ m ∈ [2, 5, 10, 4], m < 4294967296; decide
theorem p4_join {k : Nat} (h1 : 1 ≤ k) (h2 : k < 4) : joinN (p4 k) (k - 1) k = p4 (k + 1) := by
  match k with
  | 0 => omega
  | 1 => decide
  | 2 => decide
  | 3 => decide
  | _ + 4 => omega
set_option maxHeartbeats 1000000 in
theorem pathNets_any {w : World} : Calls Tryd.prog 89 #[.int .i64 4] w fun e w' => ∃ u, e = .returned u ∧ Own w' w.heap.size 66 1 u 4 ((natsI (p4 4)).map (.int .u32)) ∧ Below w.heap.size w w' := by
  have hmk := run_make_row' (P := Tryd.prog) 62 66 (.int .u32 0) 4 elNets.ht elNets.hi rfl .i64 .i64 4 (by omega) (by omega)
  rw [show ((4 : Nat) : Int) = 4 from rfl] at hmk
  go_enter Tryd.func89, Tryd.ntmps89
  go_wp2
  go_loopw [4] (fun i wr => ∃ k : Nat, 1 ≤ k ∧ k ≤ 4 ∧ i = .int .i64 k ∧ Own wr w.heap.size 66 1 (.slice (some ⟨w.heap.size, 0, none⟩) 4 4) 4 ((natsI (p4 k)).map (.int .u32)) ∧ Below w.heap.size w wr) (fun i _ => 4 - (intOf i).toNat)
  case atStart => exact ⟨1, Nat.le_refl _, by omega, rfl, Own.made w w.heap.size 66 (.int .u32 0) 4 (Nat.le_refl _) (by omega), (Below.refl _ _).alloc (Nat.le_refl _) _⟩
  case round =>
    clear hmk
    obtain ⟨k, hk1, hk, rfl, hown, hq⟩ := hrel
    have hB := hq.size
    by_cases hlt : k < 4
    · have hsub : (k : Int) - 1 = ((k - 1 : Nat) : Int) := by omega
      have hj := p4_join hk1 hlt
      have hown' : Own wr w.heap.size 66 1 (.slice (some ⟨w.heap.size, 0, none⟩) 4 4) (p4 k).length ((natsI (p4 k)).map (.int .u32)) := by rw [p4_len]; exact hown
      have hjn := join_any (u := k - 1) (x := k) hown' (p4_lt k) (by rw [p4_len]; omega) (by rw [p4_len]; omega) (by rw [p4_len]; omega)
      rw [p4_len, hj] at hjn
      have HS := Lib.hid hsub; clear hsub hj hown'
      go_wp2_with fail
      rw [HS.out]
      refine hjn.mono ?_
      rintro e w' ⟨rfl, hown2, hkp⟩
      clear hjn
      go_wp2
      go_roundw
      case rel => exact ⟨k + 1, by omega, by omega, by go_num, hown2, hkp.below hq hB (fun k hk => hown.ge k hk)⟩
      case measure => simp [intOf]; omega
    · obtain rfl : k = 4 := by omega
      go_wp2
      go_ret
      exact ⟨_, rfl, hown, hq⟩
end Go.Proofs.YtplohdnakllbiaaDoor
