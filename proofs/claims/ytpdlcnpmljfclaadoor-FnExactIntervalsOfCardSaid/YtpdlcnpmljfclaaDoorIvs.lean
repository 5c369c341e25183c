/- Slices of intervals: reading, and what the laws' comparison, marks and looks do with them. -/
import Derived.Test.YtpdlcnpmljfclaaDoorMark3
import Derived.Test.YtpdlcnpmljfclaaDoorJoin
namespace Go.Proofs.YtpdlcnpmljfclaaDoor
open Go.RowKit
def flatV (l : List (Int × Int)) : List Int := l.flatMap fun p => [p.1, p.2]
theorem flatV_len (l : List (Int × Int)) : (flatV l).length = 2 * l.length := by
  induction l with
  | nil => rfl
  | cons p l ih => unfold flatV at *; rw [List.flatMap_cons, List.length_append, ih]; simp; omega
theorem flatV_snoc (l : List (Int × Int)) (p : Int × Int) : flatV (l ++ [p]) = flatV l ++ [p.1, p.2] := by unfold flatV; simp
/-- v is a slice of n pairs; their cells are xs. -/
def SlV (S : Nat → Prop) (w : World) (v : Value) (n : Nat) (xs : List Int) : Prop :=
  ∃ a b off cap, v = .slice a n cap ∧ (n ≤ cap ∧ cap ≤ 9223372036854775807) ∧ (0 < n → a = some ⟨b, off, none⟩ ∧ S b) ∧ xs.length = 2 * n ∧ ∀ j (h : j < xs.length), w.cell? ⟨b, off + j, none⟩ = some (.int .i64 xs[j])
theorem SlV.below {S : Nat → Prop} {w w' : World} {B : Nat} {v : Value} {n : Nat} {xs : List Int} (h : SlV S w v n xs) (hb : Below B w w') (hB : w.heap.size ≤ B) : SlV S w' v n xs := by
  obtain ⟨a, b, off, cap, rfl, hl, ha, hx, hc⟩ := h
  exact ⟨a, b, off, cap, rfl, hl, ha, hx, fun j hj => (hb.cell (p := ⟨b, off + j, none⟩) (by have := cell_lt (hc j hj); simp at this ⊢; omega)).trans (hc j hj)⟩
theorem SlV.between {S : Nat → Prop} {w w' : World} {v : Value} {n : Nat} {xs : List Int} {B C : Nat} (h : SlV S w v n xs) (hb : Between B C w w') (hS : ∀ b, S b → b < w.heap.size ∧ (b < B ∨ C ≤ b)) : SlV S w' v n xs := by
  obtain ⟨a, b, off, cap, rfl, hl, ha, hx, hc⟩ := h
  refine ⟨a, b, off, cap, rfl, hl, ha, hx, fun j hj => ?_⟩
  have hSb := hS b (ha (by omega)).2
  exact (World.cell?_of_block (a := ⟨b, off + j, none⟩) (hb.block b hSb.1 hSb.2)).trans (hc j hj)
theorem SlV.slice {S : Nat → Prop} {w : World} {v : Value} {n : Nat} {xs : List Int} (h : SlV S w v n xs) : ∃ a c, v = .slice a n c := by
  obtain ⟨a, b, off, cap, rfl, _⟩ := h; exact ⟨a, cap, rfl⟩
theorem SlV.weak {S S' : Nat → Prop} {w : World} {v : Value} {n : Nat} {xs : List Int} (h : SlV S w v n xs) (hS : ∀ b, S b → S' b) : SlV S' w v n xs := by
  obtain ⟨a, b, off, cap, rfl, hl, ha, hx, hc⟩ := h
  exact ⟨a, b, off, cap, rfl, hl, fun h0 => ⟨(ha h0).1, hS b (ha h0).2⟩, hx, hc⟩
theorem Own.ivs {w : World} {B : Nat} {E : TypeId} {v : Value} {n : Nat} {xs : List Int} (h : Own w B E 2 v n (xs.map (.int .i64))) : SlV (fun b => v.ownBlock = some b) w v n xs := by
  have hl := h.1
  simp only [List.length_map] at hl
  obtain ⟨g, cap, hv, hc⟩ := h.slice
  have hc' : ∀ i (hi : i < xs.length), w.cell? ⟨g, 0 + i, none⟩ = some (.int .i64 xs[i]) := fun i hi => by
    have := hc i (by simpa using hi)
    rw [List.getElem_map] at this
    simpa using this
  rcases hv with ⟨rfl, rfl, hx⟩ | ⟨rfl, hb, _, hc1, hc2⟩
  · have : xs = [] := by simpa using hx
    subst this
    exact ⟨none, 0, 0, 0, rfl, by simp, fun h => by simp at h, by simp, fun i hi => by simp at hi⟩
  · exact ⟨some ⟨g, 0, none⟩, g, 0, cap, rfl, ⟨hc1, hc2⟩, fun _ => ⟨rfl, rfl⟩, by omega, hc'⟩
set_option maxHeartbeats 1000000 in
theorem eqV_one (x y : Int) (w : World) :
    Calls Tryd.prog 58 #[.agg #[.int .i64 x, .int .i64 y], .agg #[.int .i64 x, .int .i64 y]] w fun e w' => e = .returned (.bool true) ∧ Below w.heap.size w w' := by
  have hb : Below w.heap.size w ((w.alloc (.cells #[.int .i64 x, .int .i64 y] 80)).alloc (.cells #[.int .i64 x, .int .i64 y] 80)) := ((Below.refl _ _).alloc (Nat.le_refl _) _).alloc (by simp) _
  have h1 : (x != x) = false := by simp
  have h2 : (y != y) = false := by simp
  go_enter Tryd.func58, Tryd.ntmps58
  go_wp2
  go_ret
  exact ⟨rfl, hb⟩
set_option maxHeartbeats 2000000 in
theorem eqV_same {S S' : Nat → Prop} {v u : Value} {n : Nat} {xs : List Int} {w : World} (hv : SlV S w v n xs) (hu : SlV S' w u n xs) :
    Calls Tryd.prog 26 #[v, u] w fun e w' => e = .returned (.bool true) ∧ Below w.heap.size w w' := by
  obtain ⟨a, b, off, cap, rfl, hl, ha, hxl, hc0⟩ := hv
  obtain ⟨a', b', off', cap', rfl, hl', ha', -, hc0'⟩ := hu
  have hn0 : ((n : Int) != n) = false := by simp
  have HX := Lib.hid hxl
  go_enter Tryd.func26, Tryd.ntmps26
  go_wp2
  go_loopw [5] (fun i wr => ∃ k : Nat, k ≤ n ∧ i = .int .i64 k ∧ Below w.heap.size w wr) (fun i _ => n - (intOf i).toNat)
  case atStart => exact ⟨0, Nat.zero_le _, rfl, Below.refl _ _⟩
  case round =>
    obtain ⟨k, hk, rfl, hq⟩ := hrel
    by_cases hlt : k < n
    case neg =>
      go_wp2
      go_ret
      exact ⟨rfl, hq⟩
    obtain ⟨rfl, hS⟩ := ha (by omega)
    obtain ⟨rfl, hS'⟩ := ha' (by omega)
    have k1 : k * 2 < xs.length := by omega
    have k2 : k * 2 + 1 < xs.length := by omega
    have c1 : wr.cell? ⟨b, off + k * 2, none⟩ = some (.int .i64 xs[k * 2]) := (hq.cell (p := ⟨b, off + k * 2, none⟩) (by have := cell_lt (hc0 _ k1); simpa using this)).trans (hc0 _ k1)
    have c2 : wr.cell? ⟨b, off + k * 2 + 1, none⟩ = some (.int .i64 xs[k * 2 + 1]) := (hq.cell (p := ⟨b, off + k * 2 + 1, none⟩) (by have := cell_lt (hc0 _ k2); simpa using this)).trans (hc0 _ k2)
    have c3 : wr.cell? ⟨b', off' + k * 2, none⟩ = some (.int .i64 xs[k * 2]) := (hq.cell (p := ⟨b', off' + k * 2, none⟩) (by have := cell_lt (hc0' _ k1); simpa using this)).trans (hc0' _ k1)
    have c4 : wr.cell? ⟨b', off' + k * 2 + 1, none⟩ = some (.int .i64 xs[k * 2 + 1]) := (hq.cell (p := ⟨b', off' + k * 2 + 1, none⟩) (by have := cell_lt (hc0' _ k2); simpa using this)).trans (hc0' _ k2)
    generalize xs[k * 2] = x at *
    generalize xs[k * 2 + 1] = y at *
    have hca := fun W => eqV_one x y W
    have hB := hq.size
    clear k1 k2 hxl
    go_wp2
    refine wp_region_held_drew (S := (fun w' => w'.cell? ⟨b, off + k * 2, none⟩ = some (.int .i64 x) ∧ w'.cell? ⟨b, off + k * 2 + 1, none⟩ = some (.int .i64 y) ∧ w'.cell? ⟨b', off' + k * 2, none⟩ = some (.int .i64 x) ∧ w'.cell? ⟨b', off' + k * 2 + 1, none⟩ = some (.int .i64 y))) (by kernel_rfl) ?_ (fun hHeld => ?_)
    · first | exact ⟨‹_›, ‹_›, ‹_›, ‹_›⟩ | assumption | (simp [*, go_sem])
    refine wpAnyH_take (i := 0) (v := ?v1) (by simp only [List.getElem?_toArray, List.getElem?_cons_zero]; exact rfl) (by kernel_rfl) (by kernel_rfl) (by kernel_rfl) (by intro _ _ _ h; exact h) (Or.inl ⟨by rfl, ?y1⟩) hHeld ?_
    case y1 => (intro w hSw; (try dsimp only at hSw); go_simp; try (with_reducible rfl))
    try simp only [Act.put, List.setIfInBounds_toArray, List.set_cons_zero, List.set_cons_succ]
    refine wpAnyH_take (i := 1) (v := ?v2) (by simp only [List.getElem?_toArray, List.getElem?_cons_succ, List.getElem?_cons_zero]; exact rfl) (by kernel_rfl) (by kernel_rfl) (by kernel_rfl) (by intro _ _ _ h; exact h) (Or.inl ⟨by rfl, ?y2⟩) hHeld ?_
    case y2 => (intro w hSw; (try dsimp only at hSw); go_simp; try (with_reducible rfl))
    try simp only [Act.put, List.setIfInBounds_toArray, List.set_cons_zero, List.set_cons_succ]
    refine wpAnyH_take (i := 2) (v := ?v3) (by simp only [List.getElem?_toArray, List.getElem?_cons_succ, List.getElem?_cons_zero]; exact rfl) (by kernel_rfl) (by kernel_rfl) (by kernel_rfl) (by intro _ _ _ h; exact h) (Or.inl ⟨by rfl, ?y3⟩) hHeld ?_
    case y3 => (intro w hSw; (try dsimp only at hSw); go_simp; try (with_reducible rfl))
    try simp only [Act.put, List.setIfInBounds_toArray, List.set_cons_zero, List.set_cons_succ]
    refine wpAnyH_take (i := 3) (v := ?v4) (by simp only [List.getElem?_toArray, List.getElem?_cons_succ, List.getElem?_cons_zero]; exact rfl) (by kernel_rfl) (by kernel_rfl) (by kernel_rfl) (by intro _ _ _ h; exact h) (Or.inl ⟨by rfl, ?y4⟩) hHeld ?_
    case y4 => (intro w hSw; (try dsimp only at hSw); go_simp; try (with_reducible rfl))
    try simp only [Act.put, List.setIfInBounds_toArray, List.set_cons_zero, List.set_cons_succ]
    refine wpAnyH_take (i := 4) (v := ?v5) (by simp only [List.getElem?_toArray, List.getElem?_cons_succ, List.getElem?_cons_zero]; exact rfl) (by kernel_rfl) (by kernel_rfl) (by kernel_rfl) (by intro _ _ _ h; exact h) (Or.inl ⟨by rfl, ?y5⟩) hHeld ?_
    case y5 => (intro w hSw; (try dsimp only at hSw); go_simp; try (with_reducible rfl))
    try simp only [Act.put, List.setIfInBounds_toArray, List.set_cons_zero, List.set_cons_succ]
    refine wpAnyH_take (i := 5) (v := ?v6) (by simp only [List.getElem?_toArray, List.getElem?_cons_succ, List.getElem?_cons_zero]; exact rfl) (by kernel_rfl) (by kernel_rfl) (by kernel_rfl) (by intro _ _ _ h; exact h) (Or.inl ⟨by rfl, ?y6⟩) hHeld ?_
    case y6 => (intro w hSw; (try dsimp only at hSw); go_simp; try (with_reducible rfl))
    try simp only [Act.put, List.setIfInBounds_toArray, List.set_cons_zero, List.set_cons_succ]
    refine wpAnyH_take (i := 6) (v := ?v7) (by simp only [List.getElem?_toArray, List.getElem?_cons_succ, List.getElem?_cons_zero]; exact rfl) (by kernel_rfl) (by kernel_rfl) (by kernel_rfl) (by intro _ _ _ h; exact h) (Or.inl ⟨by rfl, ?y7⟩) hHeld ?_
    case y7 => (intro w hSw; (try dsimp only at hSw); go_simp; try (with_reducible rfl))
    try simp only [Act.put, List.setIfInBounds_toArray, List.set_cons_zero, List.set_cons_succ]
    refine wpAnyH_take (i := 7) (v := ?v8) (by simp only [List.getElem?_toArray, List.getElem?_cons_succ, List.getElem?_cons_zero]; exact rfl) (by kernel_rfl) (by kernel_rfl) (by kernel_rfl) (by intro _ _ _ h; exact h) (Or.inl ⟨by rfl, ?y8⟩) hHeld ?_
    case y8 => (intro w hSw; (try dsimp only at hSw); go_simp; try (with_reducible rfl))
    try simp only [Act.put, List.setIfInBounds_toArray, List.set_cons_zero, List.set_cons_succ]
    refine wpAnyH_ready (rs := [8]) (by kernel_rfl) (by simp) ?_
    refine AllReadyH.cons (by simp only [List.getElem?_toArray, List.getElem?_cons_succ, List.getElem?_cons_zero]; exact rfl) (fun K hK => ?_) AllReadyH.nil
    go_simp
    refine (hca _).mono ?_
    rintro e w1 ⟨rfl, hb1⟩
    have d1 := (hb1.cell (p := ⟨b, off + k * 2, none⟩) (cell_lt (w := wr.drew) c1)).trans c1
    have d2 := (hb1.cell (p := ⟨b, off + k * 2 + 1, none⟩) (cell_lt (w := wr.drew) c2)).trans c2
    have d4 := (hb1.cell (p := ⟨b', off' + k * 2, none⟩) (cell_lt (w := wr.drew) c3)).trans c3
    have d5 := (hb1.cell (p := ⟨b', off' + k * 2 + 1, none⟩) (cell_lt (w := wr.drew) c4)).trans c4
    try dsimp only
    refine hK.out _ _ ?h10 (fun hHeld => ?_)
    case h10 => first | exact ⟨‹_›, ‹_›, ‹_›, ‹_›⟩ | assumption | (simp [*, go_sem])
    clear hK K
    try simp only [Act.put, List.setIfInBounds_toArray, List.set_cons_zero, List.set_cons_succ]
    refine wpAnyH_take (i := 9) (v := ?v11) (by simp only [List.getElem?_toArray, List.getElem?_cons_succ, List.getElem?_cons_zero]; exact rfl) (by kernel_rfl) (by kernel_rfl) (by kernel_rfl) (by intro _ _ _ h; exact h) (Or.inl ⟨by rfl, ?y11⟩) hHeld ?_
    case y11 => (intro w hSw; (try dsimp only at hSw); go_simp; try (with_reducible rfl))
    try simp only [Act.put, List.setIfInBounds_toArray, List.set_cons_zero, List.set_cons_succ]
    refine wpAnyH_done (by kernel_rfl) ?_ _
    go_wp2
    go_roundw
    case rel => exact ⟨k + 1, by omega, by go_num, hq.trans ((((Drawn.refl wr).drew.below _).trans hb1).mono hB)⟩
    case measure => (simp [intOf] <;> omega)
set_option maxHeartbeats 2000000 in
theorem markV_any {B n : Nat} {v : Value} {xs : List Int} {w : World} (hv : Own w B 80 2 v n (xs.map (.int .i64))) (hn : n ≤ 1048576) :
    Calls Tryd.prog 27 #[v, .int .i64 1] w fun e w' => e = .returned (.int .i64 (1 + 2 * n)) ∧ Own w' B 80 2 v n ((marksL 1 (2 * n)).map (.int .i64)) ∧ Between B w.heap.size w w' := by
  have hln : xs.length = n * 2 := by have := hv.1; simpa using this
  have hbt : ∀ w' : World, KeptBut w w' v.ownBlock → Between B w.heap.size w w' := fun w' h => h.between fun b hb => hv.lt b hb
  rcases hv.2 with ⟨rfl, rfl⟩ | ⟨g, cap, cur, rfl, hbg, hg, hnc, -⟩
  · have hx : xs = [] := List.eq_nil_of_length_eq_zero (by omega)
    subst hx
    have HB := Lib.hid hbt
    clear hbt
    go_enter Tryd.func27, Tryd.ntmps27
    go_wp2
    go_loopw [5, 1] (fun i m wr => i = .int .i64 0 ∧ m = .int .i64 1 ∧ w = wr) (fun _ _ _ => 0)
    case atStart => exact ⟨rfl, rfl, rfl⟩
    case round =>
      obtain ⟨rfl, rfl, rfl⟩ := hrel
      go_wp2
      go_ret
      exact ⟨ret_int (by simp), by simpa [marksL] using hv, HB.out w ⟨rfl, rfl, rfl, Nat.le_refl _, fun _ _ _ => rfl⟩⟩
  · have hgl := (Array.getElem?_eq_some_iff.1 hg).1
    have HB := Lib.hid hbt
    have HLN := Lib.hid hln
    clear hbt
    go_enter Tryd.func27, Tryd.ntmps27
    go_wp2
    go_loopw [5, 1] (fun i m wr => ∃ j : Nat, j ≤ n ∧ i = .int .i64 j ∧ m = .int .i64 (1 + ((2 * j : Nat) : Int)) ∧ Own wr B 80 2 (.slice (some ⟨g, 0, none⟩) n cap) n ((marked 1 xs (2 * j)).map (.int .i64)) ∧ KeptBut w wr (some g)) (fun i _ _ => n - (intOf i).toNat)
    case atStart => exact ⟨0, Nat.zero_le _, rfl, by simp, by rw [marked_zero]; exact hv, rfl, rfl, rfl, Nat.le_refl _, fun _ _ _ => rfl⟩
    case round =>
      obtain ⟨j, hj, rfl, hm, hown, hkp⟩ := hrel
      obtain ⟨z, hz⟩ : ∃ z : Int, z = 1 + ((2 * j : Nat) : Int) := ⟨_, rfl⟩
      rw [← hz] at hm
      subst hm
      by_cases hlt : j < n
      · have hf1 := World.ownsRow.frozenAt hown (j * 2)
        obtain ⟨u0, c0⟩ : ∃ u, wr.cell? ⟨g, j * 2, none⟩ = some u := ⟨_, (World.ownsRow.cellAt hown (j * 2) (by omega)).trans (List.getElem?_eq_getElem (by rw [hown.1]; omega))⟩
        have hs1 := hown.stored (j * 2) (.int .i64 z)
        have hf2 := World.ownsRow.frozenAt hs1 (j * 2 + 1)
        obtain ⟨u1, c1⟩ : ∃ u, (wr.setCell ⟨g, j * 2, none⟩ (.int .i64 z)).cell? ⟨g, j * 2 + 1, none⟩ = some u := ⟨_, (World.ownsRow.cellAt hs1 (j * 2 + 1) (by omega)).trans (List.getElem?_eq_getElem (by rw [hs1.1]; omega))⟩
        have hs2 := hs1.stored (j * 2 + 1) (.int .i64 (z + 1))
        have hk1 := KeptBut.trans hkp (KeptBut.set wr g (j * 2) (.int .i64 z))
        have hk2 := KeptBut.trans hk1 (KeptBut.set (wr.setCell ⟨g, j * 2, none⟩ (.int .i64 z)) g (j * 2 + 1) (.int .i64 (z + 1)))
        have HS := Lib.hid (show (((marked 1 xs (2 * j)).map (Value.int .i64)).set (j * 2) (.int .i64 z)).set (j * 2 + 1) (.int .i64 (z + 1)) = (marked 1 xs (2 * (j + 1))).map (.int .i64) by
          have e1 := marked_set (k := 1) (xs := xs) (j := 2 * j) (by omega)
          have e2 := marked_set (k := 1) (xs := xs) (j := 2 * j + 1) (by omega)
          rw [show j * 2 = 2 * j by omega, ← List.map_set, ← List.map_set, hz, e1, show (1 + ((2 * j : Nat) : Int) + 1) = 1 + ((2 * j + 1 : Nat) : Int) by omega, e2, show 2 * (j + 1) = 2 * j + 1 + 1 by omega])
        rw [HS.out] at hs2
        have HZ := Lib.hid hz
        have hzb : 0 ≤ z ∧ z ≤ 2097153 := by omega
        clear hz hs1 hk1 hown hkp hv HS
        go_wp2
        go_roundw
        case rel => exact ⟨j + 1, by omega, by go_num, by have := HZ.out; congr 1; omega, hs2, hk2⟩
        case measure => (simp [intOf] <;> omega)
      · obtain rfl : j = n := by omega
        have HZ := Lib.hid hz
        clear hz
        go_wp2
        go_ret
        refine ⟨ret_int (by have := HZ.out; omega), ?_, HB.out wr hkp⟩
        have e : 2 * j = xs.length := by have := HLN.out; omega
        rw [e, marked_all] at hown
        rw [e]
        exact hown
set_option maxHeartbeats 2000000 in
theorem heldV_any {S : Nat → Prop} {n : Nat} {v : Value} {w : World} (hv : SlV S w v n (marksL 1 (2 * n))) (hn : n ≤ 1048576) :
    Calls Tryd.prog 28 #[v, .int .i64 1] w fun e w' => e = .returned (.int .i64 (1 + 2 * n)) ∧ Below w.heap.size w w' := by
  obtain ⟨a, b, off, cap, rfl, hl, ha, hxl, hc0⟩ := hv
  go_enter Tryd.func28, Tryd.ntmps28
  go_wp2
  go_loopw [5, 1] (fun i m wr => ∃ j : Nat, j ≤ n ∧ i = .int .i64 j ∧ m = .int .i64 (1 + ((2 * j : Nat) : Int)) ∧ Drawn w wr) (fun i _ _ => n - (intOf i).toNat)
  case atStart => exact ⟨0, Nat.zero_le _, rfl, by simp, Drawn.refl _⟩
  case round =>
    obtain ⟨j, hj, rfl, hm, hd⟩ := hrel
    obtain ⟨z, hz⟩ : ∃ z : Int, z = 1 + ((2 * j : Nat) : Int) := ⟨_, rfl⟩
    rw [← hz] at hm
    subst hm
    by_cases hlt : j < n
    · obtain ⟨rfl, -⟩ := ha (by omega)
      have c1 : wr.cell? ⟨b, off + j * 2, none⟩ = some (.int .i64 z) := by
        have h := hc0 (j * 2) (by rw [marksL_len]; omega)
        rw [marksL_get] at h
        rw [hd.cell, h, hz]; congr 2; omega
      have c2 : wr.cell? ⟨b, off + j * 2 + 1, none⟩ = some (.int .i64 (z + 1)) := by
        have h := hc0 (j * 2 + 1) (by rw [marksL_len]; omega)
        rw [marksL_get] at h
        rw [hd.cell, show off + j * 2 + 1 = off + (j * 2 + 1) by omega, h, hz]; congr 2; omega
      have n1 : (z != z) = false := by simp
      have n2 : (z + 1 != z + 1) = false := by simp
      have hzb : 0 ≤ z ∧ z ≤ 2097153 := by omega
      have HZ := Lib.hid hz
      clear hz hxl hc0
      go_wp2
      go_roundw
      case rel => exact ⟨j + 1, by omega, by go_num, by have := HZ.out; congr 1; omega, by repeat (first | exact hd | refine Drawn.drewN ?_ _ | refine Drawn.drew ?_)⟩
      case measure => (simp [intOf] <;> omega)
    · obtain rfl : j = n := by omega
      have HZ := Lib.hid hz
      clear hz
      go_wp2
      go_ret
      exact ⟨ret_int (by have := HZ.out; omega), hd.below _⟩
end Go.Proofs.YtpdlcnpmljfclaaDoor
