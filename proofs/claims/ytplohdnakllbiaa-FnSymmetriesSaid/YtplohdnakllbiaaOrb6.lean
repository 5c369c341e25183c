/- Orbits: the walks. -/
import Derived.Test.YtplohdnakllbiaaOrb5
namespace Go.Proofs.Ytplohdnakllbiaa
open Go.RowKit
/-- append(s, x...) of an own slice to an own slice. -/
theorem wpList_appendO {P : Program} {w : World} {T E : TypeId} {bytes : Nat} {z : Value} (hE : Elem P T E 1 bytes z) {B B' : Nat}
    {ops : Array Oper} {rest : List Oper} {o : Oper} {a : Act} {Q : Exit → Act → World → Prop} (hgd : o.guard = none) (s x : Operand)
    (ho : o.op = .call { callee := .builtin .append, args := #[s, x], argTypes := #[T, T] })
    {v u : Value} {n m : Nat} {xs ys : List Value} (hown : Own w B E 1 v n xs) (hs : a.eval s = v) (hu : Own w B' E 1 u m ys) (hx : a.eval x = u)
    (h1 : ∀ y ∈ ys, y.oneCell' = true) (h63 : n + m ≤ 1099511627) (hbase : B ≤ w.heap.size)
    (h : ∀ v' w', Own w' B E 1 v' (n + m) (xs ++ ys) → KeptBut w w' v.ownBlock → wpList P ops Q rest (a.put o.dst v') w') : wpList P ops Q (o :: rest) a w := by
  have hyl : ys.length = m * 1 := hu.1
  rcases own_none_some hu with ⟨rfl, rfl⟩ | ⟨g, c, rfl⟩
  · have hy : ys = [] := List.eq_nil_of_length_eq_zero (by simpa using hyl)
    subst hy
    refine wpList_append0 hE hgd s x ho hown hs hx ?_
    exact h v w (by simpa using hown) ⟨rfl, rfl, rfl, Nat.le_refl _, fun _ _ _ => rfl⟩
  · refine wpList_append hE hgd s x ho hown hs hx (news := ys) hyl (fun j y hj => ?_) h1 h63 hbase (fun v' w' h2 h3 _ => h v' w' h2 (KeptBut.of_grown h3))
    have hjl : j < ys.length := (List.getElem?_eq_some_iff.1 hj).1
    have := World.ownsRow.cellAt hu j (by omega)
    rw [hj] at this
    by_cases e : j = 0
    · subst e; simpa [Addr.add] using this
    · simpa [Addr.add, e] using this
theorem SlI.oneU (w : World) (u : Nat) : SlI (fun _ => True) (w.alloc (.cells #[.int .i64 (u : Int)] 2)) .i64 (.slice (some ⟨w.heap.size, 0, none⟩) 1 1) (natsI [u]) := by
  have h : Own (w.alloc (.cells #[.int .i64 (u : Int)] 2)) w.heap.size 2 1 (.slice (some ⟨w.heap.size, 0, none⟩) 1 1) 1 ((natsI [u]).map (.int .i64)) := by
    have := World.ownsRow_lit (base := w.heap.size) (e := 2) (size := 1) w #[.int .i64 (u : Int)] 1 (Nat.le_refl _) (by unfold maxLen; omega) rfl
    simpa [Own, natsI] using this
  exact (Own.ints (xs := natsI [u]) h (by omega)).weak (fun _ _ => trivial)
theorem lk_small {E : Nat → Nat → Bool} {n : Nat} {M : List Nat} (h : LkG E n n 0 M) (h16 : n ≤ 16) : SmallR (M.map bitsI) 1048576 := by
  have hl : (M.map bitsI).length = n := by rw [List.length_map]; exact h.1
  refine ⟨by omega, fun i hi _ => ?_⟩
  rw [List.getElem_map]
  have := bitsI_len (M[i]'(by simpa using hi))
  omega
set_option maxRecDepth 100000 in
set_option maxHeartbeats 4000000 in
theorem l4Moves_any {S : Nat → Prop} {gv : Value} {g : List (List Int)} {u v : Nat} {w : World} (hvg : SlR S w gv g) (hg : GOk g) (h8 : g.length ≤ 8) (hu : u < g.length) (hv : v < g.length) :
    Calls Try.prog 61 #[.agg #[gv], .int .i64 (u : Int), .int .i64 (v : Int)] w fun e w' => e = .returned (.bool (movesB (netsL g) u v)) ∧ Below w.heap.size w w' := by
  obtain ⟨ga, gc, rfl⟩ := hvg.slice
  have hq0 : Below w.heap.size w ((w.alloc (.cells #[.slice ga g.length gc] 31)).alloc (.cells #[.int .i64 (v : Int)] 2)) := ((Below.refl _ _).alloc (Nat.le_refl _) _).alloc (by simp) _
  have ho0 : Own ((w.alloc (.cells #[.slice ga g.length gc] 31)).alloc (.cells #[.int .i64 (v : Int)] 2)) w.heap.size 2 1 (.slice (some ⟨w.heap.size + 1, 0, none⟩) 1 1) 1 ((natsI [v]).map (.int .i64)) := by
    have := World.ownsRow_lit (base := w.heap.size) (e := 2) (size := 1) (w.alloc (.cells #[.slice ga g.length gc] 31)) #[.int .i64 (v : Int)] 1 (by simp) (by unfold maxLen; omega) rfl
    simpa [Own, natsI] using this
  obtain ⟨d, hd⟩ : ∃ d, g.length = d + 1 := ⟨g.length - 1, by omega⟩
  have HMV := Lib.hid (fun M (hM : LkG (ordE g (ordL v g.length)) g.length g.length 0 M) => emb_moves hg hd hu hv hM)
  have HD := Lib.hid hd; clear hd
  have hon := ordL_len hv
  have HON := Lib.hid (ordL_nats v g.length)
  have hol := ordL_lt hv
  have hrl : (natsI (List.range g.length)).length = g.length := by simp [natsI]
  have hwl := wout_len (natsI (List.range g.length)) (v : Int)
  have hwl2 : (wout (natsI (List.range g.length)) (v : Int)).length + 1 = g.length := by
    have := congrArg List.length HON.out
    rw [natsI_len, hon, List.length_append, List.length_singleton] at this
    omega
  have HWL := Lib.hid hwl2; clear hwl2
  go_enter Try.func61, Try.ntmps61
  go_wp2_with fail
  refine (l1Size_any (hvg.below hq0 (Nat.le_refl _))).mono ?_
  rintro e w1 ⟨rfl, hb1⟩
  have hq1 := hq0.trans (hb1.mono hq0.size)
  have c3 : w1.cell? ⟨w.heap.size, 0, none⟩ = some (.slice ga g.length gc) := (hb1.cell (p := ⟨w.heap.size, 0, none⟩) (by simp <;> omega)).trans (by simp [go_sem])
  have ho1 := ho0.below hb1 (Nat.le_refl _)
  clear ho0 hq0 hb1
  go_wp2_with fail
  refine (l1All_any (n := g.length) (by omega)).mono ?_
  rintro e w2 ⟨ua, rfl, hua, hb2⟩
  have hq2 := hq1.trans (hb2.mono hq1.size)
  have c3 := (hb2.cell (cell_lt c3)).trans c3
  have ho2 := ho1.below hb2 (Nat.le_refl _)
  have hwo := l2Without_any (v := (v : Int)) (Own.ints (xs := natsI (List.range g.length)) hua (by omega)) (by omega)
  obtain ⟨aa, ac, rfl⟩ := hua.isSlice
  clear hua ho1 hq1 hb2
  rw [hrl] at hwo ⊢
  go_wp2_with fail
  refine hwo.mono ?_
  rintro e w3 ⟨ur, rfl, hur, hb3⟩
  have hq3 := hq2.trans (hb3.mono hq2.size)
  have c3 := (hb3.cell (cell_lt c3)).trans c3
  have ho3 := ho2.below hb3 (Nat.le_refl _)
  have hB3 := hq3.size
  clear hwo ho2 hq2 hb3
  generalize wout (natsI (List.range g.length)) (v : Int) = wl at *
  obtain ⟨ra, rc, rfl⟩ := hur.isSlice
  go_wp2_with (at_builtin; refine wpList_appendO elI64 rfl _ _ rfl ho3 rfl hur (by first | rfl | simp) ints_one (by have := HWL.out; omega) hB3 ?_; intro ov w4 hown4 hkept)
  have hq4 := hkept.below hq3 hB3 (fun b hb => (ho3.lt b hb).1)
  have c3 : w4.cell? ⟨w.heap.size, 0, none⟩ = some (.slice ga g.length gc) := (World.cell?_of_block (a := ⟨w.heap.size, 0, none⟩) (hkept.2.2.2.2 w.heap.size (cell_lt c3) (fun e => by simp [Value.ownBlock] at e <;> omega))).trans c3
  have hown : Own w4 w.heap.size 2 1 ov (ordL v g.length).length ((natsI (ordL v g.length)).map (.int .i64)) := by
    rw [HON.out, List.map_append, hon, ← HWL.out]
    simpa [natsI, Nat.add_comm] using hown4
  clear hown4 ho3 hur hq3 hkept HON HWL
  have hli := Own.ints (xs := natsI (ordL v g.length)) hown (by omega)
  have hof := fun (W : World) (hb : Below w4.heap.size w4 W) => l2Of_any (hvg.below (hq4.trans (hb.mono hq4.size)) (Nat.le_refl _)) (hli.below hb (Nat.le_refl _)) hol (by omega)
  have hln := natsI_len (ordL v g.length)
  obtain ⟨oa, oc, hoe⟩ := hli.slice
  rw [hln, hon] at hoe
  subst hoe
  clear hown hli hln
  have hstart : Below w4.heap.size w4 w4 := Below.refl _ _
  go_wp2
  refine wp_region_held_drew (S := (fun w' => w'.cell? ⟨w.heap.size, 0, none⟩ = some (.slice ga g.length gc))) (by kernel_rfl) ?_ (fun hHeld => ?_)
  · first | assumption | (simp [*, go_sem])
  have hqd := hstart.drew
  clear hstart
  generalize w4.drew = wd at hqd hHeld ⊢
  have d0 := hHeld
  refine wpAnyH_take (i := 0) (v := ?v1) (by simp only [List.getElem?_toArray, List.getElem?_cons_zero]; exact rfl) (by kernel_rfl) (by kernel_rfl) (by kernel_rfl) (by intro _ _ _ h; exact h) (Or.inl ⟨by rfl, ?y1⟩) hHeld ?_
  case y1 => (intro w hSw; (try dsimp only at hSw); go_simp; try (with_reducible rfl))
  try simp only [Act.put, List.setIfInBounds_toArray, List.set_cons_zero, List.set_cons_succ]
  refine wpAnyH_take (i := 1) (v := ?v2) (by simp only [List.getElem?_toArray, List.getElem?_cons_succ, List.getElem?_cons_zero]; exact rfl) (by kernel_rfl) (by kernel_rfl) (by kernel_rfl) (by intro _ _ _ h; exact h) (Or.inl ⟨by rfl, ?y2⟩) hHeld ?_
  case y2 => (intro w hSw; (try dsimp only at hSw); go_simp; try (with_reducible rfl))
  try simp only [Act.put, List.setIfInBounds_toArray, List.set_cons_zero, List.set_cons_succ]
  refine wpAnyH_take (i := 3) (v := ?v3) (by simp only [List.getElem?_toArray, List.getElem?_cons_succ, List.getElem?_cons_zero]; exact rfl) (by kernel_rfl) (by kernel_rfl) (by kernel_rfl) (by intro _ _ _ h; exact h) (Or.inl ⟨by rfl, ?y3⟩) hHeld ?_
  case y3 => (intro w hSw; (try dsimp only at hSw); go_simp; try (with_reducible rfl))
  try simp only [Act.put, List.setIfInBounds_toArray, List.set_cons_zero, List.set_cons_succ]
  refine wpAnyH_take (i := 4) (v := ?v4) (by simp only [List.getElem?_toArray, List.getElem?_cons_succ, List.getElem?_cons_zero]; exact rfl) (by kernel_rfl) (by kernel_rfl) (by kernel_rfl) (by intro _ _ _ h; exact h) (Or.inl ⟨by rfl, ?y4⟩) hHeld ?_
  case y4 => (intro w hSw; (try dsimp only at hSw); go_simp; try (with_reducible rfl))
  try simp only [Act.put, List.setIfInBounds_toArray, List.set_cons_zero, List.set_cons_succ]
  refine wpAnyH_ready (rs := [2, 5]) (by kernel_rfl) (by simp) ?_
  refine (AllReadyH.cons (by simp only [List.getElem?_toArray, List.getElem?_cons_succ, List.getElem?_cons_zero]; exact rfl) (fun K hK => ?b5_2) (AllReadyH.cons (by simp only [List.getElem?_toArray, List.getElem?_cons_succ, List.getElem?_cons_zero]; exact rfl) (fun K hK => ?b5_5) AllReadyH.nil))
  case b5_2 =>
    go_simp
    refine (hof _ hqd).mono ?_
    rintro e wn ⟨pu, M, rfl, hpu, hM, hbn⟩
    rw [hon] at hM
    have hps := hpu.rows (lk_small hM (by omega))
    obtain ⟨pa, pc, rfl⟩ := hpu.isSlice
    rw [List.length_map] at hps ⊢
    try (have hus := hus.below hbn (Nat.le_refl _))
    have hqd := hqd.trans (hbn.mono hqd.size)
    have d0 := (hbn.cell (cell_lt d0)).trans d0
    clear hpu hbn
    obtain ⟨wd, rfl⟩ : ∃ wx : World, wx = wn := ⟨_, rfl⟩
    try dsimp only
    refine hK.out _ _ ?h6 (fun hHeld => ?_)
    case h6 => first | assumption | (simp [*, go_sem])
    clear hK K
    try simp only [Act.put, List.setIfInBounds_toArray, List.set_cons_zero, List.set_cons_succ]
    refine wpAnyH_ready (rs := [5]) (by kernel_rfl) (by simp) ?_
    refine AllReadyH.cons (by simp only [List.getElem?_toArray, List.getElem?_cons_succ, List.getElem?_cons_zero]; exact rfl) (fun K hK => ?_) AllReadyH.nil
    go_simp
    have hbn : Below wd.heap.size wd (wd.alloc (.cells #[.int .i64 (u : Int)] 2)) := (Below.refl _ _).alloc (Nat.le_refl _) _
    have hus := SlI.oneU wd u
    try (have hps := hps.below hbn (Nat.le_refl _))
    have hqd := hqd.trans (hbn.mono hqd.size)
    have d0 := (hbn.cell (cell_lt d0)).trans d0
    clear hbn
    generalize wd.heap.size = nb at hus ⊢
    generalize (wd.alloc (.cells #[.int .i64 (u : Int)] 2)) = wn at *
    obtain ⟨wd, rfl⟩ : ∃ wx : World, wx = wn := ⟨_, rfl⟩
    try dsimp only
    refine hK.out _ _ ?h8 (fun hHeld => ?_)
    case h8 => first | assumption | (simp [*, go_sem])
    clear hK K
    try simp only [Act.put, List.setIfInBounds_toArray, List.set_cons_zero, List.set_cons_succ]
    refine wpAnyH_ready (rs := [6]) (by kernel_rfl) (by simp) ?_
    refine AllReadyH.cons (by simp only [List.getElem?_toArray, List.getElem?_cons_succ, List.getElem?_cons_zero]; exact rfl) (fun K hK => ?_) AllReadyH.nil
    go_simp
    have hqw := hq4.trans (hqd.mono hq4.size)
    refine (l4Embed_any (lk_gok hM hg.lo hg.hi) hg d [u] _ _ hps (hvg.below hqw (Nat.le_refl _)) hus (by rw [List.length_map, hM.1, HD.out]; simp; omega) ⟨by simpa using hu, by simp⟩).mono ?_
    rintro e wn ⟨r, rfl, hr, hbn⟩
    have HE := Lib.hid (HMV.out M hM)
    have hln := natsI_len (embL g (M.map bitsI) d [u])
    obtain ⟨rra, rrc, rfl⟩ := hr.slice
    rw [hln]
    have hqw := hqw.trans (hbn.mono hqw.size)
    have d0 := (hbn.cell (cell_lt d0)).trans d0
    clear hln hr
    generalize (embL g (M.map bitsI) d [u]).length = EL at *
    try dsimp only
    refine hK.out _ _ ?h10 (fun hHeld => ?_)
    case h10 => first | assumption | (simp [*, go_sem])
    clear hK K
    try simp only [Act.put, List.setIfInBounds_toArray, List.set_cons_zero, List.set_cons_succ]
    refine wpAnyH_take (i := 7) (v := ?v11) (by simp only [List.getElem?_toArray, List.getElem?_cons_succ, List.getElem?_cons_zero]; exact rfl) (by kernel_rfl) (by kernel_rfl) (by kernel_rfl) (by intro _ _ _ h; exact h) (Or.inl ⟨by rfl, ?y11⟩) hHeld ?_
    case y11 => (intro w hSw; (try dsimp only at hSw); go_simp; try (with_reducible rfl))
    try simp only [Act.put, List.setIfInBounds_toArray, List.set_cons_zero, List.set_cons_succ]
    refine wpAnyH_take (i := 8) (v := ?v12) (by simp only [List.getElem?_toArray, List.getElem?_cons_succ, List.getElem?_cons_zero]; exact rfl) (by kernel_rfl) (by kernel_rfl) (by kernel_rfl) (by intro _ _ _ h; exact h) (Or.inl ⟨by rfl, ?y12⟩) hHeld ?_
    case y12 => (intro w hSw; (try dsimp only at hSw); go_simp; try (with_reducible rfl))
    try simp only [Act.put, List.setIfInBounds_toArray, List.set_cons_zero, List.set_cons_succ]
    refine wpAnyH_take (i := 9) (v := ?v13) (by simp only [List.getElem?_toArray, List.getElem?_cons_succ, List.getElem?_cons_zero]; exact rfl) (by kernel_rfl) (by kernel_rfl) (by kernel_rfl) (by intro _ _ _ h; exact h) (Or.inl ⟨by rfl, ?y13⟩) hHeld ?_
    case y13 => (intro w hSw; (try dsimp only at hSw); go_simp; try (with_reducible rfl))
    try simp only [Act.put, List.setIfInBounds_toArray, List.set_cons_zero, List.set_cons_succ]
    refine wpAnyH_done (by kernel_rfl) ?_ _
    have hgt : decide ((0 : Int) < (EL : Int)) = movesB (netsL g) u v := by rw [← HE.out]; rw [decide_eq_decide]; omega
    go_wp2
    go_ret
    exact ⟨by first | (rw [hgt]) | (simp [HE.out]), hqw⟩
  case b5_5 =>
    go_simp
    have hbn : Below wd.heap.size wd (wd.alloc (.cells #[.int .i64 (u : Int)] 2)) := (Below.refl _ _).alloc (Nat.le_refl _) _
    have hus := SlI.oneU wd u
    try (have hps := hps.below hbn (Nat.le_refl _))
    have hqd := hqd.trans (hbn.mono hqd.size)
    have d0 := (hbn.cell (cell_lt d0)).trans d0
    clear hbn
    generalize wd.heap.size = nb at hus ⊢
    generalize (wd.alloc (.cells #[.int .i64 (u : Int)] 2)) = wn at *
    obtain ⟨wd, rfl⟩ : ∃ wx : World, wx = wn := ⟨_, rfl⟩
    try dsimp only
    refine hK.out _ _ ?h14 (fun hHeld => ?_)
    case h14 => first | assumption | (simp [*, go_sem])
    clear hK K
    try simp only [Act.put, List.setIfInBounds_toArray, List.set_cons_zero, List.set_cons_succ]
    refine wpAnyH_ready (rs := [2]) (by kernel_rfl) (by simp) ?_
    refine AllReadyH.cons (by simp only [List.getElem?_toArray, List.getElem?_cons_succ, List.getElem?_cons_zero]; exact rfl) (fun K hK => ?_) AllReadyH.nil
    go_simp
    refine (hof _ hqd).mono ?_
    rintro e wn ⟨pu, M, rfl, hpu, hM, hbn⟩
    rw [hon] at hM
    have hps := hpu.rows (lk_small hM (by omega))
    obtain ⟨pa, pc, rfl⟩ := hpu.isSlice
    rw [List.length_map] at hps ⊢
    try (have hus := hus.below hbn (Nat.le_refl _))
    have hqd := hqd.trans (hbn.mono hqd.size)
    have d0 := (hbn.cell (cell_lt d0)).trans d0
    clear hpu hbn
    obtain ⟨wd, rfl⟩ : ∃ wx : World, wx = wn := ⟨_, rfl⟩
    try dsimp only
    refine hK.out _ _ ?h16 (fun hHeld => ?_)
    case h16 => first | assumption | (simp [*, go_sem])
    clear hK K
    try simp only [Act.put, List.setIfInBounds_toArray, List.set_cons_zero, List.set_cons_succ]
    refine wpAnyH_ready (rs := [6]) (by kernel_rfl) (by simp) ?_
    refine AllReadyH.cons (by simp only [List.getElem?_toArray, List.getElem?_cons_succ, List.getElem?_cons_zero]; exact rfl) (fun K hK => ?_) AllReadyH.nil
    go_simp
    have hqw := hq4.trans (hqd.mono hq4.size)
    refine (l4Embed_any (lk_gok hM hg.lo hg.hi) hg d [u] _ _ hps (hvg.below hqw (Nat.le_refl _)) hus (by rw [List.length_map, hM.1, HD.out]; simp; omega) ⟨by simpa using hu, by simp⟩).mono ?_
    rintro e wn ⟨r, rfl, hr, hbn⟩
    have HE := Lib.hid (HMV.out M hM)
    have hln := natsI_len (embL g (M.map bitsI) d [u])
    obtain ⟨rra, rrc, rfl⟩ := hr.slice
    rw [hln]
    have hqw := hqw.trans (hbn.mono hqw.size)
    have d0 := (hbn.cell (cell_lt d0)).trans d0
    clear hln hr
    generalize (embL g (M.map bitsI) d [u]).length = EL at *
    try dsimp only
    refine hK.out _ _ ?h18 (fun hHeld => ?_)
    case h18 => first | assumption | (simp [*, go_sem])
    clear hK K
    try simp only [Act.put, List.setIfInBounds_toArray, List.set_cons_zero, List.set_cons_succ]
    refine wpAnyH_take (i := 7) (v := ?v19) (by simp only [List.getElem?_toArray, List.getElem?_cons_succ, List.getElem?_cons_zero]; exact rfl) (by kernel_rfl) (by kernel_rfl) (by kernel_rfl) (by intro _ _ _ h; exact h) (Or.inl ⟨by rfl, ?y19⟩) hHeld ?_
    case y19 => (intro w hSw; (try dsimp only at hSw); go_simp; try (with_reducible rfl))
    try simp only [Act.put, List.setIfInBounds_toArray, List.set_cons_zero, List.set_cons_succ]
    refine wpAnyH_take (i := 8) (v := ?v20) (by simp only [List.getElem?_toArray, List.getElem?_cons_succ, List.getElem?_cons_zero]; exact rfl) (by kernel_rfl) (by kernel_rfl) (by kernel_rfl) (by intro _ _ _ h; exact h) (Or.inl ⟨by rfl, ?y20⟩) hHeld ?_
    case y20 => (intro w hSw; (try dsimp only at hSw); go_simp; try (with_reducible rfl))
    try simp only [Act.put, List.setIfInBounds_toArray, List.set_cons_zero, List.set_cons_succ]
    refine wpAnyH_take (i := 9) (v := ?v21) (by simp only [List.getElem?_toArray, List.getElem?_cons_succ, List.getElem?_cons_zero]; exact rfl) (by kernel_rfl) (by kernel_rfl) (by kernel_rfl) (by intro _ _ _ h; exact h) (Or.inl ⟨by rfl, ?y21⟩) hHeld ?_
    case y21 => (intro w hSw; (try dsimp only at hSw); go_simp; try (with_reducible rfl))
    try simp only [Act.put, List.setIfInBounds_toArray, List.set_cons_zero, List.set_cons_succ]
    refine wpAnyH_done (by kernel_rfl) ?_ _
    have hgt : decide ((0 : Int) < (EL : Int)) = movesB (netsL g) u v := by rw [← HE.out]; rw [decide_eq_decide]; omega
    go_wp2
    go_ret
    exact ⟨by first | (rw [hgt]) | (simp [HE.out]), hqw⟩
end Go.Proofs.Ytplohdnakllbiaa
