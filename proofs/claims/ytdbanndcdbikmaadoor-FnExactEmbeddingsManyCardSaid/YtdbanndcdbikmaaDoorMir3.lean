/- aroundOf: each turn from its least vertex on. -/
import Derived.Test.YtdbanndcdbikmaaDoorTns
import Derived.Test.YtdbanndcdbikmaaDoorLoopL
import Derived.Shelf.Spec.SlicesGrow
import Derived.Ground.Names8Prog
import Derived.Shelf.SlicesE.Reverse
import Derived.Ground.SlgnProg
import Derived.Shelf.SlIterI.Sorted
import Derived.Test.YtdbanndcdbikmaaDoorFacM
import Derived.Test.YtdbanndcdbikmaaDoorBri2
namespace Go.Proofs.YtdbanndcdbikmaaDoor
open Go.RowKit Go.Shelf
open Go.Shelf in
def Tryd.revA_ren : Go.Shelf.Ren := ⟨fun | 35 => 85 | n => n, fun | 22 => 66 | 23 => 3 | 3 => 3 | 4 => 4 | 0 => 0 | n => n, fun | n => n⟩
open Go.Shelf in
theorem Tryd.revA : Go.Proofs.SlLaysE.n35 Tryd.prog Tryd.revA_ren := {
  mixed := by kernel_rfl
  f35 := ⟨Tryd.f85.name, by decide, Tryd.func85.trans (congrArg some (by kernel_rfl))⟩
  t0 := Tryd.underlying0
  a0 := Tryd.isAgg0
  z0 := Tryd.sizeOf0
  v0 := Tryd.zeroValue0
  t3 := Tryd.underlying3
  a3 := Tryd.isAgg3
  z3 := Tryd.sizeOf3
  v3 := Tryd.zeroValue3
  t4 := Tryd.underlying4
  a4 := Tryd.isAgg4
  z4 := Tryd.sizeOf4
  v4 := Tryd.zeroValue4
  t22 := Tryd.underlying66
  a22 := Tryd.isAgg66
  z22 := Tryd.sizeOf66
  v22 := Tryd.zeroValue66
  a23 := Tryd.isAgg3
  z23 := Tryd.sizeOf3 }
open Go.Sort Go.Maps in
theorem reverseI_any {B : Nat} {v : Value} {xs : List Int} {w : World} (hv : Own w B 3 1 v xs.length (xs.map (.int .i64))) (hn : xs.length ≤ 1048576) :
    Calls Tryd.prog 85 #[v] w fun e w' => e = .returned (.tuple #[]) ∧ Own w' B 3 1 v xs.length (xs.reverse.map (.int .i64)) ∧ KeptBut w w' v.ownBlock := by
  have hv0 := hv
  rcases hv.2 with ⟨rfl, hz⟩ | ⟨gb, cap, cur, rfl, hbase, hgb, r1, r2, r3, r4⟩
  · have hx : xs = [] := List.eq_nil_of_length_eq_zero hz
    subst hx
    refine (AnyE.slices_Reverse_empty Tryd.revA none 0 w).mono ?_
    rintro e w' ⟨rfl, rfl⟩
    exact ⟨rfl, hv0, ⟨rfl, rfl, rfl, Nat.le_refl _, fun _ _ _ => rfl⟩⟩
  · have hH : Holds encZ w gb 0 xs.toArray := holds_of_block_i hgb (by simpa using r4)
    refine (AnyE.slices_Reverse Tryd.revA encZ (fun _ => rfl) gb 0 cap xs w hH (by omega)).mono ?_
    rintro e w' ⟨rfl, n, rfl⟩
    have h1 := ownsRow_sorted_i (os := #[]) (n := n) (ss := xs) (ts := xs.reverse) (by simp) hbase hgb r1 r2 r3
    have h2 := grownBy_sorted_i (w := w) (g := gb) (n := n) (os := #[]) xs.reverse.toArray
    rw [grow_empty] at h1 h2
    exact ⟨rfl, h1, KeptBut.of_grown h2⟩
/-- append(s, x...) with x a slice of integers, empty or not. -/
theorem wpList_appendI {P : Program} {w : World} {T E : TypeId} {bytes : Nat} {z : Value} (hE : Elem P T E 1 bytes z) {B : Nat}
    {ops : Array Oper} {rest : List Oper} {o : Oper} {a : Act} {Q : Exit → Act → World → Prop} (hgd : o.guard = none) (s x : Operand)
    (ho : o.op = .call { callee := .builtin .append, args := #[s, x], argTypes := #[T, T] })
    {v : Value} {n : Nat} {xs : List Value} (hown : Own w B E 1 v n xs) (hs : a.eval s = v)
    {S : Nat → Prop} {k : IntKind} {sv : Value} {ys : List Int} (hx : a.eval x = sv) (hsv : SlI S w k sv ys)
    (h63 : n + ys.length ≤ 1099511627) (hbase : B ≤ w.heap.size)
    (h : ∀ v' w', Own w' B E 1 v' (n + ys.length) (xs ++ ys.map (.int k)) → KeptBut w w' v.ownBlock → wpList P ops Q rest (a.put o.dst v') w') : wpList P ops Q (o :: rest) a w := by
  obtain ⟨ad, b, off, cap, rfl, hl, ha, hc⟩ := hsv
  by_cases h0 : ys.length = 0
  · have hy : ys = [] := List.eq_nil_of_length_eq_zero h0
    subst hy
    exact wpList_append0 hE hgd s x ho hown hs hx (h _ _ (by simpa using hown) ⟨rfl, rfl, rfl, Nat.le_refl _, fun _ _ _ => rfl⟩)
  · obtain ⟨rfl, _⟩ := ha (by omega)
    exact wpList_append hE hgd s x ho hown hs hx (news := ys.map (.int k)) (by simp) hc.news ints_one h63 hbase (fun v' w' h1 h2 _ => h _ _ h1 (KeptBut.of_grown h2))
theorem opWp_appendI {P : Program} {w : World} {T E : TypeId} {bytes : Nat} {z : Value} (hE : Elem P T E 1 bytes z) {B : Nat}
    {o : Oper} {a : Act} {K : Act → World → Prop} {Q : Exit → Act → World → Prop} (s x : Operand)
    (ho : o.op = .call { callee := .builtin .append, args := #[s, x], argTypes := #[T, T] })
    {v : Value} {n : Nat} {xs : List Value} (hown : Own w B E 1 v n xs) (hs : a.eval s = v)
    {S : Nat → Prop} {k : IntKind} {sv : Value} {ys : List Int} (hx : a.eval x = sv) (hsv : SlI S w k sv ys)
    (h63 : n + ys.length ≤ 1099511627) (hbase : B ≤ w.heap.size)
    (h : ∀ v' w', Own w' B E 1 v' (n + ys.length) (xs ++ ys.map (.int k)) → KeptBut w w' v.ownBlock → K (a.put o.dst v') w') : o.wp P a w K Q := by
  obtain ⟨ad, b, off, cap, rfl, hl, ha, hc⟩ := hsv
  by_cases h0 : ys.length = 0
  · have hy : ys = [] := List.eq_nil_of_length_eq_zero h0
    subst hy
    have hr := append_run0 (ty := o.type) hE v n xs hown ad cap
    unfold Oper.wp execOp
    simp only [ho, resolve, invoke, builtin, Sem.run_bind, Sem.run_pure, Result.andThen_ok, List.map_toArray, List.map_cons, List.map_nil, hs, hx, List.length_nil, hr]
    exact h _ _ (by simpa using hown) ⟨rfl, rfl, rfl, Nat.le_refl _, fun _ _ _ => rfl⟩
  · obtain ⟨rfl, _⟩ := ha (by omega)
    obtain ⟨v', w', hr, h2, h3, h4⟩ := append_run (ty := o.type) hE v n xs hown ⟨b, off, none⟩ ys.length cap (ys.map (.int k)) (by simp) hc.news ints_one h63 hbase
    unfold Oper.wp execOp
    simp only [ho, resolve, invoke, builtin, Sem.run_bind, Sem.run_pure, Result.andThen_ok, List.map_toArray, List.map_cons, List.map_nil, hs, hx, hr]
    exact h _ _ h2 (KeptBut.of_grown h3)
theorem least_snoc {T : List Nat} (h : T ≠ []) (x : Nat) : leastN (T ++ [x]) = min (leastN T) x := by
  unfold leastN
  rw [List.foldl_append, List.foldl_cons, List.foldl_nil]
  cases T with
  | nil => exact absurd rfl h
  | cons y t => rfl
theorem at_lt {l : List Nat} (h : l ≠ []) : atN l < l.length := List.idxOf_lt_length_of_mem (least_mem h)
theorem at_get {l : List Nat} (h : l ≠ []) : l[atN l]'(at_lt h) = leastN l := List.getElem_idxOf _
theorem at_step {l : List Nat} {k : Nat} (hk : k < l.length) : atN (l.take (k + 1)) = if l[k] < l.getD (atN (l.take k)) 0 then k else atN (l.take k) := by
  rw [List.take_succ_eq_append_getElem hk]
  by_cases h0 : k = 0
  · subst h0
    simp [atN, leastN]
  · have hne : l.take k ≠ [] := by
      intro e
      have := congrArg List.length e
      rw [List.length_take, List.length_nil] at this
      omega
    have hlen : (l.take k).length = k := by simp; omega
    have hg : l.getD (atN (l.take k)) 0 = leastN (l.take k) := by
      have h1 := at_lt hne
      have h2 := at_get hne
      rw [List.getElem_take] at h2
      rw [← h2, List.getD_eq_getElem?_getD, List.getElem?_eq_getElem (by omega)]
      rfl
    rw [hg]
    have hls := least_snoc hne l[k]
    by_cases hlt : l[k] < leastN (l.take k)
    · rw [if_pos hlt]
      have hm : l[k] ∉ l.take k := fun hm => by have := least_le hm; omega
      rw [atN, hls, show min (leastN (l.take k)) l[k] = l[k] by omega, List.idxOf_append, if_neg hm, hlen]
      simp
    · rw [if_neg hlt, atN, hls, show min (leastN (l.take k)) l[k] = leastN (l.take k) by omega, List.idxOf_append, if_pos (least_mem hne)]
      rfl
set_option maxHeartbeats 4000000 in
theorem l22First_any {S : Nat → Prop} (v : Value) (l : List Nat) (w : World) (hv : SlI S w .i64 v (natsI l)) (hn : l.length ≤ 100000) (hsm : ∃ ad n c, v = .slice (some ad) n c) :
    Calls Tryd.prog 33 #[v] w fun e w' => ∃ u, e = .returned u ∧ Own w' w.heap.size 2 1 u l.length ((natsI (rotL l)).map (.int .i64)) ∧ Below w.heap.size w w' := by
  have g1 := Lib.hid hv
  have hlen := hv.len
  obtain ⟨a, b, off, cap, rfl, hl, ha, hc0⟩ := hv
  obtain ⟨ad, n', c', hsm⟩ := hsm
  obtain rfl : a = some ad := by injection hsm
  clear hsm
  rw [natsI_len] at hl ha
  rw [natsI_len] at g1 ⊢
  go_enter Tryd.func33, Tryd.ntmps33
  go_wp2
  go_loopw [4, 3] (fun i j wr => ∃ k m : Nat, k ≤ l.length ∧ i = .int .i64 k ∧ j = .int .i64 m ∧ m ≤ k ∧ (m = k → k = 0) ∧ m = atN (l.take k) ∧ Drawn w wr) (fun i _ _ => l.length - (RowKit.intOf i).toNat)
  case atStart => exact ⟨0, 0, by omega, rfl, rfl, by omega, by omega, rfl, Drawn.refl _⟩
  case round =>
    obtain ⟨k, m, hk, rfl, rfl, hmk, hm0, hm, hq⟩ := hrel
    have hc := hc0.drawn hq
    by_cases hlt : k < l.length
    case neg =>
      obtain rfl : k = l.length := by omega
      rw [List.take_length] at hm
      have hgd := g1.out.drawn hq
      by_cases h0 : l = []
      · subst h0
        obtain rfl : m = 0 := by simpa [atN] using hm
        have hE : SlI S wr .i64 (.slice (some ad) 0 cap) (natsI []) := ⟨_, b, off, cap, rfl, ⟨Nat.zero_le _, by have := hl.2; omega⟩, fun h => by simp [natsI] at h, fun i hi => by simp [natsI] at hi⟩
        clear hm0 hm g1 hgd hc0 hc ha hlen
        go_wp2
        refine wp_region_held_drew (S := (fun _ => True)) (by kernel_rfl) ?_ (fun hHeld => ?_)
        · trivial
        have hdw : Drawn wr wr.drew := (Drawn.refl _).drew
        generalize wr.drew = wd at hdw hHeld ⊢
        refine wpAnyH_take (i := 0) (v := ?v1) (by simp only [List.getElem?_toArray, List.getElem?_cons_zero]; exact rfl) (by kernel_rfl) (by kernel_rfl) (by kernel_rfl) (by intro _ _ _ h; exact h) (Or.inl ⟨by rfl, ?y1⟩) hHeld ?_
        case y1 => (intro w hSw; (try dsimp only at hSw); go_simp; try (with_reducible rfl))
        try simp only [Act.put, List.setIfInBounds_toArray, List.set_cons_zero, List.set_cons_succ]
        refine wpAnyH_take (i := 1) (v := ?v2) (by simp only [List.getElem?_toArray, List.getElem?_cons_succ, List.getElem?_cons_zero]; exact rfl) (by kernel_rfl) (by kernel_rfl) (by kernel_rfl) (by intro _ _ _ h; exact h) (Or.inl ⟨by rfl, ?y2⟩) hHeld ?_
        case y2 => (intro w hSw; (try dsimp only at hSw); go_simp; try (with_reducible rfl))
        try simp only [Act.put, List.setIfInBounds_toArray, List.set_cons_zero, List.set_cons_succ]
        refine wpAnyH_take (i := 2) (v := ?v3) (by simp only [List.getElem?_toArray, List.getElem?_cons_succ, List.getElem?_cons_zero]; exact rfl) (by kernel_rfl) (by kernel_rfl) (by kernel_rfl) (by intro _ _ _ h; exact h) (Or.inl ⟨by rfl, ?y3⟩) hHeld ?_
        case y3 => (intro w hSw; (try dsimp only at hSw); go_simp; try (with_reducible rfl))
        try simp only [Act.put, List.setIfInBounds_toArray, List.set_cons_zero, List.set_cons_succ]
        refine wpAnyH_take (i := 4) (v := ?v4) (by simp only [List.getElem?_toArray, List.getElem?_cons_succ, List.getElem?_cons_zero]; exact rfl) (by kernel_rfl) (by kernel_rfl) (by kernel_rfl) (by intro _ _ _ h; exact h) (Or.inl ⟨by rfl, ?y4⟩) hHeld ?_
        case y4 => (intro w hSw; (try dsimp only at hSw); go_simp; try (with_reducible rfl))
        try simp only [Act.put, List.setIfInBounds_toArray, List.set_cons_zero, List.set_cons_succ]
        refine wpAnyH_take (i := 5) (v := ?v5) (by simp only [List.getElem?_toArray, List.getElem?_cons_succ, List.getElem?_cons_zero]; exact rfl) (by kernel_rfl) (by kernel_rfl) (by kernel_rfl) (by intro _ _ _ h; exact h) (Or.inl ⟨by rfl, ?y5⟩) hHeld ?_
        case y5 => (intro w hSw; (try dsimp only at hSw); go_simp; try (with_reducible rfl))
        try simp only [Act.put, List.setIfInBounds_toArray, List.set_cons_zero, List.set_cons_succ]
        refine wpAnyH_take (i := 6) (v := ?v6) (by simp only [List.getElem?_toArray, List.getElem?_cons_succ, List.getElem?_cons_zero]; exact rfl) (by kernel_rfl) (by kernel_rfl) (by kernel_rfl) (by intro _ _ _ h; exact h) (Or.inl ⟨by rfl, ?y6⟩) hHeld ?_
        case y6 => (intro w hSw; (try dsimp only at hSw); go_simp; try (with_reducible rfl))
        try simp only [Act.put, List.setIfInBounds_toArray, List.set_cons_zero, List.set_cons_succ]
        refine wpAnyH_ready (rs := [3]) (by kernel_rfl) (by simp) ?_
        refine AllReadyH.cons (by simp only [List.getElem?_toArray, List.getElem?_cons_succ, List.getElem?_cons_zero]; exact rfl) (fun K hK => ?_) AllReadyH.nil
        go_simp
        refine (l1Copy_any _ _ _ (hE.drawn hdw) (by simp [natsI])).mono ?_
        rintro e w3 ⟨xc, rfl, hxc, hb3⟩
        rw [natsI_len] at hxc
        try dsimp only
        refine hK.out _ _ ?h8 (fun hHeld => ?_)
        case h8 => trivial
        clear hK K
        try simp only [Act.put, List.setIfInBounds_toArray, List.set_cons_zero, List.set_cons_succ]
        refine wpAnyH_ready (rs := [7]) (by kernel_rfl) (by simp) ?_
        refine AllReadyH.cons (by simp only [List.getElem?_toArray, List.getElem?_cons_succ, List.getElem?_cons_zero]; exact rfl) (fun K hK => ?_) AllReadyH.nil
        rw [if_pos (by rfl)]
        refine opWp_appendI elI64 _ _ rfl hxc rfl rfl ((hE.drawn hdw).below hb3 (Nat.le_refl _)) (by simp [natsI]) hb3.size ?_
        intro v' w4 hown4 hkept
        try dsimp only
        refine hK.out _ _ ?h10 (fun hHeld => ?_)
        case h10 => trivial
        clear hK K
        try simp only [Act.put, List.setIfInBounds_toArray, List.set_cons_zero, List.set_cons_succ]
        refine wpAnyH_take (i := 8) (v := ?v11) (by simp only [List.getElem?_toArray, List.getElem?_cons_succ, List.getElem?_cons_zero]; exact rfl) (by kernel_rfl) (by kernel_rfl) (by kernel_rfl) (by intro _ _ _ h; exact h) (Or.inl ⟨by rfl, ?y11⟩) hHeld ?_
        case y11 => (intro w hSw; (try dsimp only at hSw); go_simp; try (with_reducible rfl))
        try simp only [Act.put, List.setIfInBounds_toArray, List.set_cons_zero, List.set_cons_succ]
        refine wpAnyH_done (by kernel_rfl) ?_ _
        skip
        have hq3 := ((hq.trans hdw).below _).trans (hb3.mono ((hq.trans hdw).below w.heap.size).size)
        have hq4 := hkept.below hq3 hq3.size (fun c h => Nat.le_trans ((hq.trans hdw).below w.heap.size).size (hxc.lt c h).1)
        have hown5 := hown4.weak ((hq.trans hdw).below w.heap.size).size
        clear hown4 hkept hb3 hxc
        go_wp2
        go_ret
        exact ⟨_, rfl, by simpa [natsI, rotL] using hown5, hq4⟩
      have hml : m < l.length := by rw [hm]; exact at_lt h0
      obtain ⟨had, hS⟩ := ha (by omega)
      obtain rfl : ad = ⟨b, off, none⟩ := by injection had
      have hd1 : SlI S wr .i64 (.slice (some ⟨b, off + m, none⟩) (l.length - m) (cap - m)) (natsI (l.drop m)) := by
        have := hgd.drop (m := m) (by simpa using hml)
        simpa [natsI, List.map_drop] using this
      have hd2 : SlI S wr .i64 (.slice (some ⟨b, off, none⟩) m cap) (natsI (l.take m)) := by
        have := hgd.take (m := m) (by omega)
        simpa [natsI, List.map_take] using this
      have HL := Lib.hid (show natsI (rotL l) = natsI (l.drop m) ++ natsI (l.take m) by show natsI (l.drop (atN l) ++ l.take (atN l)) = _; rw [← hm]; simp [natsI])
      have H0 := Lib.hid h0
      have hlm : (l.drop m).length ≤ 100000 := by simp; omega
      have hmc : ¬ cap = m := by omega
      have hmc2 : m ≤ cap := by omega
      have HL3 := Lib.hid (show (l.drop m).length + (l.take m).length = l.length by simp; omega)
      clear hm hm0 h0 g1 hgd hc0 hc ha hlen
      go_wp2
      refine wp_region_held_drew (S := (fun _ => True)) (by kernel_rfl) ?_ (fun hHeld => ?_)
      · trivial
      have hdw : Drawn wr wr.drew := (Drawn.refl _).drew
      generalize wr.drew = wd at hdw hHeld ⊢
      refine wpAnyH_take (i := 0) (v := ?v12) (by simp only [List.getElem?_toArray, List.getElem?_cons_zero]; exact rfl) (by kernel_rfl) (by kernel_rfl) (by kernel_rfl) (by intro _ _ _ h; exact h) (Or.inl ⟨by rfl, ?y12⟩) hHeld ?_
      case y12 => (intro w hSw; (try dsimp only at hSw); go_simp; try (with_reducible rfl))
      try simp only [Act.put, List.setIfInBounds_toArray, List.set_cons_zero, List.set_cons_succ]
      refine wpAnyH_take (i := 1) (v := ?v13) (by simp only [List.getElem?_toArray, List.getElem?_cons_succ, List.getElem?_cons_zero]; exact rfl) (by kernel_rfl) (by kernel_rfl) (by kernel_rfl) (by intro _ _ _ h; exact h) (Or.inl ⟨by rfl, ?y13⟩) hHeld ?_
      case y13 => (intro w hSw; (try dsimp only at hSw); go_simp; try (with_reducible rfl))
      try simp only [Act.put, List.setIfInBounds_toArray, List.set_cons_zero, List.set_cons_succ]
      refine wpAnyH_take (i := 2) (v := ?v14) (by simp only [List.getElem?_toArray, List.getElem?_cons_succ, List.getElem?_cons_zero]; exact rfl) (by kernel_rfl) (by kernel_rfl) (by kernel_rfl) (by intro _ _ _ h; exact h) (Or.inl ⟨by rfl, ?y14⟩) hHeld ?_
      case y14 => (intro w hSw; (try dsimp only at hSw); go_simp; try (with_reducible rfl))
      try simp only [Act.put, List.setIfInBounds_toArray, List.set_cons_zero, List.set_cons_succ]
      refine wpAnyH_take (i := 4) (v := ?v15) (by simp only [List.getElem?_toArray, List.getElem?_cons_succ, List.getElem?_cons_zero]; exact rfl) (by kernel_rfl) (by kernel_rfl) (by kernel_rfl) (by intro _ _ _ h; exact h) (Or.inl ⟨by rfl, ?y15⟩) hHeld ?_
      case y15 => (intro w hSw; (try dsimp only at hSw); go_simp; try (with_reducible rfl))
      try simp only [Act.put, List.setIfInBounds_toArray, List.set_cons_zero, List.set_cons_succ]
      refine wpAnyH_take (i := 5) (v := ?v16) (by simp only [List.getElem?_toArray, List.getElem?_cons_succ, List.getElem?_cons_zero]; exact rfl) (by kernel_rfl) (by kernel_rfl) (by kernel_rfl) (by intro _ _ _ h; exact h) (Or.inl ⟨by rfl, ?y16⟩) hHeld ?_
      case y16 => (intro w hSw; (try dsimp only at hSw); go_simp; try (with_reducible rfl))
      try simp only [Act.put, List.setIfInBounds_toArray, List.set_cons_zero, List.set_cons_succ]
      refine wpAnyH_take (i := 6) (v := ?v17) (by simp only [List.getElem?_toArray, List.getElem?_cons_succ, List.getElem?_cons_zero]; exact rfl) (by kernel_rfl) (by kernel_rfl) (by kernel_rfl) (by intro _ _ _ h; exact h) (Or.inl ⟨by rfl, ?y17⟩) hHeld ?_
      case y17 => (intro w hSw; (try dsimp only at hSw); go_simp; try (with_reducible rfl))
      try simp only [Act.put, List.setIfInBounds_toArray, List.set_cons_zero, List.set_cons_succ]
      refine wpAnyH_ready (rs := [3]) (by kernel_rfl) (by simp) ?_
      refine AllReadyH.cons (by simp only [List.getElem?_toArray, List.getElem?_cons_succ, List.getElem?_cons_zero]; exact rfl) (fun K hK => ?_) AllReadyH.nil
      go_simp
      refine (l1Copy_any _ _ _ (hd1.drawn hdw) (by rw [natsI_len]; exact Nat.le_trans hlm (by omega))).mono ?_
      rintro e w3 ⟨xc, rfl, hxc, hb3⟩
      rw [natsI_len] at hxc
      try dsimp only
      refine hK.out _ _ ?h19 (fun hHeld => ?_)
      case h19 => trivial
      clear hK K
      try simp only [Act.put, List.setIfInBounds_toArray, List.set_cons_zero, List.set_cons_succ]
      refine wpAnyH_ready (rs := [7]) (by kernel_rfl) (by simp) ?_
      refine AllReadyH.cons (by simp only [List.getElem?_toArray, List.getElem?_cons_succ, List.getElem?_cons_zero]; exact rfl) (fun K hK => ?_) AllReadyH.nil
      rw [if_pos (by rfl)]
      refine opWp_appendI elI64 _ _ rfl hxc rfl rfl ((hd2.drawn hdw).below hb3 (Nat.le_refl _)) (by rw [natsI_len]; have := HL3.out; omega) hb3.size ?_
      intro v' w4 hown4 hkept
      try dsimp only
      refine hK.out _ _ ?h21 (fun hHeld => ?_)
      case h21 => trivial
      clear hK K
      try simp only [Act.put, List.setIfInBounds_toArray, List.set_cons_zero, List.set_cons_succ]
      refine wpAnyH_take (i := 8) (v := ?v22) (by simp only [List.getElem?_toArray, List.getElem?_cons_succ, List.getElem?_cons_zero]; exact rfl) (by kernel_rfl) (by kernel_rfl) (by kernel_rfl) (by intro _ _ _ h; exact h) (Or.inl ⟨by rfl, ?y22⟩) hHeld ?_
      case y22 => (intro w hSw; (try dsimp only at hSw); go_simp; try (with_reducible rfl))
      try simp only [Act.put, List.setIfInBounds_toArray, List.set_cons_zero, List.set_cons_succ]
      refine wpAnyH_done (by kernel_rfl) ?_ _
      skip
      rw [natsI_len, HL3.out, ← List.map_append, ← HL.out] at hown4
      have hq3 := ((hq.trans hdw).below _).trans (hb3.mono ((hq.trans hdw).below w.heap.size).size)
      have hq4 := hkept.below hq3 hq3.size (fun c h => Nat.le_trans ((hq.trans hdw).below w.heap.size).size (hxc.lt c h).1)
      have hown5 := hown4.weak ((hq.trans hdw).below w.heap.size).size
      clear hown4 hkept hb3 hxc
      go_wp2
      go_ret
      exact ⟨_, rfl, hown5, hq4⟩
    have c1 : wr.cell? ⟨b, off + k, none⟩ = some (.int .i64 (l[k] : Int)) := by simpa [natsI] using hc k (by rw [natsI_len]; exact hlt)
    have hml : m < l.length := by omega
    have c2 : wr.cell? ⟨b, off + m, none⟩ = some (.int .i64 (l[m] : Int)) := by simpa [natsI] using hc m (by rw [natsI_len]; exact hml)
    have hst := at_step hlt
    rw [← hm, List.getD_eq_getElem?_getD, List.getElem?_eq_getElem hml, Option.getD_some] at hst
    have HST := Lib.hid hst
    have HM := Lib.hid hm
    clear hst hm
    obtain ⟨had, hS⟩ := ha (by omega)
    obtain rfl : ad = ⟨b, off, none⟩ := by injection had
    clear had
    generalize l[k] = x at *
    generalize l[m] = y at *
    by_cases hle : x < y
    · have hcb : decide ((x : Int) < (y : Int)) = true := by simpa using hle
      have HX := Lib.hid hle
      clear hle
      go_wp2
      go_quiet (fail)
      go_wp2
      go_roundw
      case rel => exact ⟨k + 1, k, by omega, by go_num, rfl, by omega, by omega, by rw [HST.out, if_pos HX.out], hq.drewN _⟩
      case measure => simp [RowKit.intOf]; omega
    · have hcb : decide ((x : Int) < (y : Int)) = false := by simpa using hle
      have HX := Lib.hid hle
      clear hle
      go_wp2
      go_quiet (fail)
      go_wp2
      go_roundw
      case rel => exact ⟨k + 1, m, by omega, by go_num, rfl, by omega, by omega, by rw [HST.out, if_neg HX.out], hq.drewN _⟩
      case measure => simp [RowKit.intOf]; omega
