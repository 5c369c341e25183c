/- aroundOf: each turn from its least vertex on. -/
import Derived.Test.YtdbanndcdbikmaaGreatDoorTns
import Derived.Test.YtdbanndcdbikmaaGreatDoorLoopL
import Derived.Shelf.Spec.SlicesGrow
import Derived.Ground.Names8Prog
import Derived.Shelf.SlicesE.Reverse
import Derived.Ground.SlgnProg
import Derived.Shelf.SlIterI.Sorted
import Derived.Test.YtdbanndcdbikmaaGreatDoorFacM
import Derived.Test.YtdbanndcdbikmaaGreatDoorBri2
namespace Go.Proofs.YtdbanndcdbikmaaGreatDoor
open Go.RowKit Go.Shelf
open Go.Shelf in
def Tryz.growA_ren : Go.Shelf.Ren := ⟨fun | 4 => 112 | n => n, fun | 22 => 36 | 25 => 2 | 3 => 3 | 4 => 4 | 9 => 9 | 20 => 20 | 0 => 0 | n => n, fun | n => n⟩
open Go.Shelf in
theorem Tryz.growA : Go.Proofs.Lays8.n4 Tryz.prog Tryz.growA_ren := {
  mixed := by kernel_rfl
  f4 := ⟨Tryz.f112.name, by decide, Tryz.func112.trans (congrArg some (by kernel_rfl))⟩
  t0 := Tryz.underlying0
  a0 := Tryz.isAgg0
  z0 := Tryz.sizeOf0
  v0 := Tryz.zeroValue0
  t3 := Tryz.underlying3
  a3 := Tryz.isAgg3
  z3 := Tryz.sizeOf3
  v3 := Tryz.zeroValue3
  t4 := Tryz.underlying4
  a4 := Tryz.isAgg4
  z4 := Tryz.sizeOf4
  v4 := Tryz.zeroValue4
  t9 := Tryz.underlying9
  a9 := Tryz.isAgg9
  z9 := Tryz.sizeOf9
  v9 := Tryz.zeroValue9
  t20 := Tryz.underlying20
  a20 := Tryz.isAgg20
  z20 := Tryz.sizeOf20
  v20 := Tryz.zeroValue20
  t22 := Tryz.underlying36
  a22 := Tryz.isAgg36
  z22 := Tryz.sizeOf36
  v22 := Tryz.zeroValue36 }
theorem growNil_any (n : Nat) (w : World) (hn : n ≤ 1048576) :
    Calls Tryz.prog 112 #[.slice none 0 0, .int .i64 (n : Int)] w fun e w' => ∃ u, e = .returned u ∧ Own w' w.heap.size 2 1 u 0 [] ∧ Below w.heap.size w w' := by
  by_cases h0 : n = 0
  · subst h0
    refine (Any8.slices_Grow_room Tryz.growA none 0 0 0 w (Nat.le_refl _) (by omega) (by omega) (by omega)).mono ?_
    rintro e w' ⟨rfl, rfl⟩
    exact ⟨_, rfl, Own.nil _ _ _ _, Below.refl _ _⟩
  · obtain ⟨i, hi, hzz⟩ := Option.map_eq_some_iff.1 elI64.hi
    simp only [Prod.mk.injEq] at hzz
    obtain ⟨hz, hs, hb⟩ := hzz
    refine (Any8.slices_Grow_grow Tryz.growA i (.int .i64 0) hi hz (by omega) none 0 0 n [] w (Nat.le_refl _) (by omega) (by rw [hb]; omega) (by omega) (by simp) (fun _ => rfl) (fun a h => by cases h)).mono ?_
    rintro e w' ⟨rfl, rfl⟩
    obtain ⟨G, hG⟩ : ∃ G, G = grownCap w (0 + n) 0 2 := ⟨_, rfl⟩
    have hge : 0 + n ≤ G := by rw [hG]; exact grownCap_ge w _ _ _
    have hle : G ≤ maxLen := by rw [hG]; exact grownCap_le_maxLen w (0 + n) 0 _ (by unfold maxLen; omega)
    have hsz : (([] : List Value).toArray ++ Builtin.zeroCells (Value.int .i64 0).cells (0 + n - 0) ++ Builtin.zeroCells (Value.int .i64 0).cells (G - (0 + n))).size = G * 1 := by
      simp only [Array.size_append, size_zeroCells, List.size_toArray, List.length_nil]
      simp [Value.cells]; omega
    have h := World.ownsRow_lit (base := w.heap.size) (e := 2) (size := 1) w.drew _ G (Nat.le_refl _) hle hsz
    have h2 := Own.reslice (B := w.heap.size) (E := 2) (size := 1) h (m := 0) (Nat.zero_le _)
    refine ⟨_, rfl, ?_, (Below.refl _ _).drew.alloc (Nat.le_refl _) _⟩
    change Own (w.drew.alloc (.cells (([] : List Value).toArray ++ Builtin.zeroCells (Value.int .i64 0).cells (0 + n - 0) ++ Builtin.zeroCells (Value.int .i64 0).cells (grownCap w (0 + n) 0 2 - (0 + n))) 2)) w.heap.size 2 1 (.slice (some ⟨w.heap.size, 0, none⟩) 0 (grownCap w (0 + n) 0 2)) 0 []
    rw [← hG]
    simpa using h2
set_option maxHeartbeats 2000000 in
theorem minN_any {S : Nat → Prop} {v : Value} {l : List Nat} {w : World} (hv : SlI S w .i64 v (natsI l)) (h0 : 0 < l.length) (hb : ∀ x ∈ l, x < 1048576) (hn : l.length ≤ 1048576) :
    Calls Tryz.prog 76 #[v] w fun e w' => e = .returned (.int .i64 (leastN l : Int)) ∧ w = w' := by
  obtain ⟨la, lb, lo, lc, rfl, hll, hla, hlc⟩ := hv
  rw [natsI_len] at *
  have hc : ∀ k (hk : k < l.length), w.cell? ⟨lb, lo + k, none⟩ = some (.int .i64 ((l.getD k 0 : Nat) : Int)) := fun k hk => by
    have := hlc k (by rw [natsI_len]; exact hk)
    rw [natsI_get] at this
    rw [this]; simp [hk]
  obtain ⟨rfl, -⟩ := hla h0
  have HC := Lib.hid hc
  have hz := hc 0 h0
  have HF := Lib.hid (fun k (hk : k < l.length) => show (l.take (k + 1)).foldl min (l.headD 0) = min ((l.take k).foldl min (l.headD 0)) (l.getD k 0) by
    rw [List.take_succ_eq_append_getElem hk, List.foldl_append]; simp [hk])
  have HB := Lib.hid (fun k (hk : k < l.length) => show l.getD k 0 < 1048576 by
    have e : l.getD k 0 = l[k] := by simp [hk]
    rw [e]; exact hb _ (List.getElem_mem hk))
  have H1 := Lib.hid (show (l.take 1).foldl min (l.headD 0) = l.getD 0 0 by
    cases l with
    | nil => simp at h0
    | cons a l => simp)
  have hz0 : w.cell? ⟨lb, lo, none⟩ = some (.int .i64 ((l.getD 0 0 : Nat) : Int)) := by simpa using hz
  have hb0 := HB.out 0 h0
  generalize hx0 : l.getD 0 0 = x0 at *
  have HX0 := Lib.hid hx0
  clear hlc hc hla hz hb hx0
  have h1 : ¬ ((l.length : Int) < 1) := by omega
  have h1d : decide ((l.length : Int) < 1) = false := decide_eq_false (by omega)
  have h1e : decide (l.length < 1) = false := decide_eq_false (by omega)
  have h0i : (0 : Int) < l.length := by omega
  clear h1
  go_enter Tryz.func76, Tryz.ntmps76
  go_wp2
  go_loop [4, 3] (fun iv mv => ∃ k m : Nat, k ≤ l.length ∧ iv = .int .i64 k ∧ mv = .int .i64 m ∧ m < 1048576 ∧ RowKit.Hid ((l.take k).foldl min (l.headD 0) = m)) (fun iv _ => l.length - (RowKit.intOf iv).toNat)
  case atStart => exact ⟨1, x0, by omega, rfl, rfl, hb0, Lib.hid H1.out⟩
  case round =>
    obtain ⟨k, m, hk, rfl, rfl, hm, HM⟩ := hrel
    by_cases hlt : k < l.length
    · have hck := HC.out k hlt
      have hbk := HB.out k hlt
      have HM2 := Lib.hid (show (l.take (k + 1)).foldl min (l.headD 0) = min m (l.getD k 0) by rw [HF.out k hlt, HM.out])
      generalize l.getD k 0 = y at *
      have hmin : min (m : Int) (y : Int) = ((min m y : Nat) : Int) := by omega
      go_wp2
      go_round
      case rel => exact ⟨k + 1, min m y, by omega, by go_num, rfl, by omega, HM2⟩
      case measure => simp [RowKit.intOf]; omega
    · have HE := Lib.hid (show m = leastN l by
        have := HM.out
        rw [List.take_of_length_le (by omega)] at this
        exact this.symm)
      go_wp2
      go_ret
      exact ⟨ret_int (by rw [HE.out]), rfl⟩
open Go.Shelf in
def Tryz.revA_ren : Go.Shelf.Ren := ⟨fun | 35 => 37 | n => n, fun | 22 => 57 | 23 => 3 | 3 => 3 | 4 => 4 | 0 => 0 | n => n, fun | n => n⟩
open Go.Shelf in
theorem Tryz.revA : Go.Proofs.SlLaysE.n35 Tryz.prog Tryz.revA_ren := {
  mixed := by kernel_rfl
  f35 := ⟨Tryz.f37.name, by decide, Tryz.func37.trans (congrArg some (by kernel_rfl))⟩
  t0 := Tryz.underlying0
  a0 := Tryz.isAgg0
  z0 := Tryz.sizeOf0
  v0 := Tryz.zeroValue0
  t3 := Tryz.underlying3
  a3 := Tryz.isAgg3
  z3 := Tryz.sizeOf3
  v3 := Tryz.zeroValue3
  t4 := Tryz.underlying4
  a4 := Tryz.isAgg4
  z4 := Tryz.sizeOf4
  v4 := Tryz.zeroValue4
  t22 := Tryz.underlying57
  a22 := Tryz.isAgg57
  z22 := Tryz.sizeOf57
  v22 := Tryz.zeroValue57
  a23 := Tryz.isAgg3
  z23 := Tryz.sizeOf3 }
open Go.Sort Go.Maps in
theorem reverseI_any {B : Nat} {v : Value} {xs : List Int} {w : World} (hv : Own w B 3 1 v xs.length (xs.map (.int .i64))) (hn : xs.length ≤ 1048576) :
    Calls Tryz.prog 37 #[v] w fun e w' => e = .returned (.tuple #[]) ∧ Own w' B 3 1 v xs.length (xs.reverse.map (.int .i64)) ∧ KeptBut w w' v.ownBlock := by
  have hv0 := hv
  rcases hv.2 with ⟨rfl, hz⟩ | ⟨gb, cap, cur, rfl, hbase, hgb, r1, r2, r3, r4⟩
  · have hx : xs = [] := List.eq_nil_of_length_eq_zero hz
    subst hx
    refine (AnyE.slices_Reverse_empty Tryz.revA none 0 w).mono ?_
    rintro e w' ⟨rfl, rfl⟩
    exact ⟨rfl, hv0, ⟨rfl, rfl, rfl, Nat.le_refl _, fun _ _ _ => rfl⟩⟩
  · have hH : Holds encZ w gb 0 xs.toArray := holds_of_block_i hgb (by simpa using r4)
    refine (AnyE.slices_Reverse Tryz.revA encZ (fun _ => rfl) gb 0 cap xs w hH (by omega)).mono ?_
    rintro e w' ⟨rfl, n, rfl⟩
    have h1 := ownsRow_sorted_i (os := #[]) (n := n) (ss := xs) (ts := xs.reverse) (by simp) hbase hgb r1 r2 r3
    have h2 := grownBy_sorted_i (w := w) (g := gb) (n := n) (os := #[]) xs.reverse.toArray
    rw [grow_empty] at h1 h2
    exact ⟨rfl, h1, KeptBut.of_grown h2⟩
/-- append(s, x...) with x a slice of integers, empty or not. -/
theorem wpList_appendI {P : Program} {w : World} {T E : TypeId} {bytes : Nat} {z : Value} (hE : Elem P T E 1 bytes z) {B : Nat}
    {ops : Array Oper} {rest : List Oper} {o : Oper} {a : Act} {Q : Exit → Act → World → Prop} (hgd : o.guard = none) (s x : Operand)
    (ho : o.op = .call { callee := .builtin .append, args := #[s, x], argTypes := #[T, T] })
    {v : Value} {n : Nat} {xs : List Value} (hown : Own w B E 1 v n xs) (hs : a.eval s = v)
    {S : Nat → Prop} {k : IntKind} {sv : Value} {ys : List Int} (hx : a.eval x = sv) (hsv : SlI S w k sv ys)
    (h63 : n + ys.length ≤ 1099511627) (hbase : B ≤ w.heap.size)
    (h : ∀ v' w', Own w' B E 1 v' (n + ys.length) (xs ++ ys.map (.int k)) → KeptBut w w' v.ownBlock → wpList P ops Q rest (a.put o.dst v') w') : wpList P ops Q (o :: rest) a w := by
  obtain ⟨ad, b, off, cap, rfl, hl, ha, hc⟩ := hsv
  by_cases h0 : ys.length = 0
  · have hy : ys = [] := List.eq_nil_of_length_eq_zero h0
    subst hy
    exact wpList_append0 hE hgd s x ho hown hs hx (h _ _ (by simpa using hown) ⟨rfl, rfl, rfl, Nat.le_refl _, fun _ _ _ => rfl⟩)
  · obtain ⟨rfl, _⟩ := ha (by omega)
    exact wpList_append hE hgd s x ho hown hs hx (news := ys.map (.int k)) (by simp) hc.news ints_one h63 hbase (fun v' w' h1 h2 _ => h _ _ h1 (KeptBut.of_grown h2))
theorem opWp_appendI {P : Program} {w : World} {T E : TypeId} {bytes : Nat} {z : Value} (hE : Elem P T E 1 bytes z) {B : Nat}
    {o : Oper} {a : Act} {K : Act → World → Prop} {Q : Exit → Act → World → Prop} (s x : Operand)
    (ho : o.op = .call { callee := .builtin .append, args := #[s, x], argTypes := #[T, T] })
    {v : Value} {n : Nat} {xs : List Value} (hown : Own w B E 1 v n xs) (hs : a.eval s = v)
    {S : Nat → Prop} {k : IntKind} {sv : Value} {ys : List Int} (hx : a.eval x = sv) (hsv : SlI S w k sv ys)
    (h63 : n + ys.length ≤ 1099511627) (hbase : B ≤ w.heap.size)
    (h : ∀ v' w', Own w' B E 1 v' (n + ys.length) (xs ++ ys.map (.int k)) → KeptBut w w' v.ownBlock → K (a.put o.dst v') w') : o.wp P a w K Q := by
  obtain ⟨ad, b, off, cap, rfl, hl, ha, hc⟩ := hsv
  by_cases h0 : ys.length = 0
  · have hy : ys = [] := List.eq_nil_of_length_eq_zero h0
    subst hy
    have hr := append_run0 (ty := o.type) hE v n xs hown ad cap
    unfold Oper.wp execOp
    simp only [ho, resolve, invoke, builtin, Sem.run_bind, Sem.run_pure, Result.andThen_ok, List.map_toArray, List.map_cons, List.map_nil, hs, hx, List.length_nil, hr]
    exact h _ _ (by simpa using hown) ⟨rfl, rfl, rfl, Nat.le_refl _, fun _ _ _ => rfl⟩
  · obtain ⟨rfl, _⟩ := ha (by omega)
    obtain ⟨v', w', hr, h2, h3, h4⟩ := append_run (ty := o.type) hE v n xs hown ⟨b, off, none⟩ ys.length cap (ys.map (.int k)) (by simp) hc.news ints_one h63 hbase
    unfold Oper.wp execOp
    simp only [ho, resolve, invoke, builtin, Sem.run_bind, Sem.run_pure, Result.andThen_ok, List.map_toArray, List.map_cons, List.map_nil, hs, hx, hr]
    exact h _ _ h2 (KeptBut.of_grown h3)
set_option maxRecDepth 100000 in
set_option maxHeartbeats 4000000 in
theorem concat2_any {S S' : Nat → Prop} {nb : Nat} {s1 s2 : Value} {xs ys : List Int} {w : World} (h1 : SlI S w .i64 s1 xs) (h2 : SlI S' w .i64 s2 ys) (c1 : w.cell? ⟨nb, 0, none⟩ = some s1) (c2 : w.cell? ⟨nb, 1, none⟩ = some s2) (hx : xs.length ≤ 100000) (hy : ys.length ≤ 100000) :
    Calls Tryz.prog 77 #[.slice (some ⟨nb, 0, none⟩) 2 2] w fun e w' => ∃ u, e = .returned u ∧ Own w' w.heap.size 2 1 u (xs.length + ys.length) ((xs ++ ys).map (.int .i64)) ∧ Below w.heap.size w w' := by
  have g1 := Lib.hid h1
  have g2 := Lib.hid h2
  obtain ⟨a1, b1, o1, q1, rfl, hl1, ha1, hc1⟩ := h1
  obtain ⟨a2, b2, o2, q2, rfl, hl2, ha2, hc2⟩ := h2
  obtain ⟨T, hT⟩ : ∃ T : Nat, T = xs.length + ys.length := ⟨_, rfl⟩
  have hgr := growNil_any T w (by omega)
  have hwrap : IntKind.i64.wrap ((xs.length : Int) + (ys.length : Int)) = (T : Int) := by rw [IntWalk.i64_in _ (by omega), hT]; simp
  have hneg : ¬ ((T : Int) < 0) := by omega
  rw [← hT]
  go_enter Tryz.func77, Tryz.ntmps77
  go_wp2
  go_loop [11, 3] (fun iv sv => ∃ k m : Nat, k ≤ 2 ∧ iv = .int .i64 k ∧ sv = .int .i64 m ∧ m = (if k = 0 then 0 else if k = 1 then xs.length else T)) (fun iv _ => 2 - (RowKit.intOf iv).toNat)
  case atStart => exact ⟨0, 0, by omega, rfl, rfl, rfl⟩
  case round =>
    obtain ⟨k, m, hk, rfl, rfl, hm⟩ := hrel
    rcases (show k = 0 ∨ k = 1 ∨ k = 2 by omega) with rfl | rfl | rfl
    · simp only [if_true] at hm
      subst hm
      go_wp2
      go_round
      case rel => exact ⟨1, xs.length, by omega, by go_num, by go_num, rfl⟩
      case measure => simp [RowKit.intOf]
    · simp only [if_true, if_neg (show ¬ (1 : Nat) = 0 by omega)] at hm
      subst hm
      rw [show ((1 : Nat) : Int) = 1 from rfl]
      go_wp2
      exact ⟨⟨2, T, by omega, rfl, by rw [hT]; simp, by simp⟩, by simp [RowKit.intOf]⟩
    · simp only [if_neg (show ¬ (2 : Nat) = 0 by omega), if_neg (show ¬ (2 : Nat) = 1 by omega)] at hm
      obtain rfl := hm
      have HT := Lib.hid hT
      clear hT hwrap hneg
      go_wp2_with fail
      refine hgr.mono ?_
      rintro e w1 ⟨u, rfl, hu, hb1⟩
      clear hgr
      go_wp2_with fail
      go_loopw [27, 6] (fun iv sv wr => ∃ (k n : Nat) (L : List Value), k ≤ 2 ∧ iv = .int .i64 k ∧ n = (if k = 0 then 0 else if k = 1 then xs.length else m) ∧ L = (if k = 0 then [] else if k = 1 then xs.map (.int .i64) else (xs ++ ys).map (.int .i64)) ∧ Own wr w.heap.size 2 1 sv n L ∧ Below w.heap.size w wr) (fun iv _ _ => 2 - (RowKit.intOf iv).toNat)
      case atStart => exact ⟨0, 0, [], by omega, rfl, rfl, rfl, hu, hb1⟩
      case round =>
        obtain ⟨k, n, L, hk, rfl, hn, hL, hown, hb⟩ := hrel
        have d1 := (hb.cell (cell_lt c1)).trans c1
        have d2 := (hb.cell (cell_lt c2)).trans c2
        rcases (show k = 0 ∨ k = 1 ∨ k = 2 by omega) with rfl | rfl | rfl
        · simp only [if_true] at hn hL
          subst hn hL
          go_wp2_with (at_builtin; refine wpList_appendI elI64 rfl _ _ rfl hown rfl rfl (g1.out.below hb (Nat.le_refl _)) (by omega) hb.size ?_; intro v' w2 hown2 hkept; have hb2 := hkept.below hb hb.size hown.ge)
          exact ⟨⟨1, xs.length, xs.map (.int .i64), by omega, rfl, rfl, rfl, by simpa using hown2, hb2⟩, by simp [RowKit.intOf]⟩
        · simp only [if_true, if_neg (show ¬ (1 : Nat) = 0 by omega)] at hn hL
          subst hn hL
          rw [show ((1 : Nat) : Int) = 1 from rfl]
          go_wp2_with (at_builtin; refine wpList_appendI elI64 rfl _ _ rfl hown rfl rfl (g2.out.below hb (Nat.le_refl _)) (by omega) hb.size ?_; intro v' w2 hown2 hkept; have hb2 := hkept.below hb hb.size hown.ge)
          exact ⟨⟨2, m, (xs ++ ys).map (.int .i64), by omega, rfl, by simp, by simp, by rw [HT.out]; simpa using hown2, hb2⟩, by simp [RowKit.intOf]⟩
        · simp only [if_neg (show ¬ (2 : Nat) = 0 by omega), if_neg (show ¬ (2 : Nat) = 1 by omega)] at hn hL
          subst hn hL
          rw [show ((2 : Nat) : Int) = 2 from rfl]
          go_wp2_with fail
          go_ret
          exact ⟨_, rfl, hown, hb⟩
theorem least_snoc {T : List Nat} (h : T ≠ []) (x : Nat) : leastN (T ++ [x]) = min (leastN T) x := by
  unfold leastN
  rw [List.foldl_append, List.foldl_cons, List.foldl_nil]
  cases T with
  | nil => exact absurd rfl h
  | cons y t => rfl
theorem at_lt {l : List Nat} (h : l ≠ []) : atN l < l.length := List.idxOf_lt_length_of_mem (least_mem h)
theorem at_get {l : List Nat} (h : l ≠ []) : l[atN l]'(at_lt h) = leastN l := List.getElem_idxOf _
theorem at_step {l : List Nat} {k : Nat} (hk : k < l.length) : atN (l.take (k + 1)) = if l[k] < l.getD (atN (l.take k)) 0 then k else atN (l.take k) := by
  rw [List.take_succ_eq_append_getElem hk]
  by_cases h0 : k = 0
  · subst h0
    simp [atN, leastN]
  · have hne : l.take k ≠ [] := by
      intro e
      have := congrArg List.length e
      rw [List.length_take, List.length_nil] at this
      omega
    have hlen : (l.take k).length = k := by simp; omega
    have hg : l.getD (atN (l.take k)) 0 = leastN (l.take k) := by
      have h1 := at_lt hne
      have h2 := at_get hne
      rw [List.getElem_take] at h2
      rw [← h2, List.getD_eq_getElem?_getD, List.getElem?_eq_getElem (by omega)]
      rfl
    rw [hg]
    have hls := least_snoc hne l[k]
    by_cases hlt : l[k] < leastN (l.take k)
    · rw [if_pos hlt]
      have hm : l[k] ∉ l.take k := fun hm => by have := least_le hm; omega
      rw [atN, hls, show min (leastN (l.take k)) l[k] = l[k] by omega, List.idxOf_append, if_neg hm, hlen]
      simp
    · rw [if_neg hlt, atN, hls, show min (leastN (l.take k)) l[k] = leastN (l.take k) by omega, List.idxOf_append, if_pos (least_mem hne)]
      rfl
set_option maxHeartbeats 4000000 in
theorem l22First_any {S : Nat → Prop} (v : Value) (l : List Nat) (w : World) (hv : SlI S w .i64 v (natsI l)) (hn : l.length ≤ 100000) (hsm : ∃ ad n c, v = .slice (some ad) n c) :
    Calls Tryz.prog 113 #[v] w fun e w' => ∃ u, e = .returned u ∧ Own w' w.heap.size 2 1 u l.length ((natsI (rotL l)).map (.int .i64)) ∧ Below w.heap.size w w' := by
  have g1 := Lib.hid hv
  have hlen := hv.len
  obtain ⟨a, b, off, cap, rfl, hl, ha, hc0⟩ := hv
  obtain ⟨ad, n', c', hsm⟩ := hsm
  obtain rfl : a = some ad := by injection hsm
  clear hsm
  rw [natsI_len] at hl ha
  rw [natsI_len] at g1 ⊢
  go_enter Tryz.func113, Tryz.ntmps113
  go_wp2
  go_loopw [4, 3] (fun i j wr => ∃ k m : Nat, k ≤ l.length ∧ i = .int .i64 k ∧ j = .int .i64 m ∧ m ≤ k ∧ (m = k → k = 0) ∧ m = atN (l.take k) ∧ Drawn w wr) (fun i _ _ => l.length - (RowKit.intOf i).toNat)
  case atStart => exact ⟨0, 0, by omega, rfl, rfl, by omega, by omega, rfl, Drawn.refl _⟩
  case round =>
    obtain ⟨k, m, hk, rfl, rfl, hmk, hm0, hm, hq⟩ := hrel
    have hc := hc0.drawn hq
    by_cases hlt : k < l.length
    case neg =>
      obtain rfl : k = l.length := by omega
      rw [List.take_length] at hm
      have hgd := g1.out.drawn hq
      by_cases h0 : l = []
      · subst h0
        obtain rfl : m = 0 := by simpa [atN] using hm
        have hE : SlI S wr .i64 (.slice (some ad) 0 cap) (natsI []) := ⟨_, b, off, cap, rfl, ⟨Nat.zero_le _, by have := hl.2; omega⟩, fun h => by simp [natsI] at h, fun i hi => by simp [natsI] at hi⟩
        clear hm0 hm g1 hgd hc0 hc ha hlen
        go_wp2
        refine wp_region_held_drew (S := (fun _ => True)) (by kernel_rfl) ?_ (fun hHeld => ?_)
        · trivial
        have hdw : Drawn wr wr.drew := (Drawn.refl _).drew
        generalize wr.drew = wd at hdw hHeld ⊢
        refine wpAnyH_take (i := 0) (v := ?v1) (by simp only [List.getElem?_toArray, List.getElem?_cons_zero]; exact rfl) (by kernel_rfl) (by kernel_rfl) (by kernel_rfl) (by intro _ _ _ h; exact h) (Or.inl ⟨by rfl, ?y1⟩) hHeld ?_
        case y1 => (intro w hSw; (try dsimp only at hSw); go_simp; try (with_reducible rfl))
        try simp only [Act.put, List.setIfInBounds_toArray, List.set_cons_zero, List.set_cons_succ]
        refine wpAnyH_take (i := 1) (v := ?v2) (by simp only [List.getElem?_toArray, List.getElem?_cons_succ, List.getElem?_cons_zero]; exact rfl) (by kernel_rfl) (by kernel_rfl) (by kernel_rfl) (by intro _ _ _ h; exact h) (Or.inl ⟨by rfl, ?y2⟩) hHeld ?_
        case y2 => (intro w hSw; (try dsimp only at hSw); go_simp; try (with_reducible rfl))
        try simp only [Act.put, List.setIfInBounds_toArray, List.set_cons_zero, List.set_cons_succ]
        refine wpAnyH_take (i := 2) (v := ?v3) (by simp only [List.getElem?_toArray, List.getElem?_cons_succ, List.getElem?_cons_zero]; exact rfl) (by kernel_rfl) (by kernel_rfl) (by kernel_rfl) (by intro _ _ _ h; exact h) (Or.inl ⟨by rfl, ?y3⟩) hHeld ?_
        case y3 => (intro w hSw; (try dsimp only at hSw); go_simp; try (with_reducible rfl))
        try simp only [Act.put, List.setIfInBounds_toArray, List.set_cons_zero, List.set_cons_succ]
        refine wpAnyH_take (i := 4) (v := ?v4) (by simp only [List.getElem?_toArray, List.getElem?_cons_succ, List.getElem?_cons_zero]; exact rfl) (by kernel_rfl) (by kernel_rfl) (by kernel_rfl) (by intro _ _ _ h; exact h) (Or.inl ⟨by rfl, ?y4⟩) hHeld ?_
        case y4 => (intro w hSw; (try dsimp only at hSw); go_simp; try (with_reducible rfl))
        try simp only [Act.put, List.setIfInBounds_toArray, List.set_cons_zero, List.set_cons_succ]
        refine wpAnyH_take (i := 5) (v := ?v5) (by simp only [List.getElem?_toArray, List.getElem?_cons_succ, List.getElem?_cons_zero]; exact rfl) (by kernel_rfl) (by kernel_rfl) (by kernel_rfl) (by intro _ _ _ h; exact h) (Or.inl ⟨by rfl, ?y5⟩) hHeld ?_
        case y5 => (intro w hSw; (try dsimp only at hSw); go_simp; try (with_reducible rfl))
        try simp only [Act.put, List.setIfInBounds_toArray, List.set_cons_zero, List.set_cons_succ]
        refine wpAnyH_take (i := 6) (v := ?v6) (by simp only [List.getElem?_toArray, List.getElem?_cons_succ, List.getElem?_cons_zero]; exact rfl) (by kernel_rfl) (by kernel_rfl) (by kernel_rfl) (by intro _ _ _ h; exact h) (Or.inl ⟨by rfl, ?y6⟩) hHeld ?_
        case y6 => (intro w hSw; (try dsimp only at hSw); go_simp; try (with_reducible rfl))
        try simp only [Act.put, List.setIfInBounds_toArray, List.set_cons_zero, List.set_cons_succ]
        refine wpAnyH_ready (rs := [3]) (by kernel_rfl) (by simp) ?_
        refine AllReadyH.cons (by simp only [List.getElem?_toArray, List.getElem?_cons_succ, List.getElem?_cons_zero]; exact rfl) (fun K hK => ?_) AllReadyH.nil
        go_simp
        refine (l1Copy_any _ _ _ (hE.drawn hdw) (by simp [natsI])).mono ?_
        rintro e w3 ⟨xc, rfl, hxc, hb3⟩
        rw [natsI_len] at hxc
        try dsimp only
        refine hK.out _ _ ?h8 (fun hHeld => ?_)
        case h8 => trivial
        clear hK K
        try simp only [Act.put, List.setIfInBounds_toArray, List.set_cons_zero, List.set_cons_succ]
        refine wpAnyH_ready (rs := [7]) (by kernel_rfl) (by simp) ?_
        refine AllReadyH.cons (by simp only [List.getElem?_toArray, List.getElem?_cons_succ, List.getElem?_cons_zero]; exact rfl) (fun K hK => ?_) AllReadyH.nil
        rw [if_pos (by rfl)]
        refine opWp_appendI elI64 _ _ rfl hxc rfl rfl ((hE.drawn hdw).below hb3 (Nat.le_refl _)) (by simp [natsI]) hb3.size ?_
        intro v' w4 hown4 hkept
        try dsimp only
        refine hK.out _ _ ?h10 (fun hHeld => ?_)
        case h10 => trivial
        clear hK K
        try simp only [Act.put, List.setIfInBounds_toArray, List.set_cons_zero, List.set_cons_succ]
        refine wpAnyH_take (i := 8) (v := ?v11) (by simp only [List.getElem?_toArray, List.getElem?_cons_succ, List.getElem?_cons_zero]; exact rfl) (by kernel_rfl) (by kernel_rfl) (by kernel_rfl) (by intro _ _ _ h; exact h) (Or.inl ⟨by rfl, ?y11⟩) hHeld ?_
        case y11 => (intro w hSw; (try dsimp only at hSw); go_simp; try (with_reducible rfl))
        try simp only [Act.put, List.setIfInBounds_toArray, List.set_cons_zero, List.set_cons_succ]
        refine wpAnyH_done (by kernel_rfl) ?_ _
        skip
        have hq3 := ((hq.trans hdw).below _).trans (hb3.mono ((hq.trans hdw).below w.heap.size).size)
        have hq4 := hkept.below hq3 hq3.size (fun c h => Nat.le_trans ((hq.trans hdw).below w.heap.size).size (hxc.lt c h).1)
        have hown5 := hown4.weak ((hq.trans hdw).below w.heap.size).size
        clear hown4 hkept hb3 hxc
        go_wp2
        go_ret
        exact ⟨_, rfl, by simpa [natsI, rotL] using hown5, hq4⟩
      have hml : m < l.length := by rw [hm]; exact at_lt h0
      obtain ⟨had, hS⟩ := ha (by omega)
      obtain rfl : ad = ⟨b, off, none⟩ := by injection had
      have hd1 : SlI S wr .i64 (.slice (some ⟨b, off + m, none⟩) (l.length - m) (cap - m)) (natsI (l.drop m)) := by
        have := hgd.drop (m := m) (by simpa using hml)
        simpa [natsI, List.map_drop] using this
      have hd2 : SlI S wr .i64 (.slice (some ⟨b, off, none⟩) m cap) (natsI (l.take m)) := by
        have := hgd.take (m := m) (by omega)
        simpa [natsI, List.map_take] using this
      have HL := Lib.hid (show natsI (rotL l) = natsI (l.drop m) ++ natsI (l.take m) by show natsI (l.drop (atN l) ++ l.take (atN l)) = _; rw [← hm]; simp [natsI])
      have H0 := Lib.hid h0
      have hlm : (l.drop m).length ≤ 100000 := by simp; omega
      have hmc : ¬ cap = m := by omega
      have hmc2 : m ≤ cap := by omega
      have HL3 := Lib.hid (show (l.drop m).length + (l.take m).length = l.length by simp; omega)
      clear hm hm0 h0 g1 hgd hc0 hc ha hlen
      go_wp2
      refine wp_region_held_drew (S := (fun _ => True)) (by kernel_rfl) ?_ (fun hHeld => ?_)
      · trivial
      have hdw : Drawn wr wr.drew := (Drawn.refl _).drew
      generalize wr.drew = wd at hdw hHeld ⊢
      refine wpAnyH_take (i := 0) (v := ?v12) (by simp only [List.getElem?_toArray, List.getElem?_cons_zero]; exact rfl) (by kernel_rfl) (by kernel_rfl) (by kernel_rfl) (by intro _ _ _ h; exact h) (Or.inl ⟨by rfl, ?y12⟩) hHeld ?_
      case y12 => (intro w hSw; (try dsimp only at hSw); go_simp; try (with_reducible rfl))
      try simp only [Act.put, List.setIfInBounds_toArray, List.set_cons_zero, List.set_cons_succ]
      refine wpAnyH_take (i := 1) (v := ?v13) (by simp only [List.getElem?_toArray, List.getElem?_cons_succ, List.getElem?_cons_zero]; exact rfl) (by kernel_rfl) (by kernel_rfl) (by kernel_rfl) (by intro _ _ _ h; exact h) (Or.inl ⟨by rfl, ?y13⟩) hHeld ?_
      case y13 => (intro w hSw; (try dsimp only at hSw); go_simp; try (with_reducible rfl))
      try simp only [Act.put, List.setIfInBounds_toArray, List.set_cons_zero, List.set_cons_succ]
      refine wpAnyH_take (i := 2) (v := ?v14) (by simp only [List.getElem?_toArray, List.getElem?_cons_succ, List.getElem?_cons_zero]; exact rfl) (by kernel_rfl) (by kernel_rfl) (by kernel_rfl) (by intro _ _ _ h; exact h) (Or.inl ⟨by rfl, ?y14⟩) hHeld ?_
      case y14 => (intro w hSw; (try dsimp only at hSw); go_simp; try (with_reducible rfl))
      try simp only [Act.put, List.setIfInBounds_toArray, List.set_cons_zero, List.set_cons_succ]
      refine wpAnyH_take (i := 4) (v := ?v15) (by simp only [List.getElem?_toArray, List.getElem?_cons_succ, List.getElem?_cons_zero]; exact rfl) (by kernel_rfl) (by kernel_rfl) (by kernel_rfl) (by intro _ _ _ h; exact h) (Or.inl ⟨by rfl, ?y15⟩) hHeld ?_
      case y15 => (intro w hSw; (try dsimp only at hSw); go_simp; try (with_reducible rfl))
      try simp only [Act.put, List.setIfInBounds_toArray, List.set_cons_zero, List.set_cons_succ]
      refine wpAnyH_take (i := 5) (v := ?v16) (by simp only [List.getElem?_toArray, List.getElem?_cons_succ, List.getElem?_cons_zero]; exact rfl) (by kernel_rfl) (by kernel_rfl) (by kernel_rfl) (by intro _ _ _ h; exact h) (Or.inl ⟨by rfl, ?y16⟩) hHeld ?_
      case y16 => (intro w hSw; (try dsimp only at hSw); go_simp; try (with_reducible rfl))
      try simp only [Act.put, List.setIfInBounds_toArray, List.set_cons_zero, List.set_cons_succ]
      refine wpAnyH_take (i := 6) (v := ?v17) (by simp only [List.getElem?_toArray, List.getElem?_cons_succ, List.getElem?_cons_zero]; exact rfl) (by kernel_rfl) (by kernel_rfl) (by kernel_rfl) (by intro _ _ _ h; exact h) (Or.inl ⟨by rfl, ?y17⟩) hHeld ?_
      case y17 => (intro w hSw; (try dsimp only at hSw); go_simp; try (with_reducible rfl))
      try simp only [Act.put, List.setIfInBounds_toArray, List.set_cons_zero, List.set_cons_succ]
      refine wpAnyH_ready (rs := [3]) (by kernel_rfl) (by simp) ?_
      refine AllReadyH.cons (by simp only [List.getElem?_toArray, List.getElem?_cons_succ, List.getElem?_cons_zero]; exact rfl) (fun K hK => ?_) AllReadyH.nil
      go_simp
      refine (l1Copy_any _ _ _ (hd1.drawn hdw) (by rw [natsI_len]; exact Nat.le_trans hlm (by omega))).mono ?_
      rintro e w3 ⟨xc, rfl, hxc, hb3⟩
      rw [natsI_len] at hxc
      try dsimp only
      refine hK.out _ _ ?h19 (fun hHeld => ?_)
      case h19 => trivial
      clear hK K
      try simp only [Act.put, List.setIfInBounds_toArray, List.set_cons_zero, List.set_cons_succ]
      refine wpAnyH_ready (rs := [7]) (by kernel_rfl) (by simp) ?_
      refine AllReadyH.cons (by simp only [List.getElem?_toArray, List.getElem?_cons_succ, List.getElem?_cons_zero]; exact rfl) (fun K hK => ?_) AllReadyH.nil
      rw [if_pos (by rfl)]
      refine opWp_appendI elI64 _ _ rfl hxc rfl rfl ((hd2.drawn hdw).below hb3 (Nat.le_refl _)) (by rw [natsI_len]; have := HL3.out; omega) hb3.size ?_
      intro v' w4 hown4 hkept
      try dsimp only
      refine hK.out _ _ ?h21 (fun hHeld => ?_)
      case h21 => trivial
      clear hK K
      try simp only [Act.put, List.setIfInBounds_toArray, List.set_cons_zero, List.set_cons_succ]
      refine wpAnyH_take (i := 8) (v := ?v22) (by simp only [List.getElem?_toArray, List.getElem?_cons_succ, List.getElem?_cons_zero]; exact rfl) (by kernel_rfl) (by kernel_rfl) (by kernel_rfl) (by intro _ _ _ h; exact h) (Or.inl ⟨by rfl, ?y22⟩) hHeld ?_
      case y22 => (intro w hSw; (try dsimp only at hSw); go_simp; try (with_reducible rfl))
      try simp only [Act.put, List.setIfInBounds_toArray, List.set_cons_zero, List.set_cons_succ]
      refine wpAnyH_done (by kernel_rfl) ?_ _
      skip
      rw [natsI_len, HL3.out, ← List.map_append, ← HL.out] at hown4
      have hq3 := ((hq.trans hdw).below _).trans (hb3.mono ((hq.trans hdw).below w.heap.size).size)
      have hq4 := hkept.below hq3 hq3.size (fun c h => Nat.le_trans ((hq.trans hdw).below w.heap.size).size (hxc.lt c h).1)
      have hown5 := hown4.weak ((hq.trans hdw).below w.heap.size).size
      clear hown4 hkept hb3 hxc
      go_wp2
      go_ret
      exact ⟨_, rfl, hown5, hq4⟩
    have c1 : wr.cell? ⟨b, off + k, none⟩ = some (.int .i64 (l[k] : Int)) := by simpa [natsI] using hc k (by rw [natsI_len]; exact hlt)
    have hml : m < l.length := by omega
    have c2 : wr.cell? ⟨b, off + m, none⟩ = some (.int .i64 (l[m] : Int)) := by simpa [natsI] using hc m (by rw [natsI_len]; exact hml)
    have hst := at_step hlt
    rw [← hm, List.getD_eq_getElem?_getD, List.getElem?_eq_getElem hml, Option.getD_some] at hst
    have HST := Lib.hid hst
    have HM := Lib.hid hm
    clear hst hm
    obtain ⟨had, hS⟩ := ha (by omega)
    obtain rfl : ad = ⟨b, off, none⟩ := by injection had
    clear had
    generalize l[k] = x at *
    generalize l[m] = y at *
    by_cases hle : x < y
    · have hcb : decide ((x : Int) < (y : Int)) = true := by simpa using hle
      have HX := Lib.hid hle
      clear hle
      go_wp2
      go_quiet (fail)
      go_wp2
      go_roundw
      case rel => exact ⟨k + 1, k, by omega, by go_num, rfl, by omega, by omega, by rw [HST.out, if_pos HX.out], hq.drewN _⟩
      case measure => simp [RowKit.intOf]; omega
    · have hcb : decide ((x : Int) < (y : Int)) = false := by simpa using hle
      have HX := Lib.hid hle
      clear hle
      go_wp2
      go_quiet (fail)
      go_wp2
      go_roundw
      case rel => exact ⟨k + 1, m, by omega, by go_num, rfl, by omega, by omega, by rw [HST.out, if_neg HX.out], hq.drewN _⟩
      case measure => simp [RowKit.intOf]; omega
set_option maxRecDepth 100000 in
set_option maxHeartbeats 8000000 in
theorem aroundOf_any {S : Nat → Prop} {tv : Value} {ts : List (List Nat)} {w : World} (hv : SlR S w tv (ts.map natsI)) (hL : ts.length ≤ 100000) (hs : ∀ l ∈ ts, l.length ≤ 100000 ∧ ∀ x ∈ l, x < 1048576) :
    Calls Tryz.prog 38 #[tv] w fun e w' => ∃ x, e = .returned (.agg #[x]) ∧ OwnR w' w.heap.size w'.heap.size 36 2 x ((ts.map rotL).map natsI) ∧ Below w.heap.size w w' := by
  obtain ⟨a, b, off, cap, f, rfl, hl, ha, hc0⟩ := hv
  rw [List.length_map] at *
  have hq0 : Below w.heap.size w ((w.alloc (.cells #[.slice none 0 0] 28)).alloc (.cells #[.slice none 0 0] 28)) := ((Below.refl _ _).alloc (Nat.le_refl _) _).alloc (by simp) _
  have hr0 : Own ((w.alloc (.cells #[.slice none 0 0] 28)).alloc (.cells #[.slice none 0 0] 28)) w.heap.size 28 1 (.slice (some ⟨w.heap.size, 0, none⟩) 1 1) 1 [.slice none 0 0] :=
    (own_new w w.heap.size 28 (.slice none 0 0) (Nat.le_refl _)).alloc _
  have ho0 : Own ((w.alloc (.cells #[.slice none 0 0] 28)).alloc (.cells #[.slice none 0 0] 28)) w.heap.size 28 1 (.slice (some ⟨w.heap.size + 1, 0, none⟩) 1 1) 1 [.slice none 0 0] := by
    have h := own_new (w.alloc (.cells #[.slice none 0 0] 28)) w.heap.size 28 (.slice none 0 0) (by simp)
    rw [show (w.alloc (.cells #[.slice none 0 0] 28)).heap.size = w.heap.size + 1 by simp] at h
    exact h
  have hS0 : OwnR ((w.alloc (.cells #[.slice none 0 0] 28)).alloc (.cells #[.slice none 0 0] 28)) (w.heap.size + 2) ((w.alloc (.cells #[.slice none 0 0] 28)).alloc (.cells #[.slice none 0 0] 28)).heap.size 36 2 (.slice none 0 0) [] := ⟨[], rfl, Own.nil _ _ _ _, fun b hb => by simp [Value.ownBlock] at hb, ApartL.nil, fun i hi => by simp at hi⟩
  have HG := Lib.hid (fun k (hk : k < ts.length) => show ((ts.map rotL).map natsI).take (k + 1) = ((ts.map rotL).map natsI).take k ++ [natsI (rotL ts[k])] by rw [List.take_succ_eq_append_getElem (by simpa using hk)]; simp)
  have hGL := Lib.hid (show ((ts.map rotL).map natsI).length = ts.length by simp)
  have HS := Lib.hid hs
  generalize ((ts.map rotL).map natsI) = G at *
  clear hs
  go_enter Tryz.func38, Tryz.ntmps38
  go_wp2
  go_loopw [11] (fun i wr => ∃ (k : Nat) (o : Value), k ≤ ts.length ∧ i = .int .i64 k ∧ OwnR wr (w.heap.size + 2) wr.heap.size 36 2 o (G.take k) ∧ Own wr w.heap.size 28 1 (.slice (some ⟨w.heap.size, 0, none⟩) 1 1) 1 [.slice none 0 0] ∧ Own wr w.heap.size 28 1 (.slice (some ⟨w.heap.size + 1, 0, none⟩) 1 1) 1 [o] ∧ Below w.heap.size w wr ∧ w.heap.size + 2 ≤ wr.heap.size) (fun i _ => ts.length - (RowKit.intOf i).toNat)
  case atStart => exact ⟨0, _, Nat.zero_le _, rfl, by rw [List.take_zero]; exact hS0, hr0, ho0, hq0, by simp⟩
  case round =>
    clear hS0 hr0 ho0 hq0
    obtain ⟨k, o, hk, rfl, hS, hr, ho, hq, hsz⟩ := hrel
    obtain ⟨wi, rfl⟩ : ∃ wx : World, wx = wr := ⟨_, rfl⟩
    have hlen : (G.take k).length = k := by rw [List.length_take, hGL.out]; omega
    obtain ⟨o1, o2, -, o3⟩ := own_cell ho
    obtain ⟨r1, r2, -, r3⟩ := own_cell hr
    obtain ⟨oa, oc, rfl⟩ := hS.isSlice
    rw [hlen] at hS ho o1
    have HLN := Lib.hid hlen
    clear hlen
    by_cases hlt : k < ts.length
    case neg =>
      obtain rfl : k = ts.length := by omega
      have hSo : OwnR wi (w.heap.size + 2) wi.heap.size 36 2 (.slice oa ts.length oc) (G.take ts.length) := hS
      go_wp2
      refine bodyPost_ret (v := .agg #[.slice oa ts.length oc]) (by simp [results, Tryz.results38, go_sem, r1]) rfl ⟨_, rfl, ?_, hq.setCell (by simp) _⟩
      have h6 := (hSo.setOther hr (by decide) (by decide) (.slice oa ts.length oc)).weaken (B1 := w.heap.size) (C1 := (wi.setCell ⟨w.heap.size, 0, none⟩ (.slice oa ts.length oc)).heap.size) (by omega) (by simp)
      rw [List.take_of_length_le (by rw [hGL.out]; exact Nat.le_refl _)] at h6
      exact h6
    obtain ⟨hcr0, hrow0⟩ := hc0 k (by rw [List.length_map]; exact hlt)
    obtain ⟨rfl, -⟩ := ha (by omega)
    have hcr := (hq.cell (p := ⟨b, off + k, none⟩) (cell_lt hcr0)).trans hcr0
    have hrow := hrow0.below hq (Nat.le_refl _)
    rw [List.getElem_map] at hrow
    obtain ⟨hl1, hl2⟩ := HS.out ts[k] (List.getElem_mem hlt)
    have HGK := Lib.hid (HG.out k hlt)
    have hwd := wide_any hrow (by rw [natsI_len]; omega)
    generalize ts[k] = l at *
    obtain ⟨ra, rc, hre⟩ := hrow.slice
    rw [hre] at hcr hwd
    rw [natsI_len] at hcr hwd
    clear hcr0 hrow0 hre HG hrow
    go_wp2_with fail
    refine hwd.mono ?_
    rintro e w2 ⟨u2, rfl, hu2, hb2⟩
    clear hwd
    have hwi2 := hb2.size
    by_cases h0 : l = []
    · subst h0
      obtain ⟨la, lc, rfl⟩ := hu2.isSlice
      have hb3 := hb2
      have hx3 : Own w2 wi.heap.size 2 1 (.slice la 0 lc) (natsI (rotL [])).length ((natsI (rotL [])).map (.int .i64)) := hu2
      have hrl : (natsI (rotL [])).length = 0 := rfl
      have hqx := hq.trans (hb3.mono hq.size)
      have hSx := hS.below hb3 (Nat.le_refl _)
      have hox := ho.below hb3 (Nat.le_refl _)
      have hrx := hr.below hb3 (Nat.le_refl _)
      obtain ⟨p1, p2, -, p3⟩ := own_cell hox
      obtain ⟨vs, hvl, hown, hbC, hap, hrows⟩ := hSx
      rw [HLN.out] at hvl hown
      clear o1 o2 o3 r1 r2 r3
      have HX3 := Lib.hid hx3
      clear hx3
      go_wp2_with (at_builtin; refine hold_in ?_)
      unfold HoldP
      refine wpList_append1 elRows rfl _ _ rfl hown rfl rfl rfl (by omega) (by have := hb3.size; omega) ?_
      intro o5 w5 hown5 hkept hmv
      have hS5 : OwnR w5 (w.heap.size + 2) w5.heap.size 36 2 o5 (G.take k ++ [natsI (rotL [])]) := ownR_snoc (C := wi.heap.size) (v := (.slice la 0 lc)) (by rw [HLN.out]; exact hvl) hb3.size hap hrows hbC (by rw [HLN.out]; exact hown5) (HX3.out.weak hsz) (fun b hb => HX3.out.ge b hb) hkept (by
        rcases hmv with h | h
        · exact .inl h
        · exact .inr ⟨_, h, by simp⟩)
      have ho5 := hox.otherT hown (by decide) hkept
      have hr5 := hrx.otherT hown (by decide) hkept
      have hq5 := hkept.below hqx hqx.size (fun b hb => by have := (hown.lt b hb).1; omega)
      have hz5 : w.heap.size + 2 ≤ w5.heap.size := Nat.le_trans (Nat.le_trans hsz hb3.size) hkept.2.2.2.1
      obtain ⟨q1, q2, -, q3⟩ := own_cell ho5
      obtain ⟨oa5, oc5, rfl⟩ := hown5.isSlice
      have ho6 := own_set ho5 (.slice oa5 (k + 1) oc5)
      have hr6 : Own (w5.setCell ⟨w.heap.size + 1, 0, none⟩ (.slice oa5 (k + 1) oc5)) w.heap.size 28 1 (.slice (some ⟨w.heap.size, 0, none⟩) 1 1) 1 [.slice none 0 0] := hr5.keep (fun b hb => Below.heap_setCell _ _ _ _ (by have : w.heap.size = b := (by simpa [Value.ownBlock] using hb); simp; omega))
      have hS6 : OwnR (w5.setCell ⟨w.heap.size + 1, 0, none⟩ (.slice oa5 (k + 1) oc5)) (w.heap.size + 2) (w5.setCell ⟨w.heap.size + 1, 0, none⟩ (.slice oa5 (k + 1) oc5)).heap.size 36 2 (.slice oa5 (k + 1) oc5) (G.take k ++ [natsI (rotL [])]) := (hS5.setOther ho5 (by decide) (by decide) (.slice oa5 (k + 1) oc5)).weaken (Nat.le_refl _) (by simp)
      have hq6 : Below w.heap.size w (w5.setCell ⟨w.heap.size + 1, 0, none⟩ (.slice oa5 (k + 1) oc5)) := hq5.setCell (by first | (simp; done) | (simp; omega)) _
      have hz6 : w.heap.size + 2 ≤ (w5.setCell ⟨w.heap.size + 1, 0, none⟩ (.slice oa5 (k + 1) oc5)).heap.size := by simpa using hz5
      clear hS5 hown5 hkept hmv hrows hown
      go_wp2_with fail
      exact ⟨⟨k + 1, _, by omega, by simp, by rw [HGK.out]; exact hS6, hr6, ho6, hq6, hz6⟩, by simp [RowKit.intOf]; omega⟩
    · have hl0 : 0 < l.length := List.length_pos_iff.2 h0
      have hui := Own.ints (xs := natsI l) (by simpa using hu2) (by first | omega | (rw [natsI_len]; omega))
      have hmin := minN_any hui hl0 hl2 (by omega)
      have hidx := index_any _ _ (leastN l : Int) _ hui
      rw [idx_nat (least_mem h0), show l.idxOf (leastN l) = atN l from rfl] at hidx
      have hal := at_lt h0
      obtain ⟨la, lc, rfl⟩ := hu2.isSlice
      obtain ⟨ua, ub, uo, uc, hue, hul, hua, -⟩ := id hui
      obtain ⟨rfl, -⟩ := hua (by rw [natsI_len]; exact hl0)
      simp only [Value.slice.injEq] at hue
      obtain ⟨rfl, -, rfl⟩ := hue
      rw [natsI_len] at hul
      have hd1 := hui.drop (m := atN l) hal
      have hd2 := hui.take (m := atN l) (by omega)
      have e1 : (natsI l).drop (atN l) = natsI (l.drop (atN l)) := by simp [natsI, List.map_drop]
      have e2 : (natsI l).take (atN l) = natsI (l.take (atN l)) := by simp [natsI, List.map_take]
      rw [e1] at hd1
      rw [e2] at hd2
      have HL := Lib.hid (show natsI (rotL l) = natsI (l.drop (atN l)) ++ natsI (l.take (atN l)) by show natsI (l.drop (atN l) ++ l.take (atN l)) = _; simp [natsI])
      have HLL := Lib.hid (show (natsI (l.drop (atN l))).length + (natsI (l.take (atN l))).length = l.length by rw [natsI_len, natsI_len]; simp; omega)
      have hD1 : (natsI (l.drop (atN l))).length ≤ 100000 := by have := HLL.out; omega
      have hD2 : (natsI (l.take (atN l))).length ≤ 100000 := by have := HLL.out; omega
      have hrl : (natsI (rotL l)).length = l.length := by rw [HL.out, List.length_append]; exact HLL.out
      have HRL := Lib.hid hrl
      generalize hm : atN l = m at *
      clear hm e1 e2 hrl hu2
      go_wp2_with fail
      refine hmin.mono ?_
      rintro e w3 ⟨rfl, rfl⟩
      go_wp2_with fail
      refine hidx.mono ?_
      rintro e w3 ⟨rfl, rfl⟩
      clear hmin hidx
      have hmc : ¬ lc = m := by omega
      have hmc2 : m ≤ lc := by omega
      have hml : m ≤ l.length := by omega
      go_wp2_with fail
      refine wp_region_held_drew (S := (fun _ => True)) (by kernel_rfl) ?_ (fun hHeld => ?_)
      · trivial
      have hdw : Drawn w2 w2.drew := (Drawn.refl _).drew
      generalize w2.drew = wd at hdw hHeld ⊢
      refine wpAnyH_take (i := 0) (v := ?v23) (by simp only [List.getElem?_toArray, List.getElem?_cons_zero]; exact rfl) (by kernel_rfl) (by kernel_rfl) (by kernel_rfl) (by intro _ _ _ h; exact h) (Or.inl ⟨by rfl, ?y23⟩) hHeld ?_
      case y23 => (intro w hSw; (try dsimp only at hSw); go_simp; try (with_reducible rfl))
      try simp only [Act.put, List.setIfInBounds_toArray, List.set_cons_zero, List.set_cons_succ]
      refine wpAnyH_take (i := 1) (v := ?v24) (by simp only [List.getElem?_toArray, List.getElem?_cons_succ, List.getElem?_cons_zero]; exact rfl) (by kernel_rfl) (by kernel_rfl) (by kernel_rfl) (by intro _ _ _ h; exact h) (Or.inl ⟨by rfl, ?y24⟩) hHeld ?_
      case y24 => (intro w hSw; (try dsimp only at hSw); go_simp; try (with_reducible rfl))
      try simp only [Act.put, List.setIfInBounds_toArray, List.set_cons_zero, List.set_cons_succ]
      refine wpAnyH_take (i := 2) (v := ?v25) (by simp only [List.getElem?_toArray, List.getElem?_cons_succ, List.getElem?_cons_zero]; exact rfl) (by kernel_rfl) (by kernel_rfl) (by kernel_rfl) (by intro _ _ _ h; exact h) (Or.inl ⟨by rfl, ?y25⟩) hHeld ?_
      case y25 => (intro w hSw; (try dsimp only at hSw); go_simp; try (with_reducible rfl))
      try simp only [Act.put, List.setIfInBounds_toArray, List.set_cons_zero, List.set_cons_succ]
      refine wpAnyH_take (i := 3) (v := ?v26) (by simp only [List.getElem?_toArray, List.getElem?_cons_succ, List.getElem?_cons_zero]; exact rfl) (by kernel_rfl) (by kernel_rfl) (by kernel_rfl) (by intro _ _ _ h; exact h) (Or.inl ⟨by rfl, ?y26⟩) hHeld ?_
      case y26 => (intro w hSw; (try dsimp only at hSw); go_simp; try (with_reducible rfl))
      try simp only [Act.put, List.setIfInBounds_toArray, List.set_cons_zero, List.set_cons_succ]
      refine wpAnyH_take (i := 4) (v := ?v27) (by simp only [List.getElem?_toArray, List.getElem?_cons_succ, List.getElem?_cons_zero]; exact rfl) (by kernel_rfl) (by kernel_rfl) (by kernel_rfl) (by intro _ _ _ h; exact h) (Or.inl ⟨by rfl, ?y27⟩) hHeld ?_
      case y27 => (intro w hSw; (try dsimp only at hSw); go_simp; try (with_reducible rfl))
      try simp only [Act.put, List.setIfInBounds_toArray, List.set_cons_zero, List.set_cons_succ]
      refine wpAnyH_take (i := 5) (v := ?v28) (by simp only [List.getElem?_toArray, List.getElem?_cons_succ, List.getElem?_cons_zero]; exact rfl) (by kernel_rfl) (by kernel_rfl) (by kernel_rfl) (by intro _ _ _ h; exact h) (Or.inl ⟨by rfl, ?y28⟩) hHeld ?_
      case y28 => (intro w hSw; (try dsimp only at hSw); go_simp; try (with_reducible rfl))
      try simp only [Act.put, List.setIfInBounds_toArray, List.set_cons_zero, List.set_cons_succ]
      refine wpAnyH_ready (rs := [6]) (by kernel_rfl) (by simp) ?_
      refine AllReadyH.cons (by simp only [List.getElem?_toArray, List.getElem?_cons_succ, List.getElem?_cons_zero]; exact rfl) (fun K hK => ?_) AllReadyH.nil
      go_simp
      skip
      try dsimp only
      refine hK.out _ _ ?h30 (fun hHeld => ?_)
      case h30 => trivial
      clear hK K
      try simp only [Act.put, List.setIfInBounds_toArray, List.set_cons_zero, List.set_cons_succ]
      refine wpAnyH_ready (rs := [7]) (by kernel_rfl) (by simp) ?_
      refine AllReadyH.cons (by simp only [List.getElem?_toArray, List.getElem?_cons_succ, List.getElem?_cons_zero]; exact rfl) (fun K hK => ?_) AllReadyH.nil
      go_simp
      have hbl : Below wd.heap.size wd (wd.alloc (.cells #[.slice (some ⟨ub, uo + m, none⟩) (l.length - m) (lc - m), .slice (some ⟨ub, uo, none⟩) m lc] 36)) := (Below.refl _ _).alloc (Nat.le_refl _) _
      refine (concat2_any (nb := wd.heap.size) ((hd1.drawn hdw).below hbl (Nat.le_refl _)) ((hd2.drawn hdw).below hbl (Nat.le_refl _)) (by simp [go_sem]) (by simp [go_sem]) hD1 hD2).mono ?_
      rintro e w3 ⟨x3, rfl, hx3, hb3⟩
      try dsimp only
      refine hK.out _ _ ?h32 (fun hHeld => ?_)
      case h32 => trivial
      clear hK K
      try simp only [Act.put, List.setIfInBounds_toArray, List.set_cons_zero, List.set_cons_succ]
      refine wpAnyH_take (i := 8) (v := ?v33) (by simp only [List.getElem?_toArray, List.getElem?_cons_succ, List.getElem?_cons_zero]; exact rfl) (by kernel_rfl) (by kernel_rfl) (by kernel_rfl) (by intro _ _ _ h; exact h) (Or.inl ⟨by rfl, ?y33⟩) hHeld ?_
      case y33 => (intro w hSw; (try dsimp only at hSw); go_simp; try (with_reducible rfl))
      try simp only [Act.put, List.setIfInBounds_toArray, List.set_cons_zero, List.set_cons_succ]
      refine wpAnyH_done (by kernel_rfl) ?_ _
      skip
      rw [HLL.out, ← HL.out] at hx3
      have hbz := hb2.trans (hdw.below _)
      have hbz := hbz.trans (hbl.mono hbz.size)
      have hb3 := hbz.trans (hb3.mono hbz.size)
      have hx3 := hx3.weak hbz.size
      obtain ⟨xa, xcap, rfl⟩ := hx3.isSlice
      have hx3 : Own w3 wi.heap.size 2 1 (.slice xa l.length xcap) (natsI (rotL l)).length ((natsI (rotL l)).map (.int .i64)) := by rw [HRL.out]; exact hx3
      clear hbl hbz hd1 hd2
      have hqx := hq.trans (hb3.mono hq.size)
      have hSx := hS.below hb3 (Nat.le_refl _)
      have hox := ho.below hb3 (Nat.le_refl _)
      have hrx := hr.below hb3 (Nat.le_refl _)
      obtain ⟨p1, p2, -, p3⟩ := own_cell hox
      obtain ⟨vs, hvl, hown, hbC, hap, hrows⟩ := hSx
      rw [HLN.out] at hvl hown
      clear o1 o2 o3 r1 r2 r3
      have HX3 := Lib.hid hx3
      clear hx3
      go_wp2_with (at_builtin; refine hold_in ?_)
      unfold HoldP
      refine wpList_append1 elRows rfl _ _ rfl hown rfl rfl rfl (by omega) (by have := hb3.size; omega) ?_
      intro o5 w5 hown5 hkept hmv
      have hS5 : OwnR w5 (w.heap.size + 2) w5.heap.size 36 2 o5 (G.take k ++ [natsI (rotL l)]) := ownR_snoc (C := wi.heap.size) (v := (.slice xa l.length xcap)) (by rw [HLN.out]; exact hvl) hb3.size hap hrows hbC (by rw [HLN.out]; exact hown5) (HX3.out.weak hsz) (fun b hb => HX3.out.ge b hb) hkept (by
        rcases hmv with h | h
        · exact .inl h
        · exact .inr ⟨_, h, by simp⟩)
      have ho5 := hox.otherT hown (by decide) hkept
      have hr5 := hrx.otherT hown (by decide) hkept
      have hq5 := hkept.below hqx hqx.size (fun b hb => by have := (hown.lt b hb).1; omega)
      have hz5 : w.heap.size + 2 ≤ w5.heap.size := Nat.le_trans (Nat.le_trans hsz hb3.size) hkept.2.2.2.1
      obtain ⟨q1, q2, -, q3⟩ := own_cell ho5
      obtain ⟨oa5, oc5, rfl⟩ := hown5.isSlice
      have ho6 := own_set ho5 (.slice oa5 (k + 1) oc5)
      have hr6 : Own (w5.setCell ⟨w.heap.size + 1, 0, none⟩ (.slice oa5 (k + 1) oc5)) w.heap.size 28 1 (.slice (some ⟨w.heap.size, 0, none⟩) 1 1) 1 [.slice none 0 0] := hr5.keep (fun b hb => Below.heap_setCell _ _ _ _ (by have : w.heap.size = b := (by simpa [Value.ownBlock] using hb); simp; omega))
      have hS6 : OwnR (w5.setCell ⟨w.heap.size + 1, 0, none⟩ (.slice oa5 (k + 1) oc5)) (w.heap.size + 2) (w5.setCell ⟨w.heap.size + 1, 0, none⟩ (.slice oa5 (k + 1) oc5)).heap.size 36 2 (.slice oa5 (k + 1) oc5) (G.take k ++ [natsI (rotL l)]) := (hS5.setOther ho5 (by decide) (by decide) (.slice oa5 (k + 1) oc5)).weaken (Nat.le_refl _) (by simp)
      have hq6 : Below w.heap.size w (w5.setCell ⟨w.heap.size + 1, 0, none⟩ (.slice oa5 (k + 1) oc5)) := hq5.setCell (by first | (simp; done) | (simp; omega)) _
      have hz6 : w.heap.size + 2 ≤ (w5.setCell ⟨w.heap.size + 1, 0, none⟩ (.slice oa5 (k + 1) oc5)).heap.size := by simpa using hz5
      clear hS5 hown5 hkept hmv hrows hown
      go_wp2_with fail
      exact ⟨⟨k + 1, _, by omega, by simp, by rw [HGK.out]; exact hS6, hr6, ho6, hq6, hz6⟩, by simp [RowKit.intOf]; omega⟩
end Go.Proofs.YtdbanndcdbikmaaGreatDoor
