/- The least way down distances; the least loop through an edge: plain facts. -/
import Derived.Test.YtdbanndcdbikmaaGreatDoorDistM
import Derived.Test.YtdbanndcdbikmaaGreatDoorHeld
import Derived.Test.YtdbanndcdbikmaaGreatDoorPairs
import Derived.Test.YtdbanndcdbikmaaGreatDoorFacM
import Derived.Lib.BitFns
namespace Go.Proofs.YtdbanndcdbikmaaGreatDoor
open Go.RowKit

def HoldP (p : Prop) : Prop := p
theorem hold_in {p : Prop} (h : HoldP p) : p := h
theorem SlI.take {S : Nat → Prop} {w : World} {k : IntKind} {a : Option Addr} {n c m : Nat} {xs : List Int} (h : SlI S w k (.slice a n c) xs) (hm : m ≤ n) : SlI S w k (.slice a m c) (xs.take m) := by
  obtain ⟨a', b, off, cap, hv, hl, ha, hc⟩ := h
  simp only [Value.slice.injEq] at hv
  obtain ⟨rfl, rfl, rfl⟩ := hv
  have hlen : (xs.take m).length = m := by simp; omega
  refine ⟨a, b, off, c, by rw [hlen], ⟨by omega, hl.2⟩, fun h => ha (by omega), fun i hi => ?_⟩
  have := hc i (by omega)
  simpa using this
theorem SlI.drop {S : Nat → Prop} {w : World} {k : IntKind} {b off n c m : Nat} {xs : List Int} (h : SlI S w k (.slice (some ⟨b, off, none⟩) n c) xs) (hm : m < n) : SlI S w k (.slice (some ⟨b, off + m, none⟩) (n - m) (c - m)) (xs.drop m) := by
  obtain ⟨a', b', off', cap, hv, hl, ha, hc⟩ := h
  simp only [Value.slice.injEq] at hv
  obtain ⟨rfl, rfl, rfl⟩ := hv
  have ha2 := ha (by omega)
  simp only [Option.some.injEq, Addr.mk.injEq, and_true] at ha2
  obtain ⟨⟨rfl, rfl⟩, hS⟩ := ha2
  refine ⟨_, b, off + m, c - m, by rw [List.length_drop], ⟨by rw [List.length_drop]; omega, by omega⟩, fun _ => ⟨rfl, hS⟩, fun i hi => ?_⟩
  rw [List.length_drop] at hi
  have := hc (m + i) (by omega)
  simp only [List.getElem_drop]
  rw [Nat.add_assoc]; exact this
theorem IntsAt.news {w : World} {k : IntKind} {b off : Nat} {xs : List Int} (h : IntsAt w k b off xs) : ∀ (j : Nat) u, (xs.map (Value.int k))[j]? = some u → w.cell? ((⟨b, off, none⟩ : Addr).add j) = some u := by
  intro j u hj
  rw [List.getElem?_map] at hj
  obtain ⟨x, hx, rfl⟩ := Option.map_eq_some_iff.1 hj
  obtain ⟨hlt, rfl⟩ := List.getElem?_eq_some_iff.1 hx
  have := h j hlt
  by_cases h0 : j = 0
  · subst h0; simpa [Addr.add] using this
  · simpa [Addr.add, h0] using this
theorem ints_one {k : IntKind} {xs : List Int} : ∀ u ∈ xs.map (Value.int k), u.oneCell' = true := by
  intro u hu
  obtain ⟨x, _, rfl⟩ := List.mem_map.1 hu
  rfl
set_option maxHeartbeats 1000000 in
theorem l1Copy_any {S : Nat → Prop} (v : Value) (xs : List Int) (w : World) (hv : SlI S w .i64 v xs) (hn : xs.length ≤ 1048576) :
    Calls Tryz.prog 58 #[v] w fun e w' => ∃ u, e = .returned u ∧ Own w' w.heap.size 2 1 u xs.length (xs.map (.int .i64)) ∧ Below w.heap.size w w' := by
  have hq0 : Below w.heap.size w (w.alloc (.cells #[] 2)) := (Below.refl _ _).alloc (Nat.le_refl _) _
  obtain ⟨a, b, off, cap, rfl, hl, ha, hc⟩ := hv.below hq0 (Nat.le_refl _)
  have hown : Own (w.alloc (.cells #[] 2)) w.heap.size 2 1 (.slice (some ⟨w.heap.size, 0, none⟩) 0 0) 0 [] := World.ownsRow_lit (base := w.heap.size) (e := 2) (size := 1) w #[] 0 (Nat.le_refl _) (by unfold maxLen; omega) rfl
  by_cases h0 : xs.length = 0
  · have hx : xs = [] := List.eq_nil_of_length_eq_zero h0
    subst hx
    go_enter Tryz.func58, Tryz.ntmps58
    go_wp2_with (at_builtin; refine wpList_append0 elI64 rfl _ _ rfl hown rfl rfl ?_)
    go_ret
    exact ⟨_, rfl, hown, hq0⟩
  · obtain ⟨rfl, _⟩ := ha (by omega)
    go_enter Tryz.func58, Tryz.ntmps58
    go_wp2_with (at_builtin; refine wpList_append elI64 rfl _ _ rfl hown rfl (news := xs.map (.int .i64)) rfl (by simp) hc.news ints_one (by omega) (by simp) ?_; intro v' w1 hown1 hgr hmv; have hq1 := (KeptBut.of_grown hgr).below hq0 (by simp) hown.ge)
    go_ret
    refine ⟨_, rfl, ?_, hq1⟩
    simpa using hown1
set_option maxHeartbeats 2000000 in
theorem l1Into_any {S : Nat → Prop} (v : Value) (xs : List Int) (x : Int) (w : World) (hv : SlI S w .i64 v xs) (hn : xs.length ≤ 1048576) (hs : xs.Pairwise (· < ·)) (hx : ¬ x ∈ xs) :
    Calls Tryz.prog 155 #[v, .int .i64 x] w fun e w' => ∃ u k, e = .returned u ∧ k ≤ xs.length ∧ (∀ y ∈ xs.take k, y < x) ∧ (∀ y ∈ xs.drop k, x < y) ∧ Own w' w.heap.size 2 1 u (xs.length + 1) ((intoL xs k x).map (.int .i64)) ∧ Below w.heap.size w w' := by
  obtain ⟨a, b, off, cap, rfl, hl, ha, hc⟩ := hv
  have hv0 : SlI S w .i64 (.slice a xs.length cap) xs := ⟨a, b, off, cap, rfl, hl, ha, hc⟩
  go_enter Tryz.func155, Tryz.ntmps155
  go_wp2
  go_loopw [5] (fun i wr => ∃ k : Nat, k ≤ xs.length ∧ i = .int .i64 k ∧ (∀ y ∈ xs.take k, y < x) ∧ w = wr) (fun i _ => xs.length - (intOf i).toNat)
  case atStart => exact ⟨0, Nat.zero_le _, rfl, by simp, rfl⟩
  case round =>
    obtain ⟨k, hk, rfl, hsm, rfl⟩ := hrel
    by_cases hlt : k < xs.length
    · have hcell := hc k hlt
      obtain ⟨rfl, _⟩ := ha (by omega)
      by_cases hb : xs[k] < x
      · have hbb : decide (xs[k] < x) = true := by simpa using hb
        have hst := Lib.hid (take_step (P := fun y => y < x) hlt hsm hb)
        clear hsm
        go_wp2
        go_roundw
        case rel => exact ⟨k + 1, by omega, by go_num, hst.out, trivial⟩
        case measure => simp [intOf]; omega
      · have hbb : decide (xs[k] < x) = false := by simpa using hb
        have hne : (xs[k] == x) = false := by
          rw [beq_eq_false_iff_ne]; intro h; exact hx (h ▸ List.getElem_mem hlt)
        go_wp2_with fail
        refine (l1Copy_any _ _ _ (hv0.take (m := k) (by omega)) (by simp; omega)).mono ?_
        rintro e w1 ⟨u, rfl, hu, hq1⟩
        have hlk : (xs.take k).length = k := by simp; omega
        rw [hlk] at hu
        go_wp2_with (at_builtin; refine hold_in ?_)
        unfold HoldP
        (refine wpList_append1 elI64 rfl _ _ rfl hu rfl rfl rfl (by omega) hq1.size ?_; intro v' w2 hown2 hkept hmv; have hq2 := hkept.below hq1 hq1.size hu.ge)
        have hcw : SlI S w2 .i64 (.slice (some ⟨b, off + k, none⟩) (xs.length - k) (cap - k)) (xs.drop k) := (hv0.drop hlt).below hq2 (Nat.le_refl _)
        have hdl : (xs.drop k).length = xs.length - k := List.length_drop
        obtain ⟨a', b', off', cap', hv', hl', ha', hc'⟩ := hcw
        simp only [Value.slice.injEq] at hv'
        obtain ⟨rfl, -, rfl⟩ := hv'
        have ha2 := ha' (by omega)
        simp only [Option.some.injEq, Addr.mk.injEq, and_true] at ha2
        obtain ⟨⟨rfl, rfl⟩, -⟩ := ha2
        go_wp2_with (at_builtin; refine hold_in ?_)
        unfold HoldP
        refine wpList_append elI64 rfl _ _ rfl hown2 rfl (news := (xs.drop k).map (.int .i64)) rfl (by simp) hc'.news ints_one (by omega) (by have := hq2.size; omega) ?_
        intro v2 w3 hown3 hgr hmv2
        have hq3 := (KeptBut.of_grown hgr).below hq2 hq2.size hown2.ge
        go_wp2
        go_ret
        have hdr : ∀ y ∈ xs.drop k, x < y := by
          intro y hy
          rw [List.drop_eq_getElem_cons hlt] at hy
          rcases List.mem_cons.1 hy with rfl | hy
          · have : xs[k] ≠ x := fun h => hx (h ▸ List.getElem_mem hlt)
            omega
          · obtain ⟨j, hj, rfl⟩ := List.getElem_of_mem hy
            rw [List.getElem_drop]
            rw [List.length_drop] at hj
            have h1 := List.pairwise_iff_getElem.1 hs k (k + 1 + j) hlt (by omega) (by omega)
            have : xs[k] ≠ x := fun h => hx (h ▸ List.getElem_mem hlt)
            omega
        refine ⟨v2, k, rfl, hk, hsm, hdr, ?_, hq3⟩
        have e : k + 1 + (xs.length - k) = xs.length + 1 := by omega
        rw [e] at hown3
        simpa [intoL] using hown3
    · obtain rfl : k = xs.length := by omega
      go_wp2_with fail
      refine (l1Copy_any _ _ _ (hv0.take (m := xs.length) (by omega)) (by simp; omega)).mono ?_
      rintro e w1 ⟨u, rfl, hu, hq1⟩
      have hlk : (xs.take xs.length).length = xs.length := by simp
      rw [hlk] at hu
      go_wp2_with (at_builtin; refine hold_in ?_)
      unfold HoldP
      (refine wpList_append1 elI64 rfl _ _ rfl hu rfl rfl rfl (by omega) hq1.size ?_; intro v' w2 hown2 hkept hmv; have hq2 := hkept.below hq1 hq1.size hu.ge)
      go_wp2_with (at_builtin; refine hold_in ?_)
      all_goals
        unfold HoldP
        refine wpList_append0 elI64 rfl _ _ rfl hown2 rfl rfl ?_
        go_wp2
        go_ret
        refine ⟨v', xs.length, rfl, Nat.le_refl _, hsm, by simp, ?_, hq2⟩
        simpa [intoL] using hown2
/-- An own rising list of a set. -/
def OwnB (w : World) (B : Nat) (E : TypeId) (v : Value) (m : Nat) : Prop := Own w B E 1 v (bitsI m).length ((bitsI m).map (.int .i64))
theorem OwnB.ints {w : World} {B : Nat} {E : TypeId} {v : Value} {m : Nat} (h : OwnB w B E v m) : SlI (fun b => v.ownBlock = some b) w .i64 v (bitsI m) := Own.ints h (by have := bitsI_len m; omega)
theorem bitsI_or {m x : Nat} (hm : m < 4294967296) (hx : x < 32) {k : Nat} (hk1 : ∀ y ∈ (bitsI m).take k, y < (x : Int)) (hk2 : ∀ y ∈ (bitsI m).drop k, (x : Int) < y) : intoL (bitsI m) k x = bitsI (m ||| bit x) := by
  have hb := bit_lt hx
  have hor : m ||| bit x < 4294967296 := Nat.or_lt_two_pow (n := 32) hm hb
  refine sorted_ext (intoL_sorted (bitsI_sorted m) hk1 hk2) (bitsI_sorted _) fun y => ?_
  rw [mem_intoL, mem_bitsI hm, mem_bitsI hor, Nat.testBit_or, testBit_bit]
  simp only [Bool.or_eq_true, decide_eq_true_eq]
  constructor
  · rintro (rfl | ⟨h1, h2⟩)
    · exact ⟨by omega, .inr (by omega)⟩
    · exact ⟨h1, .inl h2⟩
  · rintro ⟨h1, h2 | h2⟩
    · exact .inr ⟨h1, h2⟩
    · exact .inl (by omega)

def lenV : Value → Nat | .slice _ n _ => n | _ => 0
def orAt (a : List Nat) (u x : Nat) : List Nat := a.set u (a.getD u 0 ||| bit x)
def joinN (a : List Nat) (u x : Nat) : List Nat := orAt (orAt a u x) x u
theorem own_some {w : World} {B : Nat} {E : TypeId} {size : Nat} {v : Value} {n : Nat} {xs : List Value} (h : Own w B E size v n xs) (hn : 0 < n) : ∃ g c, v = .slice (some ⟨g, 0, none⟩) n c := by
  rcases h.2 with ⟨rfl, rfl⟩ | ⟨g, cap, cur, rfl, _⟩
  · omega
  · exact ⟨g, cap, rfl⟩
theorem KeptBut.trans {a b c : World} {r : Option Nat} (h : KeptBut a b r) (k : KeptBut b c r) : KeptBut a c r :=
  ⟨k.1.trans h.1, k.2.1.trans h.2.1, k.2.2.1.trans h.2.2.1, Nat.le_trans h.2.2.2.1 k.2.2.2.1, fun i hi hr => (k.2.2.2.2 i (Nat.lt_of_lt_of_le hi h.2.2.2.1) hr).trans (h.2.2.2.2 i hi hr)⟩
theorem KeptBut.set (w : World) (g j : Nat) (u : Value) : KeptBut w (w.setCell ⟨g, j, none⟩ u) (some g) :=
  ⟨rfl, rfl, rfl, by simp, fun k _ hk => Below.heap_setCell _ _ _ _ (fun e => hk (by simp at e; rw [e]))⟩
def p4 : Nat → List Nat | 0 => [0, 0, 0, 0] | 1 => [0, 0, 0, 0] | 2 => [2, 1, 0, 0] | 3 => [2, 5, 2, 0] | _ => [2, 5, 10, 4]
def IdxPS (b : Bool) (w : World) (e : Ending) (w' : World) : Prop := ∃ r : Int, e = .returned (.int .i64 r) ∧ (b = true → 0 ≤ r) ∧ (b = false → r < 0) ∧ Drawn w w'
theorem SlI.lowS {S : Nat → Prop} {w : World} {k : IntKind} {v : Value} {xs : List Int} (h : SlI S w k v xs) : SlI (fun b => b < w.heap.size) w k v xs := by
  obtain ⟨a, b, off, cap, rfl, hl, ha, hc⟩ := h
  exact ⟨a, b, off, cap, rfl, hl, fun h0 => ⟨(ha h0).1, cell_lt (hc 0 h0)⟩, hc⟩
theorem own_typeS {w : World} {B B' : Nat} {E E' : TypeId} {s s' : Nat} {v v' : Value} {n n' : Nat} {xs xs' : List Value} (h : Own w B E s v n xs) (h' : Own w B' E' s' v' n' xs') (hE : E ≠ E') (b : Nat) (hb : v.ownBlock = some b) : v'.ownBlock ≠ some b := by
  intro hb'
  rcases h.2 with ⟨rfl, -⟩ | ⟨g, cap, cur, rfl, -, hg, -⟩
  · simp [Value.ownBlock] at hb
  · rcases h'.2 with ⟨rfl, -⟩ | ⟨g', cap', cur', rfl, -, hg', -⟩
    · simp [Value.ownBlock] at hb'
    · have e1 : g = b := by simpa [Value.ownBlock] using hb
      have e2 : g' = b := by simpa [Value.ownBlock] using hb'
      subst e1; subst e2
      rw [hg] at hg'
      simp only [Option.some.injEq, Obj.cells.injEq] at hg'
      exact hE hg'.2.1
theorem Own.otherT {w w' : World} {B B' : Nat} {E E' : TypeId} {s s' : Nat} {v u : Value} {n n' : Nat} {xs xs' : List Value} (h : Own w B E s v n xs) (h' : Own w B' E' s' u n' xs') (hE : E ≠ E') (hk : KeptBut w w' u.ownBlock) : Own w' B E s v n xs :=
  h.kept hk fun b hb => own_typeS h h' hE b hb
/-- append(s, x), one element of one cell, inside a region that draws its order. -/
theorem opWp_append1S {P : Program} {w : World} {T E : TypeId} {bytes : Nat} {z : Value} (hE : Elem P T E 1 bytes z) {B : Nat}
    {o : Oper} {a : Act} {K : Act → World → Prop} {Q : Exit → Act → World → Prop} (s x : Operand)
    (ho : o.op = .call { callee := .builtin .append, args := #[s, x], argTypes := #[T, T] })
    {v : Value} {n : Nat} {xs : List Value} (hown : Own w B E 1 v n xs) (hs : a.eval s = v) {u : Value} {nb : Nat} (hnb : nb = w.heap.size)
    (hx : a.eval x = .slice (some ⟨nb, 0, none⟩) 1 1) (h1 : u.oneCell' = true)
    (h63 : n + 1 ≤ 1099511627) (hbase : B ≤ w.heap.size)
    (h : ∀ v' w', Own w' B E 1 v' (n + 1) (xs ++ [u]) → KeptBut w w' v.ownBlock → Moved (w.alloc (.cells #[u] E)) v v' → K (a.put o.dst v') w') : o.wp P a (w.alloc (.cells #[u] E)) K Q := by
  subst hnb
  obtain ⟨v', w', hr, h2, h3, h4⟩ := append_run (w := w.alloc (.cells #[u] E)) (ty := o.type) hE v n xs (World.ownsRow.alloc hown _) ⟨w.heap.size, 0, none⟩ 1 1 [u] rfl (fun j u' hj => by
      match j, hj with
      | 0, hj => simp at hj; subst hj; simp [Addr.add])
    (fun u' hu' => by simp at hu'; subst hu'; exact h1) h63 (by simp; omega)
  unfold Oper.wp execOp
  simp only [ho, resolve, invoke, builtin, Sem.run_bind, Sem.run_pure, Result.andThen_ok, List.map_toArray, List.map_cons, List.map_nil, hs, hx, hr]
  exact h v' w' h2 (.alloc h3) h4
structure Tri where
  a : Int
  b : Int
  c : Int
deriving DecidableEq
/-- The neighbours of v that are left. -/
def nearN (a : List Nat) (left v : Nat) : List Nat := bitsN (a.getD v 0 &&& left)
/-- How v folds away, where at most two neighbours are left. -/
def foldF (a : List Nat) (left v : Nat) : Option Tri :=
  if 2 < (nearN a left v).length then none
  else some ⟨v, if 0 < (nearN a left v).length then ((nearN a left v).getD 0 0 : Nat) else -1, if 1 < (nearN a left v).length then ((nearN a left v).getD 1 0 : Nat) else -1⟩
def foldN (a : List Nat) (f : Tri) : List Nat := if 0 ≤ f.c then joinN a f.b.toNat f.c.toNat else a
/-- The least vertex that folds. -/
def foldV (a : List Nat) (left : Nat) : Option Nat := (bitsN left).find? fun v => (foldF a left v).isSome
/-- All foldings, the least first. -/
def foldsF : Nat → List Nat → Nat → List Nat × Nat
  | 0, a, left => (a, left)
  | n + 1, a, left => match foldV a left with
    | none => (a, left)
    | some v => match foldF a left v with
      | none => (a, left)
      | some f => foldsF n (foldN a f) (andN left (bit v))
/-- The reference's graph when a, left are the program's state. -/
def rowsN (a : List Nat) (left n : Nat) : List (List Int) := (List.range n).map fun u => if left.testBit u = true then bitsI (a.getD u 0 &&& left) else []
/-- What the state keeps: words of n bits, no vertex its own neighbour. -/
structure FoldI (a : List Nat) (left n : Nat) : Prop where
  len : a.length = n
  le : n ≤ 16
  left : left < 2 ^ n
  lt : ∀ m ∈ a, m < 4294967296
  irr : ∀ u, (a.getD u 0).testBit u = false
/-- The reference's row of u behind a folding. -/
def lessL (l : List Int) (v : Int) : List Int := l.filter fun x => !decide (x = v)
def swP (s : NP) : NP := (s.2, s.1)
def stepsN (p : List Nat) (closed : Bool) : List NP := (List.range (p.length - 1)).map (fun i => (p.getD i 0, p.getD (i + 1) 0)) ++ if closed = true then [(p.getD (p.length - 1) 0, p.getD 0 0)] else []
def freeB (g : List (List Int)) (U : List NP) (s : NP) : Bool := decide ((s.2 : Int) ∈ g.getD s.1 []) && !decide (s ∈ U)
def vokB (n : Nat) (ear : List Int) (m : Nat) (first : Bool) (i : Nat) : Bool :=
  inB (ear.getD i 0) 0 ((n : Int) - 1) && !decide (ear.getD i 0 ∈ ear.take i) && (first || (m.testBit (ear.getD i 0).toNat == (decide (i = 0) || decide (i = ear.length - 1))))
def natsOf (ear : List Int) : List Nat := ear.map Int.toNat
def earB (g : List (List Int)) (ear : List Int) (m : Nat) (U : List NP) (first : Bool) : Bool :=
  decide ((if first = true then 3 else 2) ≤ ear.length) && (List.range ear.length).all (vokB g.length ear m first) && (stepsN (natsOf ear) first).all (freeB g U)
def useU (U S : List NP) : List NP := U ++ S.flatMap fun s => [s, swP s]
def earsF (g : List (List Int)) : List (List Int) → Nat → List NP → Option (Nat × List NP)
  | [], m, U => some (m, U)
  | e :: t, m, U => if earB g e m U (m == 0) = true then earsF g t (m ||| maskL e) (useU U (stepsN (natsOf e) (m == 0))) else none
def endsN (g : List (List Int)) : Nat := (g.map List.length).sum
def endB (g : List (List Int)) (m : Nat) (U : List NP) : Bool := decide (m = firstN g.length) && decide (U.length = endsN g)
noncomputable def earsOkB (g ears : List (List Int)) : Bool := gokB g && decide (0 < ears.length) && match earsF g ears 0 [] with | none => false | some (m, U) => endB g m U
/-- Two steps of one list never run along the same edge. -/
def OffP (s t : NP) : Prop := s ≠ t ∧ s ≠ swP t
/-- What holds of the vertices and the edges that were used. -/
structure EInv (g : List (List Int)) (m : Nat) (U : List NP) : Prop where
  mask : m < 2 ^ g.length
  nodup : U.Nodup
  edge : ∀ s ∈ U, s.1 < g.length ∧ s.2 < g.length ∧ (s.2 : Int) ∈ g.getD s.1 []
  sym : ∀ s ∈ U, swP s ∈ U
/-- All pairs of a graph. -/
def allP (g : List (List Int)) : List NP := (List.range g.length).flatMap fun u => (g.getD u []).map fun v => (u, v.toNat)
/-- The edges that are left. -/
def leftN (g : List (List Int)) (U : List NP) : List Nat := (List.range g.length).map fun u => maskL ((g.getD u []).filter fun v => !decide ((u, v.toNat) ∈ U))
def cutAt (a : List Nat) (u x : Nat) : List Nat := a.set u (andN (a.getD u 0) (bit x))
def cutN (a : List Nat) (u x : Nat) : List Nat := cutAt (cutAt a u x) x u
def endsTo (g : List (List Int)) (k : Nat) : Nat := ((g.take k).map List.length).sum
def tokB (g : List (List Int)) (p : List Int) (i : Nat) : Bool :=
  inB (p.getD i 0) 0 ((g.length : Int) - 1) && !decide (p.getD i 0 ∈ p.take i) && (decide (i = 0) || decide (p.getD (i - 1) 0 ∈ g.getD (p.getD i 0).toNat []))
def trailB (g : List (List Int)) (p : List Int) : Bool := (List.range p.length).all (tokB g p)
def TrailTo (g : List (List Int)) (p : List Int) (k : Nat) : Prop := ∀ i, i < k → tokB g p i = true
/-- Less by the first unlike number. -/
def ltN : List Nat → List Nat → Bool
  | a :: p, b :: q => if a = b then ltN p q else decide (a < b)
  | [], _ => false
  | _ :: _, [] => false
/-- Not after: by length, then by the first unlike number. -/
def leN (p q : List Nat) : Prop := p.length < q.length ∨ (p.length = q.length ∧ ltN q p = false)
def lessN (p q : List Nat) : Bool := if p.length = q.length then ltN p q else decide (p.length < q.length)
def lastN (p : List Nat) : Nat := p.getD (p.length - 1) 0
def tryL (f : Nat → Option (List Nat)) : List Nat → Option (List Nat)
  | [] => none
  | v :: vs => match f v with
    | some q => some q
    | none => tryL f vs
def dfsF (cand : List Nat → List Nat) (fin : List Nat → Bool) : Nat → List Nat → Option (List Nat)
  | 0, p => if fin p = true then some p else none
  | d + 1, p => tryL (fun v => dfsF cand fin d (p ++ [v])) (cand p)
def Ext (cand : List Nat → List Nat) (fin : List Nat → Bool) : Nat → List Nat → List Nat → Prop
  | 0, p, t => t = [] ∧ fin p = true
  | d + 1, p, t => ∃ v t', t = v :: t' ∧ v ∈ cand p ∧ Ext cand fin d (p ++ [v]) t'
/-- A path: different vertices, each a neighbour of the next one. -/
structure PathN (H : List Nat) (n : Nat) (p : List Nat) : Prop where
  ne : 0 < p.length
  lt : ∀ x ∈ p, x < n
  nd : p.Nodup
  ch : ∀ i, i + 1 < p.length → (H.getD (p.getD i 0) 0).testBit (p.getD (i + 1) 0) = true
def finN (H : List Nat) (p : List Nat) : Bool := (H.getD (lastN p) 0).testBit (p.getD 0 0)
structure LoopN (H : List Nat) (n : Nat) (q : List Nat) : Prop where
  path : PathN H n q
  three : 3 ≤ q.length
  cl : finN H q = true
/-- What may follow a path. -/
def candN (H : List Nat) (far : Nat → Int) (L : Nat) (ft : List Nat → Nat → Bool) (p : List Nat) : List Nat :=
  (bitsN (andN (H.getD (lastN p) 0) (maskN p))).filter fun v => decide (0 ≤ far v) && decide (far v ≤ (L : Int) - p.length) && ft p v
def noFit (_ : List Nat) (_ : Nat) : Bool := true
/-- No loop of a kind below a length; none of it that begins with less. -/
def NoTo (G : List Nat → Prop) (L v : Nat) : Prop := ∀ q, G q → L < q.length ∨ (L = q.length ∧ v ≤ q.getD 0 0)
def LeastG (G : List Nat → Prop) (q : List Nat) : Prop := G q ∧ ∀ q', G q' → leN q q'
/-- The least of a kind. -/
noncomputable def pickG (G : List Nat → Prop) : List Nat := open Classical in if h : ∃ q, LeastG G q then Classical.choose h else []
/-- The least neighbour so far away. -/
def stepN (H : List Nat) (D : Nat → Int) (k u : Nat) : Nat := ((bitsN (H.getD u 0)).find? fun x => decide (D x = (k : Int))).getD u
/-- The way down from a vertex so far away, without its end. -/
def dnN (H : List Nat) (D : Nat → Int) : Nat → Nat → List Nat
  | 0, _ => []
  | k + 1, u => u :: dnN H D k (stepN H D k u)
structure DnI (H : List Nat) (D : Nat → Int) (v n k u : Nat) (p : List Nat) : Prop where
  path : PathN H n p
  len : p.length = k
  head : p.getD 0 0 = u
  far : ∀ i, i < k → D (p.getD i 0) = (k : Int) - i
  last : (H.getD (lastN p) 0).testBit v = true
theorem ltN_step {p q : List Nat} {k : Nat} (h1 : k < p.length) (h2 : k < q.length) : ltN (p.drop k) (q.drop k) = if p[k] = q[k] then ltN (p.drop (k + 1)) (q.drop (k + 1)) else decide (p[k] < q[k]) := by
  rw [List.drop_eq_getElem_cons h1, List.drop_eq_getElem_cons h2, ltN]
set_option maxHeartbeats 2000000 in
theorem l1Less_any {S S' : Nat → Prop} {u v : Value} {p q : List Nat} {w : World} (hu : SlI S w .i64 u (natsI p)) (hv : SlI S' w .i64 v (natsI q)) :
    Calls Tryz.prog 128 #[u, v] w fun e w' => e = .returned (.bool (lessN p q)) ∧ Drawn w w' := by
  obtain ⟨ua, ub, uo, uc, rfl, hul, hua, huc⟩ := hu
  obtain ⟨va, vb, vo, vc, rfl, hvl, hva, hvc⟩ := hv
  rw [natsI_len] at hul hua hvl hva
  simp only [natsI_len]
  by_cases hl : p.length = q.length
  case neg =>
    have h1 : ((p.length : Int) == (q.length : Int)) = false := by rw [beq_eq_false_iff_ne]; omega
    have h2 : (p.length == q.length) = false := by rw [beq_eq_false_iff_ne]; exact hl
    have HR := Lib.hid (show lessN p q = decide ((p.length : Int) < (q.length : Int)) by
      rw [lessN, if_neg hl, decide_eq_decide]; omega)
    clear hl
    go_enter Tryz.func128, Tryz.ntmps128
    go_wp2
    go_ret
    exact ⟨ret_bool (by first | exact HR.out.symm | (rw [HR.out]; simp)), Drawn.refl _⟩
  have HR := Lib.hid (show lessN p q = ltN (p.drop 0) (q.drop 0) by rw [lessN, if_pos hl]; rfl)
  have h1 : ((p.length : Int) == (q.length : Int)) = true := by rw [beq_iff_eq]; omega
  have HL := Lib.hid hl
  clear hl
  rw [← HL.out]
  have h2 : (p.length == p.length) = true := by simp
  clear h1
  go_enter Tryz.func128, Tryz.ntmps128
  go_wp2
  go_loopw [5] (fun iv wr => ∃ k : Nat, k ≤ p.length ∧ iv = .int .i64 k ∧ RowKit.Hid (lessN p q = ltN (p.drop k) (q.drop k)) ∧ Drawn w wr) (fun iv _ => p.length - (RowKit.intOf iv).toNat)
  case atStart => exact ⟨0, Nat.zero_le _, rfl, HR, Drawn.refl _⟩
  case round =>
    clear HR
    obtain ⟨k, hk, rfl, HR, hq⟩ := hrel
    by_cases hlt : k < p.length
    case neg =>
      obtain rfl : k = p.length := by omega
      have HE := Lib.hid (show lessN p q = false by rw [HR.out, List.drop_of_length_le (Nat.le_refl _)]; rfl)
      go_wp2
      go_ret
      exact ⟨ret_bool HE.out.symm, hq⟩
    have hlq : k < q.length := by have := HL.out; omega
    have d1 : wr.cell? ⟨ub, uo + k, none⟩ = some (.int .i64 (p[k] : Int)) := by
      rw [hq.cell, huc k (by rw [natsI_len]; exact hlt), natsI_get]
    have d2 : wr.cell? ⟨vb, vo + k, none⟩ = some (.int .i64 (q[k] : Int)) := by
      rw [hq.cell, hvc k (by rw [natsI_len]; exact hlq), natsI_get]
    obtain ⟨rfl, -⟩ := hua (by omega)
    obtain ⟨rfl, -⟩ := hva (by omega)
    have hst := ltN_step hlt hlq
    rw [← HR.out] at hst
    have HST := Lib.hid hst
    clear hst
    generalize p[k] = x at *
    generalize q[k] = y at *
    by_cases he : x = y
    · subst he
      have HE := Lib.hid (HST.out.trans (if_pos rfl))
      have h3 : ((x : Int) == (x : Int)) = true := by simp
      go_wp2
      go_quiet (fail)
      go_wp2
      go_roundw
      case rel => exact ⟨k + 1, by omega, by go_num, HE, hq.drewN _⟩
      case measure => simp [RowKit.intOf]; omega
    · have HE := Lib.hid (HST.out.trans (if_neg he))
      have h3 : ((x : Int) == (y : Int)) = false := by rw [beq_eq_false_iff_ne]; omega
      have h4 : (x == y) = false := by rw [beq_eq_false_iff_ne]; exact he
      clear he
      go_wp2
      go_quiet (fail)
      go_wp2
      go_quiet (fail)
      go_wp2
      go_ret
      exact ⟨ret_bool (by first | exact HE.out.symm | (rw [HE.out]; simp)), by repeat (first | exact hq | refine Drawn.drewN ?_ _)⟩
/-- Lists of lists by their first unlike list. -/
def lessR : List (List Nat) → List (List Nat) → Bool
  | a :: ats, b :: bs => if a = b then lessR ats bs else lessN a b
  | _, _ => false
def cmpR : List (List Nat) → List (List Nat) → Int
  | [], [] => 0
  | [], _ :: _ => -1
  | _ :: _, [] => 1
  | a :: ats, b :: bs => if cmpL (natsI a) (natsI b) = 0 then cmpR ats bs else cmpL (natsI a) (natsI b)
/-- Like lengths all over. -/
def ShapeR (a b : List (List Nat)) : Prop := a.map List.length = b.map List.length
/-- The state of a search: the least so far; none at first. -/
def bestStepR (p R : List (List Nat)) : List (List Nat) := if p = [] ∨ lessR R p = true then R else p
theorem pop8_fact (q : Nat) (h : q < 256) : ∃ c : Nat, Lib.pop8 (q : Int) = (c : Int) ∧ c ≤ 8 ∧ c = Lib.onesCount q := by
  have e := Lib.pop8_eq ⟨q, h⟩
  have l := Lib.onesCount_le8 ⟨q, h⟩
  exact ⟨_, e, l, rfl⟩
theorem pop_split : ∀ (a : Fin 256), ((List.range 8).filter a.val.testBit).length = Lib.onesCount a.val := by decide +kernel
theorem pop_bytes (m : Nat) (h1 : m < 65536) : (bitsI m).length = Lib.onesCount (m / 256) + Lib.onesCount (m % 256) := by
  have a := pop_split ⟨m / 256, by omega⟩
  have b := pop_split ⟨m % 256, by omega⟩
  simp only at a b
  rw [← a, ← b]
  have hr : List.range 32 = List.range 8 ++ ((List.range 8).map (· + 8) ++ List.range' 16 16) := by decide
  simp only [bitsI, List.length_map]
  unfold bitsN
  rw [hr, List.filter_append, List.filter_append, List.length_append, List.length_append, List.filter_map, List.length_map]
  have h3 : (List.range' 16 16).filter m.testBit = [] := List.filter_eq_nil_iff.2 fun x hx => by
    have := List.mem_range'_1.1 hx
    rw [Nat.testBit_lt_two_pow (Nat.lt_of_lt_of_le h1 (by have := Nat.pow_le_pow_right (n := 2) (by decide) this.1; simpa using this))]
    simp
  have h4 : (List.range 8).filter m.testBit = (List.range 8).filter (m % 256).testBit := by
    apply List.filter_congr
    intro x hx
    have hx := List.mem_range.1 hx
    have := Nat.testBit_mod_two_pow m 8 x
    simp only [hx, decide_true, Bool.true_and] at this
    exact this.symm
  have h5 : (List.range 8).filter (m.testBit ∘ (· + 8)) = (List.range 8).filter (m / 256).testBit := by
    apply List.filter_congr
    intro x _
    rw [Function.comp, show m / 256 = m / 2 ^ 8 from rfl, Nat.testBit_div_two_pow, Nat.add_comm]
  rw [h3, h4, h5]
  simp; omega
set_option maxHeartbeats 1000000 in
theorem ones_any (m : Nat) (w : World) (h1 : m < 65536) : Calls Tryz.prog 74 #[.int .u32 (m : Int)] w fun e w' => e = .returned (.int .i64 ((bitsI m).length : Int)) ∧ Drawn w w' := by
  have e1 : (m : Int) / 16777216 = 0 := by omega
  have e2 : (m : Int) / 65536 = 0 := by omega
  have hq : (m : Int) / 256 = ((m / 256 : Nat) : Int) := by omega
  have ha := u32_and_nat (m / 256) 255 (by omega) (by omega)
  have hb := u32_and_nat m 255 (by omega) (by omega)
  rw [show (255 : Nat) = 2 ^ 8 - 1 from rfl, Nat.and_two_pow_sub_one_eq_mod, Nat.mod_eq_of_lt (by omega)] at ha
  rw [show (255 : Nat) = 2 ^ 8 - 1 from rfl, Nat.and_two_pow_sub_one_eq_mod] at hb
  have hr0 : m % 2 ^ 8 < 256 := Nat.mod_lt _ (by decide)
  have hq0 : m / 256 < 256 := by omega
  have hm := pop_bytes m h1
  have hz : Lib.pop8 0 = 0 := by decide +kernel
  rw [show m % 256 = m % 2 ^ 8 from rfl] at hm
  generalize m % 2 ^ 8 = r at *
  generalize m / 256 = q at *
  obtain ⟨c, hc1, hc2, hc3⟩ := pop8_fact q hq0
  obtain ⟨d, hd1, hd2, hd3⟩ := pop8_fact r hr0
  rw [← hc3, ← hd3] at hm
  have HM := Lib.hid hm
  clear hc3 hd3 hm
  have hz2 : bits BinOp.and IntKind.u32 0 255 = 0 := by decide +kernel
  have ha' : bits BinOp.and IntKind.u32 (q : Int) 255 = q := ha
  have hb' : bits BinOp.and IntKind.u32 (m : Int) 255 = r := hb
  clear ha hb
  have i1 : (0 : Int) ≤ q := by omega
  have i2 : (q : Int) ≤ 255 := by omega
  have i3 : (0 : Int) ≤ r := by omega
  have i4 : (r : Int) ≤ 255 := by omega
  have w0 : IntKind.u8.wrap 0 = 0 := by decide
  have w1 : IntKind.u8.wrap (c : Int) = c := by simp [IntKind.wrap, go_sem]; omega
  have w2 : IntKind.u8.wrap ((c : Int) + d) = (c : Int) + d := by simp [IntKind.wrap, go_sem]; omega
  have w3 : IntKind.i64.wrap ((c : Int) + d) = (c : Int) + d := by simp [IntKind.wrap, go_sem]; omega
  go_enter Tryz.func74, Tryz.ntmps74
  simp only [ones_tab]
  go_wp2
  go_quiet (fail)
  go_wp2
  go_ret
  exact ⟨ret_int (by rw [HM.out]; omega), ⟨_, rfl⟩⟩
theorem size_any (m : Nat) (w : World) (h1 : m < 65536) : Calls Tryz.prog 36 #[.int .u32 (m : Int)] w fun e w' => e = .returned (.int .i64 ((bitsI m).length : Int)) ∧ Drawn w w' := by
  go_enter Tryz.func36, Tryz.ntmps36
  go_wp2_with (go_at_call 74; refine (ones_any _ _ h1).mono ?_; rintro e w' ⟨rfl, hd⟩)
  go_ret
  exact ⟨rfl, hd⟩
end Go.Proofs.YtdbanndcdbikmaaGreatDoor
