/- The least way down distances; the least loop through an edge: plain facts. -/
import Derived.Test.YtdbanndcdbikmaaGreatDoorDistM
import Derived.Test.YtdbanndcdbikmaaGreatDoorHeld
import Derived.Test.YtdbanndcdbikmaaGreatDoorPairs
import Derived.Test.YtdbanndcdbikmaaGreatDoorFacM
import Derived.Lib.BitFns
namespace Go.Proofs.YtdbanndcdbikmaaGreatDoor
open Go.RowKit

def HoldP (p : Prop) : Prop := p
theorem hold_in {p : Prop} (h : HoldP p) : p := h
theorem SlI.take {S : Nat → Prop} {w : World} {k : IntKind} {a : Option Addr} {n c m : Nat} {xs : List Int} (h : SlI S w k (.slice a n c) xs) (hm : m ≤ n) : SlI S w k (.slice a m c) (xs.take m) := by
  obtain ⟨a', b, off, cap, hv, hl, ha, hc⟩ := h
  simp only [Value.slice.injEq] at hv
  obtain ⟨rfl, rfl, rfl⟩ := hv
  have hlen : (xs.take m).length = m := by simp; omega
  refine ⟨a, b, off, c, by rw [hlen], ⟨by omega, hl.2⟩, fun h => ha (by omega), fun i hi => ?_⟩
  have := hc i (by omega)
  simpa using this
theorem SlI.drop {S : Nat → Prop} {w : World} {k : IntKind} {b off n c m : Nat} {xs : List Int} (h : SlI S w k (.slice (some ⟨b, off, none⟩) n c) xs) (hm : m < n) : SlI S w k (.slice (some ⟨b, off + m, none⟩) (n - m) (c - m)) (xs.drop m) := by
  obtain ⟨a', b', off', cap, hv, hl, ha, hc⟩ := h
  simp only [Value.slice.injEq] at hv
  obtain ⟨rfl, rfl, rfl⟩ := hv
  have ha2 := ha (by omega)
  simp only [Option.some.injEq, Addr.mk.injEq, and_true] at ha2
  obtain ⟨⟨rfl, rfl⟩, hS⟩ := ha2
  refine ⟨_, b, off + m, c - m, by rw [List.length_drop], ⟨by rw [List.length_drop]; omega, by omega⟩, fun _ => ⟨rfl, hS⟩, fun i hi => ?_⟩
  rw [List.length_drop] at hi
  have := hc (m + i) (by omega)
  simp only [List.getElem_drop]
  rw [Nat.add_assoc]; exact this
theorem IntsAt.news {w : World} {k : IntKind} {b off : Nat} {xs : List Int} (h : IntsAt w k b off xs) : ∀ (j : Nat) u, (xs.map (Value.int k))[j]? = some u → w.cell? ((⟨b, off, none⟩ : Addr).add j) = some u := by
  intro j u hj
  rw [List.getElem?_map] at hj
  obtain ⟨x, hx, rfl⟩ := Option.map_eq_some_iff.1 hj
  obtain ⟨hlt, rfl⟩ := List.getElem?_eq_some_iff.1 hx
  have := h j hlt
  by_cases h0 : j = 0
  · subst h0; simpa [Addr.add] using this
  · simpa [Addr.add, h0] using this
theorem ints_one {k : IntKind} {xs : List Int} : ∀ u ∈ xs.map (Value.int k), u.oneCell' = true := by
  intro u hu
  obtain ⟨x, _, rfl⟩ := List.mem_map.1 hu
  rfl
set_option maxHeartbeats 1000000 in
theorem l1Copy_any {S : Nat → Prop} (v : Value) (xs : List Int) (w : World) (hv : SlI S w .i64 v xs) (hn : xs.length ≤ 1048576) :
    Calls Tryz.prog 58 #[v] w fun e w' => ∃ u, e = .returned u ∧ Own w' w.heap.size 2 1 u xs.length (xs.map (.int .i64)) ∧ Below w.heap.size w w' := by
  have hq0 : Below w.heap.size w (w.alloc (.cells #[] 2)) := (Below.refl _ _).alloc (Nat.le_refl _) _
  obtain ⟨a, b, off, cap, rfl, hl, ha, hc⟩ := hv.below hq0 (Nat.le_refl _)
  have hown : Own (w.alloc (.cells #[] 2)) w.heap.size 2 1 (.slice (some ⟨w.heap.size, 0, none⟩) 0 0) 0 [] := World.ownsRow_lit (base := w.heap.size) (e := 2) (size := 1) w #[] 0 (Nat.le_refl _) (by unfold maxLen; omega) rfl
  by_cases h0 : xs.length = 0
  · have hx : xs = [] := List.eq_nil_of_length_eq_zero h0
    subst hx
    go_enter Tryz.func58, Tryz.ntmps58
    go_wp2_with (at_builtin; refine wpList_append0 elI64 rfl _ _ rfl hown rfl rfl ?_)
    go_ret
    exact ⟨_, rfl, hown, hq0⟩
  · obtain ⟨rfl, _⟩ := ha (by omega)
    go_enter Tryz.func58, Tryz.ntmps58
    go_wp2_with (at_builtin; refine wpList_append elI64 rfl _ _ rfl hown rfl (news := xs.map (.int .i64)) rfl (by simp) hc.news ints_one (by omega) (by simp) ?_; intro v' w1 hown1 hgr hmv; have hq1 := (KeptBut.of_grown hgr).below hq0 (by simp) hown.ge)
    go_ret
    refine ⟨_, rfl, ?_, hq1⟩
    simpa using hown1
set_option maxHeartbeats 2000000 in
theorem l1Into_any {S : Nat → Prop} (v : Value) (xs : List Int) (x : Int) (w : World) (hv : SlI S w .i64 v xs) (hn : xs.length ≤ 1048576) (hs : xs.Pairwise (· < ·)) (hx : ¬ x ∈ xs) :
    Calls Tryz.prog 155 #[v, .int .i64 x] w fun e w' => ∃ u k, e = .returned u ∧ k ≤ xs.length ∧ (∀ y ∈ xs.take k, y < x) ∧ (∀ y ∈ xs.drop k, x < y) ∧ Own w' w.heap.size 2 1 u (xs.length + 1) ((intoL xs k x).map (.int .i64)) ∧ Below w.heap.size w w' := by
  obtain ⟨a, b, off, cap, rfl, hl, ha, hc⟩ := hv
  have hv0 : SlI S w .i64 (.slice a xs.length cap) xs := ⟨a, b, off, cap, rfl, hl, ha, hc⟩
  go_enter Tryz.func155, Tryz.ntmps155
  go_wp2
  go_loopw [5] (fun i wr => ∃ k : Nat, k ≤ xs.length ∧ i = .int .i64 k ∧ (∀ y ∈ xs.take k, y < x) ∧ w = wr) (fun i _ => xs.length - (intOf i).toNat)
  case atStart => exact ⟨0, Nat.zero_le _, rfl, by simp, rfl⟩
  case round =>
    obtain ⟨k, hk, rfl, hsm, rfl⟩ := hrel
    by_cases hlt : k < xs.length
    · have hcell := hc k hlt
      obtain ⟨rfl, _⟩ := ha (by omega)
      by_cases hb : xs[k] < x
      · have hbb : decide (xs[k] < x) = true := by simpa using hb
        have hst := Lib.hid (take_step (P := fun y => y < x) hlt hsm hb)
        clear hsm
        go_wp2
        go_roundw
        case rel => exact ⟨k + 1, by omega, by go_num, hst.out, trivial⟩
        case measure => simp [intOf]; omega
      · have hbb : decide (xs[k] < x) = false := by simpa using hb
        have hne : (xs[k] == x) = false := by
          rw [beq_eq_false_iff_ne]; intro h; exact hx (h ▸ List.getElem_mem hlt)
        go_wp2_with fail
        refine (l1Copy_any _ _ _ (hv0.take (m := k) (by omega)) (by simp; omega)).mono ?_
        rintro e w1 ⟨u, rfl, hu, hq1⟩
        have hlk : (xs.take k).length = k := by simp; omega
        rw [hlk] at hu
        go_wp2_with (at_builtin; refine hold_in ?_)
        unfold HoldP
        (refine wpList_append1 elI64 rfl _ _ rfl hu rfl rfl rfl (by omega) hq1.size ?_; intro v' w2 hown2 hkept hmv; have hq2 := hkept.below hq1 hq1.size hu.ge)
        have hcw : SlI S w2 .i64 (.slice (some ⟨b, off + k, none⟩) (xs.length - k) (cap - k)) (xs.drop k) := (hv0.drop hlt).below hq2 (Nat.le_refl _)
        have hdl : (xs.drop k).length = xs.length - k := List.length_drop
        obtain ⟨a', b', off', cap', hv', hl', ha', hc'⟩ := hcw
        simp only [Value.slice.injEq] at hv'
        obtain ⟨rfl, -, rfl⟩ := hv'
        have ha2 := ha' (by omega)
        simp only [Option.some.injEq, Addr.mk.injEq, and_true] at ha2
        obtain ⟨⟨rfl, rfl⟩, -⟩ := ha2
        go_wp2_with (at_builtin; refine hold_in ?_)
        unfold HoldP
        refine wpList_append elI64 rfl _ _ rfl hown2 rfl (news := (xs.drop k).map (.int .i64)) rfl (by simp) hc'.news ints_one (by omega) (by have := hq2.size; omega) ?_
        intro v2 w3 hown3 hgr hmv2
        have hq3 := (KeptBut.of_grown hgr).below hq2 hq2.size hown2.ge
        go_wp2
        go_ret
        have hdr : ∀ y ∈ xs.drop k, x < y := by
          intro y hy
          rw [List.drop_eq_getElem_cons hlt] at hy
          rcases List.mem_cons.1 hy with rfl | hy
          · have : xs[k] ≠ x := fun h => hx (h ▸ List.getElem_mem hlt)
            omega
          · obtain ⟨j, hj, rfl⟩ := List.getElem_of_mem hy
            rw [List.getElem_drop]
            rw [List.length_drop] at hj
            have h1 := List.pairwise_iff_getElem.1 hs k (k + 1 + j) hlt (by omega) (by omega)
            have : xs[k] ≠ x := fun h => hx (h ▸ List.getElem_mem hlt)
            omega
        refine ⟨v2, k, rfl, hk, hsm, hdr, ?_, hq3⟩
        have e : k + 1 + (xs.length - k) = xs.length + 1 := by omega
        rw [e] at hown3
        simpa [intoL] using hown3
    · obtain rfl : k = xs.length := by omega
      go_wp2_with fail
      refine (l1Copy_any _ _ _ (hv0.take (m := xs.length) (by omega)) (by simp; omega)).mono ?_
      rintro e w1 ⟨u, rfl, hu, hq1⟩
      have hlk : (xs.take xs.length).length = xs.length := by simp
      rw [hlk] at hu
      go_wp2_with (at_builtin; refine hold_in ?_)
      unfold HoldP
      (refine wpList_append1 elI64 rfl _ _ rfl hu rfl rfl rfl (by omega) hq1.size ?_; intro v' w2 hown2 hkept hmv; have hq2 := hkept.below hq1 hq1.size hu.ge)
      go_wp2_with (at_builtin; refine hold_in ?_)
      all_goals
        unfold HoldP
        refine wpList_append0 elI64 rfl _ _ rfl hown2 rfl rfl ?_
        go_wp2
        go_ret
        refine ⟨v', xs.length, rfl, Nat.le_refl _, hsm, by simp, ?_, hq2⟩
        simpa [intoL] using hown2
/-- An own rising list of a set. -/
def OwnB (w : World) (B : Nat) (E : TypeId) (v : Value) (m : Nat) : Prop := Own w B E 1 v (bitsI m).length ((bitsI m).map (.int .i64))
theorem OwnB.below {w w' : World} {B B1 : Nat} {E : TypeId} {v : Value} {m : Nat} (h : OwnB w B E v m) (hb : Below B1 w w') (hB : w.heap.size ≤ B1) : OwnB w' B E v m := Own.below h hb hB
theorem OwnB.weak {w : World} {B B' : Nat} {E : TypeId} {v : Value} {m : Nat} (h : OwnB w B E v m) (hB : B' ≤ B) : OwnB w B' E v m := Own.weak h hB
theorem OwnB.ints {w : World} {B : Nat} {E : TypeId} {v : Value} {m : Nat} (h : OwnB w B E v m) : SlI (fun b => v.ownBlock = some b) w .i64 v (bitsI m) := Own.ints h (by have := bitsI_len m; omega)
theorem OwnB.drawn {w w' : World} {B : Nat} {E : TypeId} {v : Value} {m : Nat} (h : OwnB w B E v m) (hb : Drawn w w') : OwnB w' B E v m := Own.drawn h hb
theorem bitsI_or {m x : Nat} (hm : m < 4294967296) (hx : x < 32) {k : Nat} (hk1 : ∀ y ∈ (bitsI m).take k, y < (x : Int)) (hk2 : ∀ y ∈ (bitsI m).drop k, (x : Int) < y) : intoL (bitsI m) k x = bitsI (m ||| bit x) := by
  have hb := bit_lt hx
  have hor : m ||| bit x < 4294967296 := Nat.or_lt_two_pow (n := 32) hm hb
  refine sorted_ext (intoL_sorted (bitsI_sorted m) hk1 hk2) (bitsI_sorted _) fun y => ?_
  rw [mem_intoL, mem_bitsI hm, mem_bitsI hor, Nat.testBit_or, testBit_bit]
  simp only [Bool.or_eq_true, decide_eq_true_eq]
  constructor
  · rintro (rfl | ⟨h1, h2⟩)
    · exact ⟨by omega, .inr (by omega)⟩
    · exact ⟨h1, .inl h2⟩
  · rintro ⟨h1, h2 | h2⟩
    · exact .inr ⟨h1, h2⟩
    · exact .inl (by omega)
theorem or_bit_same {m x : Nat} (h : m.testBit x = true) : m ||| bit x = m := by
  apply nat_ext
  intro i
  rw [Nat.testBit_or, testBit_bit]
  by_cases e : x = i
  · subst e; simp [h]
  · simp [e]
set_option maxHeartbeats 2000000 in
theorem l1Into_in {S : Nat → Prop} {v : Value} {xs : List Int} {x : Int} {w : World} (hv : SlI S w .i64 v xs) (hs : xs.Pairwise (· < ·)) (hx : x ∈ xs) :
    Calls Tryz.prog 155 #[v, .int .i64 x] w fun e w' => e = .returned v ∧ w = w' := by
  obtain ⟨a, b, off, cap, rfl, hl, ha, hc⟩ := hv
  go_enter Tryz.func155, Tryz.ntmps155
  go_wp2
  go_loopw [5] (fun i wr => ∃ k : Nat, k ≤ xs.length ∧ i = .int .i64 k ∧ (∀ y ∈ xs.take k, y < x) ∧ w = wr) (fun i _ => xs.length - (intOf i).toNat)
  case atStart => exact ⟨0, Nat.zero_le _, rfl, by simp, rfl⟩
  case round =>
    obtain ⟨k, hk, rfl, hsm, rfl⟩ := hrel
    have hlt : k < xs.length := by
      apply Nat.lt_of_not_le
      intro h
      rw [List.take_of_length_le h] at hsm
      have := hsm x hx; omega
    have hcell := hc k hlt
    obtain ⟨rfl, _⟩ := ha (by omega)
    by_cases hb : xs[k] < x
    · have hbb : decide (xs[k] < x) = true := by simpa using hb
      have hst := Lib.hid (take_step (P := fun y => y < x) hlt hsm hb)
      clear hsm
      go_wp2
      go_roundw
      case rel => exact ⟨k + 1, by omega, by go_num, hst.out, trivial⟩
      case measure => simp [intOf]; omega
    · have hbb : decide (xs[k] < x) = false := by simpa using hb
      have he : xs[k] = x := by
        obtain ⟨j, hj, rfl⟩ := List.getElem_of_mem hx
        by_cases e : j = k
        · subst e; rfl
        · by_cases h2 : j < k
          · have := hsm xs[j] (by
              have : xs[j] = (xs.take k)[j]'(by simp; omega) := by simp
              rw [this]; exact List.getElem_mem _)
            omega
          · have := List.pairwise_iff_getElem.1 hs k j hlt hj (by omega)
            omega
      have heb : (xs[k] == x) = true := by simpa using he
      clear he hsm
      go_wp2
      go_ret
      exact ⟨rfl, rfl⟩
theorem intoB_any {B : Nat} {v : Value} {m x : Nat} {w : World} (hv : OwnB w B 2 v m) (hB : B ≤ w.heap.size) (hm : m < 4294967296) (hx : x < 32) :
    Calls Tryz.prog 155 #[v, .int .i64 (x : Int)] w fun e w' => ∃ u, e = .returned u ∧ OwnB w' B 2 u (m ||| bit x) ∧ Below w.heap.size w w' := by
  by_cases h : m.testBit x = true
  · refine (l1Into_in hv.ints (bitsI_sorted m) ((mem_bitsI hm).2 ⟨by omega, by simpa using h⟩)).mono ?_
    rintro e w' ⟨rfl, rfl⟩
    exact ⟨v, rfl, by rw [or_bit_same h]; exact hv, Below.refl _ _⟩
  · have hl := bitsI_len m
    refine (l1Into_any _ _ _ _ hv.ints (by omega) (bitsI_sorted m) (fun hn => h (by simpa using ((mem_bitsI hm).1 hn).2))).mono ?_
    rintro e w' ⟨u, k, rfl, hk, h1, h2, hown, hb⟩
    refine ⟨u, rfl, ?_, hb⟩
    rw [bitsI_or hm hx h1 h2] at hown
    have e : (bitsI m).length + 1 = (bitsI (m ||| bit x)).length := by rw [← bitsI_or hm hx h1 h2, intoL_len]
    rw [e] at hown
    exact Own.weak hown hB

def lenV : Value → Nat | .slice _ n _ => n | _ => 0
def orAt (a : List Nat) (u x : Nat) : List Nat := a.set u (a.getD u 0 ||| bit x)
def joinN (a : List Nat) (u x : Nat) : List Nat := orAt (orAt a u x) x u
theorem orAt_len (a : List Nat) (u x : Nat) : (orAt a u x).length = a.length := by simp [orAt]
theorem joinN_len (a : List Nat) (u x : Nat) : (joinN a u x).length = a.length := by simp [joinN, orAt_len]
theorem natsI_set (a : List Nat) (u m : Nat) : (natsI a).set u (m : Int) = natsI (a.set u m) := by simp [natsI, List.map_set]
theorem own_nat {w : World} {B g n c u : Nat} {E : TypeId} {k : IntKind} {a : List Nat} (h : Own w B E 1 (.slice (some ⟨g, 0, none⟩) n c) n ((natsI a).map (.int k))) (hu : u < a.length) (hn : a.length = n) :
    w.cell? ⟨g, u, none⟩ = some (.int k ((a.getD u 0 : Nat) : Int)) :=
  (World.ownsRow.cellAt h u (by omega)).trans (by simp [natsI, hu])
theorem own_nat_set {w : World} {B g n c : Nat} {E : TypeId} {k : IntKind} {a : List Nat} (h : Own w B E 1 (.slice (some ⟨g, 0, none⟩) n c) n ((natsI a).map (.int k))) (u m : Nat) :
    Own (w.setCell ⟨g, u, none⟩ (.int k (m : Int))) B E 1 (.slice (some ⟨g, 0, none⟩) n c) n ((natsI (a.set u m)).map (.int k)) := by
  have := h.stored u (.int k (m : Int))
  rw [← List.map_set, natsI_set] at this; exact this
theorem own_some {w : World} {B : Nat} {E : TypeId} {size : Nat} {v : Value} {n : Nat} {xs : List Value} (h : Own w B E size v n xs) (hn : 0 < n) : ∃ g c, v = .slice (some ⟨g, 0, none⟩) n c := by
  rcases h.2 with ⟨rfl, rfl⟩ | ⟨g, cap, cur, rfl, _⟩
  · omega
  · exact ⟨g, cap, rfl⟩
theorem KeptBut.refl (w : World) (r : Option Nat) : KeptBut w w r := ⟨rfl, rfl, rfl, Nat.le_refl _, fun _ _ _ => rfl⟩
theorem KeptBut.trans {a b c : World} {r : Option Nat} (h : KeptBut a b r) (k : KeptBut b c r) : KeptBut a c r :=
  ⟨k.1.trans h.1, k.2.1.trans h.2.1, k.2.2.1.trans h.2.2.1, Nat.le_trans h.2.2.2.1 k.2.2.2.1, fun i hi hr => (k.2.2.2.2 i (Nat.lt_of_lt_of_le hi h.2.2.2.1) hr).trans (h.2.2.2.2 i hi hr)⟩
theorem KeptBut.ofDrawn {a b : World} (h : Drawn a b) (r : Option Nat) : KeptBut a b r := by obtain ⟨m, rfl⟩ := h; exact ⟨rfl, rfl, rfl, Nat.le_refl _, fun _ _ _ => rfl⟩
theorem KeptBut.set (w : World) (g j : Nat) (u : Value) : KeptBut w (w.setCell ⟨g, j, none⟩ u) (some g) :=
  ⟨rfl, rfl, rfl, by simp, fun k _ hk => Below.heap_setCell _ _ _ _ (fun e => hk (by simp at e; rw [e]))⟩
theorem nat_all {a : List Nat} {u m : Nat} (h : ∀ x ∈ a, x < 4294967296) (hm : m < 4294967296) : ∀ x ∈ a.set u m, x < 4294967296 := fun x hx => by
  rcases List.mem_or_eq_of_mem_set hx with h1 | h1
  · exact h x h1
  · omega
theorem nat_getD {a : List Nat} (h : ∀ x ∈ a, x < 4294967296) (u : Nat) : a.getD u 0 < 4294967296 := by
  by_cases hu : u < a.length
  · have : a.getD u 0 = a[u] := by simp [hu]
    rw [this]; exact h _ (List.getElem_mem _)
  · have : a.getD u 0 = 0 := by simp [List.getElem?_eq_none (show a.length ≤ u by omega)]
    omega
theorem or_lt32 {a b : Nat} (ha : a < 4294967296) (hb : b < 4294967296) : a ||| b < 4294967296 := Nat.or_lt_two_pow (n := 32) ha hb
theorem joinN_lt {a : List Nat} {u x : Nat} (h : ∀ m ∈ a, m < 4294967296) (hu : u < 32) (hx : x < 32) : ∀ m ∈ joinN a u x, m < 4294967296 := by
  have h1 : ∀ m ∈ orAt a u x, m < 4294967296 := nat_all h (or_lt32 (nat_getD h u) (bit_lt hx))
  exact nat_all h1 (or_lt32 (nat_getD h1 x) (bit_lt hu))
def p4 : Nat → List Nat | 0 => [0, 0, 0, 0] | 1 => [0, 0, 0, 0] | 2 => [2, 1, 0, 0] | 3 => [2, 5, 2, 0] | _ => [2, 5, 10, 4]
theorem p4_len (k : Nat) : (p4 k).length = 4 := by
  match k with
  | 0 => rfl
  | 1 => rfl
  | 2 => rfl
  | 3 => rfl
  | _ + 4 => rfl
theorem p4_lt (k : Nat) : ∀ m ∈ p4 k, m < 4294967296 := by
  match k with
  | 0 => decide
  | 1 => decide
  | 2 => decide
  | 3 => decide
  | _ + 4 => show ∀ m ∈ [2, 5, 10, 4], m < 4294967296; decide
theorem p4_join {k : Nat} (h1 : 1 ≤ k) (h2 : k < 4) : joinN (p4 k) (k - 1) k = p4 (k + 1) := by
  match k with
  | 0 => omega
  | 1 => decide
  | 2 => decide
  | 3 => decide
  | _ + 4 => omega
def IdxPS (b : Bool) (w : World) (e : Ending) (w' : World) : Prop := ∃ r : Int, e = .returned (.int .i64 r) ∧ (b = true → 0 ≤ r) ∧ (b = false → r < 0) ∧ Drawn w w'
theorem SlI.lowS {S : Nat → Prop} {w : World} {k : IntKind} {v : Value} {xs : List Int} (h : SlI S w k v xs) : SlI (fun b => b < w.heap.size) w k v xs := by
  obtain ⟨a, b, off, cap, rfl, hl, ha, hc⟩ := h
  exact ⟨a, b, off, cap, rfl, hl, fun h0 => ⟨(ha h0).1, cell_lt (hc 0 h0)⟩, hc⟩
theorem SlI.low3S {S : Nat → Prop} {w : World} {k : IntKind} {v : Value} {xs : List Int} (h : SlI S w k v xs) : SlI (fun b => S b ∧ b < w.heap.size) w k v xs := by
  obtain ⟨a, b, off, cap, rfl, hl, ha, hc⟩ := h
  exact ⟨a, b, off, cap, rfl, hl, fun h0 => ⟨(ha h0).1, (ha h0).2, cell_lt (hc 0 h0)⟩, hc⟩
theorem SlR.low3S {S : Nat → Prop} {w : World} {v : Value} {g : List (List Int)} (h : SlR S w v g) : SlR (fun b => S b ∧ b < w.heap.size) w v g := by
  obtain ⟨a, b, off, cap, f, rfl, hl, ha, hc⟩ := h
  exact ⟨a, b, off, cap, f, rfl, hl, fun h0 => ⟨(ha h0).1, (ha h0).2, cell_lt (hc 0 h0).1⟩, fun i hi => ⟨(hc i hi).1, (hc i hi).2.low3S⟩⟩
theorem GOk.rowlenS {g : List (List Int)} (hg : GOk g) {x : Nat} (hx : x < g.length) : g[x].length ≤ 32 := by
  have := bitsI_maskL (rise_sorted (hg.rise x hx)) (hg.ge32 hx)
  rw [← this]
  exact bitsI_len _
theorem own_typeS {w : World} {B B' : Nat} {E E' : TypeId} {s s' : Nat} {v v' : Value} {n n' : Nat} {xs xs' : List Value} (h : Own w B E s v n xs) (h' : Own w B' E' s' v' n' xs') (hE : E ≠ E') (b : Nat) (hb : v.ownBlock = some b) : v'.ownBlock ≠ some b := by
  intro hb'
  rcases h.2 with ⟨rfl, -⟩ | ⟨g, cap, cur, rfl, -, hg, -⟩
  · simp [Value.ownBlock] at hb
  · rcases h'.2 with ⟨rfl, -⟩ | ⟨g', cap', cur', rfl, -, hg', -⟩
    · simp [Value.ownBlock] at hb'
    · have e1 : g = b := by simpa [Value.ownBlock] using hb
      have e2 : g' = b := by simpa [Value.ownBlock] using hb'
      subst e1; subst e2
      rw [hg] at hg'
      simp only [Option.some.injEq, Obj.cells.injEq] at hg'
      exact hE hg'.2.1
theorem Own.otherT {w w' : World} {B B' : Nat} {E E' : TypeId} {s s' : Nat} {v u : Value} {n n' : Nat} {xs xs' : List Value} (h : Own w B E s v n xs) (h' : Own w B' E' s' u n' xs') (hE : E ≠ E') (hk : KeptBut w w' u.ownBlock) : Own w' B E s v n xs :=
  h.kept hk fun b hb => own_typeS h h' hE b hb
/-- append(s, x), one element of one cell, inside a region that draws its order. -/
theorem opWp_append1S {P : Program} {w : World} {T E : TypeId} {bytes : Nat} {z : Value} (hE : Elem P T E 1 bytes z) {B : Nat}
    {o : Oper} {a : Act} {K : Act → World → Prop} {Q : Exit → Act → World → Prop} (s x : Operand)
    (ho : o.op = .call { callee := .builtin .append, args := #[s, x], argTypes := #[T, T] })
    {v : Value} {n : Nat} {xs : List Value} (hown : Own w B E 1 v n xs) (hs : a.eval s = v) {u : Value} {nb : Nat} (hnb : nb = w.heap.size)
    (hx : a.eval x = .slice (some ⟨nb, 0, none⟩) 1 1) (h1 : u.oneCell' = true)
    (h63 : n + 1 ≤ 1099511627) (hbase : B ≤ w.heap.size)
    (h : ∀ v' w', Own w' B E 1 v' (n + 1) (xs ++ [u]) → KeptBut w w' v.ownBlock → Moved (w.alloc (.cells #[u] E)) v v' → K (a.put o.dst v') w') : o.wp P a (w.alloc (.cells #[u] E)) K Q := by
  subst hnb
  obtain ⟨v', w', hr, h2, h3, h4⟩ := append_run (w := w.alloc (.cells #[u] E)) (ty := o.type) hE v n xs (World.ownsRow.alloc hown _) ⟨w.heap.size, 0, none⟩ 1 1 [u] rfl (fun j u' hj => by
      match j, hj with
      | 0, hj => simp at hj; subst hj; simp [Addr.add])
    (fun u' hu' => by simp at hu'; subst hu'; exact h1) h63 (by simp; omega)
  unfold Oper.wp execOp
  simp only [ho, resolve, invoke, builtin, Sem.run_bind, Sem.run_pure, Result.andThen_ok, List.map_toArray, List.map_cons, List.map_nil, hs, hx, hr]
  exact h v' w' h2 (.alloc h3) h4
structure Tri where
  a : Int
  b : Int
  c : Int
deriving DecidableEq
/-- The neighbours of v that are left. -/
def nearN (a : List Nat) (left v : Nat) : List Nat := bitsN (a.getD v 0 &&& left)
/-- How v folds away, where at most two neighbours are left. -/
def foldF (a : List Nat) (left v : Nat) : Option Tri :=
  if 2 < (nearN a left v).length then none
  else some ⟨v, if 0 < (nearN a left v).length then ((nearN a left v).getD 0 0 : Nat) else -1, if 1 < (nearN a left v).length then ((nearN a left v).getD 1 0 : Nat) else -1⟩
def foldN (a : List Nat) (f : Tri) : List Nat := if 0 ≤ f.c then joinN a f.b.toNat f.c.toNat else a
/-- The least vertex that folds. -/
def foldV (a : List Nat) (left : Nat) : Option Nat := (bitsN left).find? fun v => (foldF a left v).isSome
/-- All foldings, the least first. -/
def foldsF : Nat → List Nat → Nat → List Nat × Nat
  | 0, a, left => (a, left)
  | n + 1, a, left => match foldV a left with
    | none => (a, left)
    | some v => match foldF a left v with
      | none => (a, left)
      | some f => foldsF n (foldN a f) (andN left (bit v))
/-- The reference's graph when a, left are the program's state. -/
def rowsN (a : List Nat) (left n : Nat) : List (List Int) := (List.range n).map fun u => if left.testBit u = true then bitsI (a.getD u 0 &&& left) else []
theorem rowsN_len (a : List Nat) (left n : Nat) : (rowsN a left n).length = n := by simp [rowsN]
theorem rowsN_get {a : List Nat} {left n u : Nat} (hu : u < (rowsN a left n).length) : (rowsN a left n)[u] = if left.testBit u = true then bitsI (a.getD u 0 &&& left) else [] := by simp [rowsN]
theorem rowsN_getD {a : List Nat} {left n u : Nat} (hu : u < n) : (rowsN a left n).getD u [] = if left.testBit u = true then bitsI (a.getD u 0 &&& left) else [] := by simp [rowsN, hu]
/-- What the state keeps: words of n bits, no vertex its own neighbour. -/
structure FoldI (a : List Nat) (left n : Nat) : Prop where
  len : a.length = n
  le : n ≤ 16
  left : left < 2 ^ n
  lt : ∀ m ∈ a, m < 4294967296
  irr : ∀ u, (a.getD u 0).testBit u = false
theorem FoldI.left32 {a : List Nat} {left n : Nat} (h : FoldI a left n) : left < 4294967296 := Nat.lt_of_lt_of_le h.left (by have := pow_le16 h.le; omega)
theorem FoldI.near32 {a : List Nat} {left n : Nat} (h : FoldI a left n) (v : Nat) : a.getD v 0 &&& left < 4294967296 := Nat.lt_of_le_of_lt Nat.and_le_right h.left32
theorem mem_near {a : List Nat} {left n v u : Nat} (h : FoldI a left n) : u ∈ nearN a left v ↔ (a.getD v 0).testBit u = true ∧ left.testBit u = true := by
  unfold nearN
  rw [mem_bitsN (h.near32 v), Nat.testBit_and, Bool.and_eq_true]
theorem near_I (a : List Nat) (left v : Nat) : bitsI (a.getD v 0 &&& left) = natsI (nearN a left v) := rfl
theorem near_nodup (a : List Nat) (left v : Nat) : (nearN a left v).Nodup := by
  unfold nearN
  exact (bitsN_sorted _).imp (fun h => Nat.ne_of_lt h)
/-- What a folding names: neighbours that are left. -/
theorem fold_names {a : List Nat} {left n v : Nat} {f : Tri} (h : FoldI a left n) (hf : foldF a left v = some f) :
    f.a = v ∧ (f.b = -1 ∨ ∃ x, f.b = (x : Nat) ∧ left.testBit x = true ∧ x ≠ v) ∧ (f.c = -1 ∨ ∃ x y, f.b = (x : Nat) ∧ f.c = (y : Nat) ∧ left.testBit x = true ∧ left.testBit y = true ∧ x ≠ v ∧ y ≠ v ∧ x ≠ y) := by
  unfold foldF at hf
  split at hf
  · cases hf
  · rename_i hl
    simp only [Option.some.injEq] at hf
    subst hf
    have hm : ∀ i (hi : i < (nearN a left v).length), left.testBit ((nearN a left v).getD i 0) = true ∧ (nearN a left v).getD i 0 ≠ v := fun i hi => by
      have e : (nearN a left v).getD i 0 = (nearN a left v)[i] := by simp [hi]
      have := (mem_near h).1 (List.getElem_mem hi)
      rw [e]
      refine ⟨this.2, fun e2 => ?_⟩
      rw [e2, h.irr] at this; cases this.1
    refine ⟨rfl, ?_, ?_⟩
    · by_cases h0 : 0 < (nearN a left v).length
      · right; refine ⟨_, by simp only [if_pos h0], hm 0 h0⟩
      · left; simp only [if_neg h0]
    · by_cases h1 : 1 < (nearN a left v).length
      · right
        refine ⟨_, _, by simp only [if_pos (show 0 < (nearN a left v).length by omega)], by simp only [if_pos h1], (hm 0 (by omega)).1, (hm 1 h1).1, (hm 0 (by omega)).2, (hm 1 h1).2, fun e => ?_⟩
        have e0 : (nearN a left v).getD 0 0 = (nearN a left v)[0]'(by omega) := by simp [show 0 < (nearN a left v).length by omega]
        have e1 : (nearN a left v).getD 1 0 = (nearN a left v)[1] := by simp [h1]
        rw [e0, e1] at e
        have := (List.getElem_inj (near_nodup a left v)).1 e
        omega
      · left; simp only [if_neg h1]
theorem getD_set_n {a : List Nat} {u v x : Nat} (hu : u < a.length) : (a.set u x).getD v 0 = if u = v then x else a.getD v 0 := by
  by_cases e : u = v
  · subst e; simp [hu]
  · simp [List.getElem?_set_ne e, e]
theorem joinN_get {a : List Nat} {u x v : Nat} (hu : u < a.length) (hx : x < a.length) (hux : u ≠ x) :
    (joinN a u x).getD v 0 = if v = u then a.getD u 0 ||| bit x else if v = x then a.getD x 0 ||| bit u else a.getD v 0 := by
  unfold joinN orAt
  rw [getD_set_n (by simpa using hx), getD_set_n hu, getD_set_n hu, if_neg hux]
  by_cases h1 : x = v
  · subst h1
    have : ¬ x = u := fun e => hux e.symm
    simp [this]
  · by_cases h2 : u = v
    · subst h2; simp [h1]
    · have h3 : ¬ v = u := fun e => h2 e.symm
      have h4 : ¬ v = x := fun e => h1 e.symm
      simp [h1, h2, h3, h4]
theorem FoldI.next {a : List Nat} {left n v : Nat} {f : Tri} (h : FoldI a left n) (hv : v < n) (hf : foldF a left v = some f) : FoldI (foldN a f) (andN left (bit v)) n := by
  have hl := h.left32
  have h16 := h.le
  have hlen := h.len
  have hleft : andN left (bit v) < 2 ^ n := Nat.lt_of_le_of_lt (andN_le _ _) h.left
  obtain ⟨hfa, hfb, hfc⟩ := fold_names h hf
  unfold foldN
  rcases hfc with hc | ⟨x, y, hb, hc, hx, hy, hxv, hyv, hxy⟩
  · rw [hc, if_neg (by omega)]
    exact ⟨hlen, h16, hleft, h.lt, h.irr⟩
  · have hxn := bit_lt_of h.left hx
    have hyn := bit_lt_of h.left hy
    rw [hb, hc, if_pos (by omega), Int.toNat_natCast, Int.toNat_natCast]
    refine ⟨by rw [joinN_len]; exact hlen, h16, hleft, joinN_lt h.lt (by omega) (by omega), fun u => ?_⟩
    rw [joinN_get (by omega) (by omega) hxy]
    by_cases e1 : u = x
    · subst e1
      rw [if_pos rfl, Nat.testBit_or, h.irr, testBit_bit]; simpa using fun e => hxy e.symm
    · rw [if_neg e1]
      by_cases e2 : u = y
      · subst e2
        rw [if_pos rfl, Nat.testBit_or, h.irr, testBit_bit]; simpa using hxy
      · rw [if_neg e2]; exact h.irr u
/-- The reference's row of u behind a folding. -/
def lessL (l : List Int) (v : Int) : List Int := l.filter fun x => !decide (x = v)
theorem less_bits {m : Nat} (hm : m < 4294967296) {v : Nat} (hv : v < 32) : lessL (bitsI m) (v : Int) = bitsI (andN m (bit v)) := by
  have hb := bit_lt hv
  have hA : andN m (bit v) < 4294967296 := Nat.lt_of_le_of_lt (andN_le _ _) hm
  refine sorted_ext ((bitsI_sorted m).filter _) (bitsI_sorted _) fun x => ?_
  unfold lessL
  rw [List.mem_filter, mem_bitsI hm, mem_bitsI hA, testBit_andN hm hb, testBit_bit]
  simp only [Bool.not_eq_true', decide_eq_false_iff_not, Bool.and_eq_true]
  constructor
  · rintro ⟨⟨h1, h2⟩, h3⟩
    exact ⟨h1, h2, by omega⟩
  · rintro ⟨h1, h2, h3⟩
    exact ⟨⟨h1, h2⟩, by omega⟩
theorem and_andN {m l b : Nat} (hl : l < 4294967296) (hb : b < 4294967296) : andN (m &&& l) b = m &&& andN l b := by
  apply nat_ext
  intro i
  rw [testBit_andN (Nat.lt_of_le_of_lt Nat.and_le_right hl) hb, Nat.testBit_and, Nat.testBit_and, testBit_andN hl hb, Bool.and_assoc]
/-- The row of u in the next state, as the reference makes it: less v, with what is joined put in. -/
theorem row_next {a : List Nat} {left n v u : Nat} {f : Tri} (h : FoldI a left n) (hv : v < n) (hu : u < n) (hf : foldF a left v = some f) :
    (rowsN (foldN a f) (andN left (bit v)) n).getD u [] = if u = v then [] else bitsI ((if left.testBit u = true then a.getD u 0 &&& andN left (bit v) else 0) ||| (if (u : Int) = f.b ∧ 0 ≤ f.c then bit f.c.toNat else 0) ||| (if (u : Int) = f.c then bit f.b.toNat else 0)) := by
  have hl := h.left32
  have h16 := h.le
  have hlen := h.len
  have hb := bit_lt (show v < 32 by omega)
  rw [rowsN_getD hu, testBit_andN hl hb, testBit_bit]
  obtain ⟨hfa, hfb, hfc⟩ := fold_names h hf
  by_cases e : u = v
  · subst e; simp
  · have e' : ¬ v = u := fun e2 => e e2.symm
    rw [if_neg e]
    simp only [e', decide_false, Bool.not_false, Bool.and_true]
    rcases hfc with hc | ⟨x, y, hb', hc, hx, hy, hxv, hyv, hxy⟩
    · have h1 : ¬ ((u : Int) = f.b ∧ 0 ≤ f.c) := by omega
      have h2 : ¬ (u : Int) = f.c := by omega
      rw [if_neg h1, if_neg h2, Nat.or_zero, Nat.or_zero]
      unfold foldN
      rw [if_neg (show ¬ 0 ≤ f.c by omega)]
      by_cases hu2 : left.testBit u = true
      · rw [if_pos hu2, if_pos hu2]
      · rw [if_neg hu2, if_neg hu2]; rfl
    · have hxn := bit_lt_of h.left hx
      have hyn := bit_lt_of h.left hy
      unfold foldN
      rw [hb', hc, if_pos (show (0 : Int) ≤ (y : Int) by omega), Int.toNat_natCast, Int.toNat_natCast, joinN_get (by omega) (by omega) hxy]
      have hjoin : ∀ (m z : Nat), left.testBit z = true → z ≠ v → (m ||| bit z) &&& andN left (bit v) = (m &&& andN left (bit v)) ||| bit z := fun m z hz hzv => by
        apply nat_ext
        intro i
        rw [Nat.testBit_and, Nat.testBit_or, Nat.testBit_or, Nat.testBit_and, testBit_andN hl hb, testBit_bit, testBit_bit]
        by_cases ez : z = i
        · subst ez
          have : ¬ v = z := fun e2 => hzv e2.symm
          simp [hz, this]
        · simp [ez]
      by_cases e1 : u = x
      · subst e1
        have e2 : ¬ (u : Int) = (y : Int) := by omega
        rw [if_pos hx, if_pos rfl, if_pos hx, if_pos ⟨rfl, by omega⟩, if_neg e2, Nat.or_zero, hjoin _ _ hy hyv]
      · have e1' : ¬ ((u : Int) = (x : Int) ∧ (0 : Int) ≤ (y : Int)) := by omega
        rw [if_neg e1, if_neg e1', Nat.or_zero]
        by_cases e2 : u = y
        · subst e2
          rw [if_pos hy, if_pos rfl, if_pos hy, if_pos rfl, hjoin _ _ hx hxv]
        · have e2' : ¬ (u : Int) = (y : Int) := by omega
          rw [if_neg e2, if_neg e2', Nat.or_zero]
          by_cases hu2 : left.testBit u = true
          · rw [if_pos hu2, if_pos hu2]
          · rw [if_neg hu2, if_neg hu2]; rfl
def swP (s : NP) : NP := (s.2, s.1)
def stepsN (p : List Nat) (closed : Bool) : List NP := (List.range (p.length - 1)).map (fun i => (p.getD i 0, p.getD (i + 1) 0)) ++ if closed = true then [(p.getD (p.length - 1) 0, p.getD 0 0)] else []
def freeB (g : List (List Int)) (U : List NP) (s : NP) : Bool := decide ((s.2 : Int) ∈ g.getD s.1 []) && !decide (s ∈ U)
def vokB (n : Nat) (ear : List Int) (m : Nat) (first : Bool) (i : Nat) : Bool :=
  inB (ear.getD i 0) 0 ((n : Int) - 1) && !decide (ear.getD i 0 ∈ ear.take i) && (first || (m.testBit (ear.getD i 0).toNat == (decide (i = 0) || decide (i = ear.length - 1))))
def natsOf (ear : List Int) : List Nat := ear.map Int.toNat
def earB (g : List (List Int)) (ear : List Int) (m : Nat) (U : List NP) (first : Bool) : Bool :=
  decide ((if first = true then 3 else 2) ≤ ear.length) && (List.range ear.length).all (vokB g.length ear m first) && (stepsN (natsOf ear) first).all (freeB g U)
def useU (U S : List NP) : List NP := U ++ S.flatMap fun s => [s, swP s]
def earsF (g : List (List Int)) : List (List Int) → Nat → List NP → Option (Nat × List NP)
  | [], m, U => some (m, U)
  | e :: t, m, U => if earB g e m U (m == 0) = true then earsF g t (m ||| maskL e) (useU U (stepsN (natsOf e) (m == 0))) else none
def endsN (g : List (List Int)) : Nat := (g.map List.length).sum
def endB (g : List (List Int)) (m : Nat) (U : List NP) : Bool := decide (m = firstN g.length) && decide (U.length = endsN g)
noncomputable def earsOkB (g ears : List (List Int)) : Bool := gokB g && decide (0 < ears.length) && match earsF g ears 0 [] with | none => false | some (m, U) => endB g m U
theorem useU_nil (U : List NP) : useU U [] = U := by simp [useU]
theorem useU_snoc (U S : List NP) (s : NP) : useU U (S ++ [s]) = useU U S ++ [s, swP s] := by simp [useU]
theorem useU_take {U S : List NP} {k : Nat} (hk : k < S.length) : useU U (S.take (k + 1)) = useU U (S.take k) ++ [S[k], swP S[k]] := by
  rw [List.take_succ_eq_append_getElem hk, useU_snoc]
theorem useU_len (U S : List NP) : (useU U S).length = U.length + 2 * S.length := by
  unfold useU
  rw [List.length_append]
  congr 1
  induction S with
  | nil => rfl
  | cons a t ih => rw [List.flatMap_cons, List.length_append, ih]; simp; omega
theorem mem_useU {U S : List NP} {s : NP} : s ∈ useU U S ↔ s ∈ U ∨ ∃ t ∈ S, s = t ∨ s = swP t := by
  unfold useU
  rw [List.mem_append, List.mem_flatMap]
  simp
theorem swP_swP (s : NP) : swP (swP s) = s := rfl
theorem stepsN_len (p : List Nat) (c : Bool) : (stepsN p c).length = p.length - 1 + if c = true then 1 else 0 := by
  unfold stepsN; cases c <;> simp
theorem stepsN_get {p : List Nat} {c : Bool} {i : Nat} (h : i < (stepsN p c).length) : (stepsN p c)[i] = if i < p.length - 1 then (p.getD i 0, p.getD (i + 1) 0) else (p.getD (p.length - 1) 0, p.getD 0 0) := by
  have hl := h
  rw [stepsN_len] at hl
  by_cases hi : i < p.length - 1
  · rw [if_pos hi]
    simp only [stepsN]
    rw [List.getElem_append_left (by simpa using hi)]; simp
  · rw [if_neg hi]
    cases c with
    | false => simp at hl; omega
    | true =>
      simp only [stepsN, if_true]
      rw [List.getElem_append_right (by simpa using Nat.le_of_not_lt hi)]
      simp
/-- Two steps of one list never run along the same edge. -/
def OffP (s t : NP) : Prop := s ≠ t ∧ s ≠ swP t
theorem steps_off {p : List Nat} {c : Bool} (hn : p.Nodup) (h2 : 2 ≤ p.length) (h3 : c = true → 3 ≤ p.length) {i j : Nat} (hij : i < j) (hj : j < (stepsN p c).length) : OffP (stepsN p c)[j] ((stepsN p c)[i]'(by omega)) := by
  have hinj : ∀ a b, a < p.length → b < p.length → p.getD a 0 = p.getD b 0 → a = b := fun a b ha hb e => by
    simp only [List.getD_eq_getElem?_getD, List.getElem?_eq_getElem ha, List.getElem?_eq_getElem hb, Option.getD_some] at e
    have hpw := List.pairwise_iff_getElem.1 (List.nodup_iff_pairwise_ne.1 hn)
    rcases Nat.lt_trichotomy a b with h | h | h
    · exact absurd e (hpw a b ha hb h)
    · exact h
    · exact absurd e.symm (hpw b a hb ha h)
  have hl := stepsN_len p c
  have hi : i < p.length - 1 := by
    rw [hl] at hj
    cases c
    · simp at hj; omega
    · simp at hj; omega
  rw [stepsN_get, stepsN_get, if_pos hi]
  by_cases hj2 : j < p.length - 1
  · rw [if_pos hj2]
    refine ⟨fun e => ?_, fun e => ?_⟩
    · have := hinj _ _ (by omega) (by omega) (congrArg Prod.fst e); omega
    · have := hinj j (i + 1) (by omega) (by omega) (congrArg Prod.fst e)
      have := hinj (j + 1) i (by omega) (by omega) (congrArg Prod.snd e); omega
  · rw [if_neg hj2]
    have hc : c = true := by
      cases c
      · rw [hl] at hj; simp at hj; omega
      · rfl
    have := h3 hc
    refine ⟨fun e => ?_, fun e => ?_⟩
    · have := hinj _ _ (by omega) (by omega) (congrArg Prod.fst e); omega
    · have := hinj (p.length - 1) (i + 1) (by omega) (by omega) (congrArg Prod.fst e)
      have := hinj 0 i (by omega) (by omega) (congrArg Prod.snd e); omega
theorem free_off {g : List (List Int)} {U : List NP} {p : List Nat} {c : Bool} (hn : p.Nodup) (h2 : 2 ≤ p.length) (h3 : c = true → 3 ≤ p.length) {j : Nat} (hj : j < (stepsN p c).length) :
    freeB g (useU U ((stepsN p c).take j)) (stepsN p c)[j] = freeB g U (stepsN p c)[j] := by
  unfold freeB
  congr 2
  rw [decide_eq_decide, mem_useU]
  constructor
  · rintro (h | ⟨t, ht, h⟩)
    · exact h
    · obtain ⟨i, hi, rfl⟩ := List.getElem_of_mem ht
      rw [List.length_take] at hi
      rw [List.getElem_take] at h
      have := steps_off hn h2 h3 (show i < j by omega) hj
      rcases h with h | h
      · exact absurd h this.1
      · exact absurd h this.2
  · exact .inl
/-- What holds of the vertices and the edges that were used. -/
structure EInv (g : List (List Int)) (m : Nat) (U : List NP) : Prop where
  mask : m < 2 ^ g.length
  nodup : U.Nodup
  edge : ∀ s ∈ U, s.1 < g.length ∧ s.2 < g.length ∧ (s.2 : Int) ∈ g.getD s.1 []
  sym : ∀ s ∈ U, swP s ∈ U
theorem EInv.start (g : List (List Int)) : EInv g 0 [] := ⟨Nat.two_pow_pos _, by simp, by simp, by simp⟩
theorem GOk.symD {g : List (List Int)} (hg : GOk g) {u v : Nat} (hu : u < g.length) (h : (v : Int) ∈ g.getD u []) : v < g.length ∧ (u : Int) ∈ g.getD v [] ∧ u ≠ v := by
  have e : g.getD u [] = g[u] := by simp [hu]
  rw [e] at h
  have h1 := (hg.ge hu _ h).2
  have h2 := hg.symm u hu _ h
  rw [Int.toNat_natCast] at h2
  refine ⟨by omega, h2, fun e => ?_⟩
  subst e; exact hg.irrefl u hu h
theorem EInv.one {g : List (List Int)} (hg : GOk g) {m : Nat} {U : List NP} (h : EInv g m U) {s : NP} (hs : s.1 < g.length) (hf : freeB g U s = true) : EInv g m (U ++ [s, swP s]) := by
  simp only [freeB, Bool.and_eq_true, decide_eq_true_eq, Bool.not_eq_true', decide_eq_false_iff_not] at hf
  obtain ⟨hf1, hf2⟩ := hf
  obtain ⟨h1, h2, h3⟩ := hg.symD hs hf1
  have hne : s ≠ swP s := fun e => h3 (congrArg Prod.fst e)
  have hsw : swP s ∉ U := fun hin => hf2 (h.sym _ hin)
  refine ⟨h.mask, ?_, fun t ht => ?_, fun t ht => ?_⟩
  · rw [List.nodup_append]
    refine ⟨h.nodup, by simp [hne], fun a ha b hb e => ?_⟩
    subst e
    rcases List.mem_cons.1 hb with rfl | hb
    · exact hf2 ha
    · rw [List.mem_singleton] at hb; subst hb; exact hsw ha
  · rcases List.mem_append.1 ht with ht | ht
    · exact h.edge t ht
    · rcases List.mem_cons.1 ht with rfl | ht
      · exact ⟨hs, h1, hf1⟩
      · rw [List.mem_singleton] at ht; subst ht; exact ⟨h1, hs, h2⟩
  · rcases List.mem_append.1 ht with ht | ht
    · exact List.mem_append_left _ (h.sym t ht)
    · rcases List.mem_cons.1 ht with rfl | ht
      · simp
      · rw [List.mem_singleton] at ht; subst ht; rw [swP_swP]; simp
theorem inB_iff {x : Int} {n : Nat} : inB x 0 ((n : Int) - 1) = true ↔ 0 ≤ x ∧ x < n := by
  unfold inB
  rw [Bool.and_eq_true, decide_eq_true_eq, decide_eq_true_eq]; omega
/-- The vertices of an ear that passed. -/
theorem ear_nats {n m : Nat} {ear : List Int} {first : Bool} (h : (List.range ear.length).all (vokB n ear m first) = true) : natsI (natsOf ear) = ear ∧ (natsOf ear).length = ear.length ∧ GP n (natsOf ear) := by
  rw [List.all_eq_true] at h
  have h1 : ∀ i (hi : i < ear.length), 0 ≤ ear[i] ∧ ear[i] < n ∧ ear[i] ∉ ear.take i := fun i hi => by
    have := h i (List.mem_range.2 hi)
    have e : ear.getD i 0 = ear[i] := by simp [hi]
    simp only [vokB, e, Bool.and_eq_true, inB_iff, Bool.not_eq_true', decide_eq_false_iff_not] at this
    exact ⟨this.1.1.1, this.1.1.2, this.1.2⟩
  have h0 : ∀ x ∈ ear, 0 ≤ x ∧ x < n := fun x hx => by
    obtain ⟨i, hi, rfl⟩ := List.getElem_of_mem hx
    exact ⟨(h1 i hi).1, (h1 i hi).2.1⟩
  have hnd : ear.Nodup := by
    rw [List.nodup_iff_pairwise_ne, List.pairwise_iff_getElem]
    intro i j hi hj hij e
    refine (h1 j hj).2.2 ?_
    rw [← e, List.mem_iff_getElem]
    exact ⟨i, by rw [List.length_take]; omega, by rw [List.getElem_take]⟩
  have e1 : natsI (natsOf ear) = ear := by
    unfold natsI natsOf
    rw [List.map_map]
    conv => rhs; rw [← List.map_id ear]
    exact List.map_congr_left fun x hx => by have := (h0 x hx).1; simp; omega
  refine ⟨e1, by simp [natsOf], fun a ha => ?_, ?_⟩
  · obtain ⟨x, hx, rfl⟩ := List.mem_map.1 ha
    have := h0 x hx; omega
  · unfold natsOf
    rw [List.nodup_iff_pairwise_ne, List.pairwise_map]
    have := hnd
    rw [List.nodup_iff_pairwise_ne, List.pairwise_iff_getElem] at this
    rw [List.pairwise_iff_getElem]
    intro i j hi hj hij e
    have a := (h1 i hi).1
    have b := (h1 j hj).1
    exact this i j hi hj hij (by omega)
theorem steps_lt {n : Nat} {p : List Nat} {c : Bool} (h2 : 1 ≤ p.length) (hp : ∀ a ∈ p, a < n) : ∀ s ∈ stepsN p c, s.1 < n ∧ s.2 < n := fun s hs => by
  have hg : ∀ i, i < p.length → p.getD i 0 < n := fun i hi => by
    have : p.getD i 0 = p[i] := by simp [hi]
    rw [this]; exact hp _ (List.getElem_mem _)
  obtain ⟨i, hi, rfl⟩ := List.getElem_of_mem hs
  rw [stepsN_get]
  split
  · exact ⟨hg _ (by omega), hg _ (by omega)⟩
  · exact ⟨hg _ (by omega), hg _ (by omega)⟩
theorem EInv.all {g : List (List Int)} (hg : GOk g) {m : Nat} {U : List NP} (h : EInv g m U) {p : List Nat} {c : Bool} (hp : GP g.length p) (h2 : 2 ≤ p.length) (h3 : c = true → 3 ≤ p.length)
    (hf : ∀ s ∈ stepsN p c, freeB g U s = true) : ∀ k, k ≤ (stepsN p c).length → EInv g m (useU U ((stepsN p c).take k))
  | 0, _ => by rw [List.take_zero, useU_nil]; exact h
  | k + 1, hk => by
    rw [useU_take (by omega)]
    refine (EInv.all hg h hp h2 h3 hf k (by omega)).one hg (steps_lt (by omega) hp.1 _ (List.getElem_mem _)).1 ?_
    rw [free_off hp.2 h2 h3]
    exact hf _ (List.getElem_mem _)
theorem EInv.next {g : List (List Int)} (hg : GOk g) {m : Nat} {U : List NP} (h : EInv g m U) {e : List Int} {first : Bool} (hb : earB g e m U first = true) :
    EInv g (m ||| maskL e) (useU U (stepsN (natsOf e) first)) ∧ m ||| maskL e ≠ 0 ∧ U.length + 2 ≤ (useU U (stepsN (natsOf e) first)).length := by
  simp only [earB, Bool.and_eq_true, decide_eq_true_eq] at hb
  obtain ⟨⟨hb1, hb2⟩, hb3⟩ := hb
  obtain ⟨e1, e2, hp⟩ := ear_nats hb2
  rw [List.all_eq_true] at hb3
  have h2 : 2 ≤ (natsOf e).length := by rw [e2]; split at hb1 <;> omega
  have h3 : first = true → 3 ≤ (natsOf e).length := fun hf => by rw [e2]; rw [if_pos hf] at hb1; exact hb1
  have ha := h.all hg hp h2 h3 hb3 _ (Nat.le_refl _)
  rw [List.take_length] at ha
  have hge : ∀ x ∈ e, 0 ≤ x ∧ x < g.length := fun x hx => by
    rw [← e1] at hx
    obtain ⟨a, ha, rfl⟩ := List.mem_map.1 hx
    have := hp.1 a ha
    omega
  refine ⟨⟨Nat.or_lt_two_pow ha.mask (maskL_lt hge), ha.nodup, ha.edge, ha.sym⟩, fun h0 => ?_, ?_⟩
  · have hl : 0 < e.length := by omega
    have hx := hge e[0] (List.getElem_mem _)
    have : (m ||| maskL e).testBit e[0].toNat = true := by
      rw [Nat.testBit_or, testBit_maskL (fun x hx => (hge x hx).1)]
      have : ((e[0].toNat : Nat) : Int) = e[0] := by omega
      rw [this]; simp
    rw [h0] at this; simp at this
  · rw [useU_len, stepsN_len]; omega
/-- All pairs of a graph. -/
def allP (g : List (List Int)) : List NP := (List.range g.length).flatMap fun u => (g.getD u []).map fun v => (u, v.toNat)
theorem mem_allP {g : List (List Int)} (hg : GOk g) {s : NP} : s ∈ allP g ↔ s.1 < g.length ∧ (s.2 : Int) ∈ g.getD s.1 [] := by
  unfold allP
  rw [List.mem_flatMap]
  constructor
  · rintro ⟨u, hu, hs⟩
    rw [List.mem_range] at hu
    obtain ⟨v, hv, rfl⟩ := List.mem_map.1 hs
    have e : g.getD u [] = g[u] := by simp [hu]
    rw [e] at hv
    have := (hg.ge hu v hv).1
    refine ⟨hu, ?_⟩
    show ((v.toNat : Nat) : Int) ∈ g.getD u []
    rw [e, Int.toNat_of_nonneg this]; exact hv
  · rintro ⟨h1, h2⟩
    exact ⟨s.1, List.mem_range.2 h1, List.mem_map.2 ⟨_, h2, by simp⟩⟩
theorem allP_len (g : List (List Int)) : (allP g).length = endsN g := by
  unfold allP endsN
  rw [List.length_flatMap]
  congr 1
  apply List.ext_getElem
  · simp
  · intro i h1 h2
    have : i < g.length := by simpa using h2
    simp [this]
theorem nodup_sub {α : Type} [DecidableEq α] : ∀ {l E : List α}, l.Nodup → (∀ x ∈ l, x ∈ E) → l.length ≤ E.length ∧ (l.length = E.length → ∀ x ∈ E, x ∈ l)
  | [], E, _, _ => ⟨Nat.zero_le _, fun h x hx => by
      have : E = [] := List.eq_nil_of_length_eq_zero h.symm
      subst this; exact hx⟩
  | a :: t, E, hn, hs => by
    rw [List.nodup_cons] at hn
    have ha : a ∈ E := hs a (by simp)
    have hl := List.length_erase_of_mem ha
    have hpos : 0 < E.length := List.length_pos_of_mem ha
    obtain ⟨h1, h2⟩ := nodup_sub (l := t) (E := E.erase a) hn.2 (fun x hx => by
      refine (List.mem_erase_of_ne (fun e => ?_)).2 (hs x (by simp [hx]))
      subst e; exact hn.1 hx)
    refine ⟨by simp; omega, fun he x hx => ?_⟩
    by_cases e : x = a
    · subst e; simp
    · refine List.mem_cons_of_mem _ (h2 (by simp at he; omega) x ((List.mem_erase_of_ne e).2 hx))
theorem EInv.sub {g : List (List Int)} (hg : GOk g) {m : Nat} {U : List NP} (h : EInv g m U) : ∀ s ∈ U, s ∈ allP g := fun s hs => (mem_allP hg).2 ⟨(h.edge s hs).1, (h.edge s hs).2.2⟩
theorem EInv.le {g : List (List Int)} (hg : GOk g) {m : Nat} {U : List NP} (h : EInv g m U) : U.length ≤ endsN g := by
  rw [← allP_len]; exact (nodup_sub h.nodup (h.sub hg)).1
theorem allP_nodup {g : List (List Int)} (hg : GOk g) : (allP g).Nodup := by
  have hrow : ∀ u, u < g.length → ((g.getD u []).map fun v => ((u, v.toNat) : NP)).Nodup := fun u hu => by
    have e : g.getD u [] = g[u] := by simp [hu]
    rw [e, List.nodup_iff_pairwise_ne, List.pairwise_map]
    have hs := rise_sorted (hg.rise u hu)
    rw [List.pairwise_iff_getElem] at hs ⊢
    intro i j hi hj hij he
    have h1 := hs i j hi hj hij
    have h2 := (hg.ge hu _ (List.getElem_mem hi)).1
    have h3 := (hg.ge hu _ (List.getElem_mem hj)).1
    have h4 : g[u][i].toNat = g[u][j].toNat := congrArg Prod.snd he
    omega
  have key : ∀ n, n ≤ g.length → ((List.range n).flatMap fun u => (g.getD u []).map fun v => ((u, v.toNat) : NP)).Nodup := by
    intro n
    induction n with
    | zero => intro _; simp
    | succ n ih =>
      intro hn
      rw [List.range_succ, List.flatMap_append, List.nodup_append]
      refine ⟨ih (by omega), by simpa using hrow n (by omega), fun a ha b hb e => ?_⟩
      subst e
      obtain ⟨u, hu, h1⟩ := List.mem_flatMap.1 ha
      obtain ⟨u', hu', h2⟩ := List.mem_flatMap.1 hb
      rw [List.mem_singleton] at hu'
      obtain ⟨v, _, rfl⟩ := List.mem_map.1 h1
      obtain ⟨v', _, h3⟩ := List.mem_map.1 h2
      have := congrArg Prod.fst h3
      have := List.mem_range.1 hu
      simp at *; omega
  exact key _ (Nat.le_refl _)
theorem EInv.full {g : List (List Int)} (hg : GOk g) {m : Nat} {U : List NP} (h : EInv g m U) : U.length = endsN g ↔ ∀ s ∈ allP g, s ∈ U := by
  rw [← allP_len]
  constructor
  · exact (nodup_sub h.nodup (h.sub hg)).2
  · intro hs
    have h1 := (nodup_sub h.nodup (h.sub hg)).1
    have h2 := (nodup_sub (allP_nodup hg) hs).1
    omega
/-- The edges that are left. -/
def leftN (g : List (List Int)) (U : List NP) : List Nat := (List.range g.length).map fun u => maskL ((g.getD u []).filter fun v => !decide ((u, v.toNat) ∈ U))
theorem leftN_len (g : List (List Int)) (U : List NP) : (leftN g U).length = g.length := by simp [leftN]
theorem left_bit {g : List (List Int)} (hg : GOk g) (U : List NP) {u : Nat} (hu : u < g.length) (v : Nat) : ((leftN g U).getD u 0).testBit v = freeB g U (u, v) := by
  have e : g.getD u [] = g[u] := by simp [hu]
  have e2 : (leftN g U).getD u 0 = maskL (g[u].filter fun v => !decide ((u, v.toNat) ∈ U)) := by simp [leftN, hu]
  rw [e2, testBit_maskL (fun x hx => (hg.ge hu x (List.mem_filter.1 hx).1).1), freeB, Bool.eq_iff_iff]
  simp only [List.mem_filter, Int.toNat_natCast, decide_eq_true_eq, Bool.and_eq_true, e]
theorem leftN_start {g : List (List Int)} : leftN g [] = netsL g := by
  apply List.ext_getElem
  · rw [leftN_len, netsL_len]
  · intro i h1 h2
    have h3 : i < g.length := by rw [leftN_len] at h1; exact h1
    have hft : ∀ l : List Int, l.filter (fun _ => true) = l := fun l => by simp
    simp [leftN, netsL, h3, hft]
theorem leftN_lt {g : List (List Int)} (hg : GOk g) (U : List NP) : ∀ x ∈ leftN g U, x < 4294967296 := fun x hx => by
  obtain ⟨u, hu, rfl⟩ := List.mem_map.1 hx
  have hu := List.mem_range.1 hu
  have e : g.getD u [] = g[u] := by simp [hu]
  rw [e]
  exact maskL_lt32 fun y hy => hg.ge32 hu y (List.mem_filter.1 hy).1
def cutAt (a : List Nat) (u x : Nat) : List Nat := a.set u (andN (a.getD u 0) (bit x))
def cutN (a : List Nat) (u x : Nat) : List Nat := cutAt (cutAt a u x) x u
theorem cutAt_len (a : List Nat) (u x : Nat) : (cutAt a u x).length = a.length := by simp [cutAt]
theorem cutN_len (a : List Nat) (u x : Nat) : (cutN a u x).length = a.length := by simp [cutN, cutAt_len]
theorem andN_lt32 {a b : Nat} (ha : a < 4294967296) : andN a b < 4294967296 := Nat.lt_of_le_of_lt (andN_le _ _) ha
theorem cutAt_bit {a : List Nat} {u x y v : Nat} (ha : ∀ m ∈ a, m < 4294967296) (hu : u < a.length) (hx : x < 32) : ((cutAt a u x).getD y 0).testBit v = ((a.getD y 0).testBit v && !(decide (u = y) && decide (x = v))) := by
  unfold cutAt
  have hl := nat_getD ha u
  by_cases e : u = y
  · subst e
    have : (a.set u (andN (a.getD u 0) (bit x))).getD u 0 = andN (a.getD u 0) (bit x) := by simp [hu]
    rw [this, testBit_andN hl (bit_lt hx), testBit_bit, decide_eq_true rfl, Bool.true_and]
  · have : (a.set u (andN (a.getD u 0) (bit x))).getD y 0 = a.getD y 0 := by
      generalize andN (a.getD u 0) (bit x) = z
      simp [e]
    rw [this, decide_eq_false e]; simp
theorem cutAt_lt {a : List Nat} {u x : Nat} (ha : ∀ m ∈ a, m < 4294967296) : ∀ m ∈ cutAt a u x, m < 4294967296 := nat_all ha (andN_lt32 (nat_getD ha u))
theorem cutN_bit {a : List Nat} {u x y v : Nat} (ha : ∀ m ∈ a, m < 4294967296) (hu : u < a.length) (hx : x < a.length) (h16 : a.length ≤ 16) : ((cutN a u x).getD y 0).testBit v = ((a.getD y 0).testBit v && !(decide ((y, v) = (u, x)) || decide ((y, v) = (x, u)))) := by
  unfold cutN
  rw [cutAt_bit (cutAt_lt ha) (by rw [cutAt_len]; exact hx) (by omega), cutAt_bit ha hu (by omega)]
  rw [Bool.and_assoc]
  congr 1
  simp only [Prod.mk.injEq]
  rw [Bool.eq_iff_iff]
  simp only [Bool.and_eq_true, Bool.not_eq_true', Bool.and_eq_false_iff, decide_eq_false_iff_not, Bool.or_eq_false_iff, decide_eq_true_eq]
  constructor
  · rintro ⟨h1, h2⟩; exact ⟨by rintro ⟨rfl, rfl⟩; rcases h1 with h | h <;> exact h rfl, by rintro ⟨rfl, rfl⟩; rcases h2 with h | h <;> exact h rfl⟩
  · rintro ⟨h1, h2⟩
    refine ⟨?_, ?_⟩
    · by_cases e : u = y
      · right; intro e2; exact h1 ⟨e.symm, e2.symm⟩
      · exact .inl e
    · by_cases e : x = y
      · right; intro e2; exact h2 ⟨e.symm, e2.symm⟩
      · exact .inl e
theorem list_bits {a b : List Nat} (hl : a.length = b.length) (h : ∀ u, u < a.length → ∀ v, (a.getD u 0).testBit v = (b.getD u 0).testBit v) : a = b := by
  apply List.ext_getElem hl
  intro i h1 h2
  have := nat_ext (h i h1)
  simpa [h1, h2] using this
theorem leftN_cut {g : List (List Int)} (hg : GOk g) (U : List NP) {s : NP} (h1 : s.1 < g.length) (h2 : s.2 < g.length) : leftN g (U ++ [s, swP s]) = cutN (leftN g U) s.1 s.2 := by
  have h16 := hg.hi
  apply list_bits
  · rw [leftN_len, cutN_len, leftN_len]
  · intro u hu v
    rw [leftN_len] at hu
    rw [left_bit hg _ hu, cutN_bit (leftN_lt hg U) (by rw [leftN_len]; exact h1) (by rw [leftN_len]; exact h2) (by rw [leftN_len]; exact h16), left_bit hg _ hu, freeB, freeB, Bool.and_assoc]
    congr 1
    rw [← Bool.not_or]
    congr 1
    rw [Bool.eq_iff_iff]
    simp only [List.mem_append, List.mem_cons, List.not_mem_nil, or_false, decide_eq_true_eq, Bool.or_eq_true]
    have e1 : s = (s.1, s.2) := rfl
    rw [swP]
theorem left_zero {g : List (List Int)} (hg : GOk g) {m : Nat} {U : List NP} (h : EInv g m U) : (leftN g U).any (fun x => !decide (x = 0)) = !decide (U.length = endsN g) := by
  rw [Bool.eq_iff_iff, List.any_eq_true, Bool.not_eq_true', decide_eq_false_iff_not, h.full hg]
  constructor
  · rintro ⟨x, hx, hx0⟩ hall
    obtain ⟨u, hu, rfl⟩ := List.getElem_of_mem hx
    have hu2 : u < g.length := by rw [leftN_len] at hu; exact hu
    simp only [Bool.not_eq_true', decide_eq_false_iff_not] at hx0
    refine hx0 (Nat.eq_of_testBit_eq fun v => ?_)
    have h1 := left_bit hg U hu2 v
    have e : (leftN g U).getD u 0 = (leftN g U)[u] := by simp [hu]
    rw [e] at h1
    rw [h1, Nat.zero_testBit]
    by_cases hv : (v : Int) ∈ g.getD u []
    · have := hall (u, v) ((mem_allP hg).2 ⟨hu2, hv⟩)
      simp [freeB, this]
    · simp only [freeB, hv, decide_false, Bool.false_and]
  · intro hn
    have : ∃ s ∈ allP g, s ∉ U := by
      apply Classical.byContradiction
      intro hc
      exact hn fun s hs => Classical.byContradiction fun h => hc ⟨s, hs, h⟩
    obtain ⟨s, hs, hU⟩ := this
    obtain ⟨h1, h2⟩ := (mem_allP hg).1 hs
    have hlt : s.1 < (leftN g U).length := by rw [leftN_len]; exact h1
    refine ⟨(leftN g U)[s.1], List.getElem_mem _, ?_⟩
    have h3 := left_bit hg U h1 s.2
    have e : (leftN g U).getD s.1 0 = (leftN g U)[s.1] := by simp [hlt]
    rw [e] at h3
    simp only [Bool.not_eq_true', decide_eq_false_iff_not]
    intro h0
    rw [h0, Nat.zero_testBit] at h3
    have : freeB g U (s.1, s.2) = true := by simp [freeB, hU]; simpa using h2
    rw [this] at h3; cases h3
/-- Too many ears: one of them fails. -/
theorem earsF_many {g : List (List Int)} (hg : GOk g) : ∀ {ears : List (List Int)} {m : Nat} {U : List NP} {r : Nat × List NP}, EInv g m U → earsF g ears m U = some r → EInv g r.1 r.2 ∧ U.length + ears.length ≤ r.2.length
  | [], m, U, r, h, hr => by
    simp only [earsF, Option.some.injEq] at hr
    subst hr; exact ⟨h, by simp⟩
  | e :: t, m, U, r, h, hr => by
    rw [earsF] at hr
    split at hr
    · rename_i hb
      obtain ⟨h1, -, h3⟩ := h.next hg hb
      obtain ⟨h4, h5⟩ := earsF_many hg h1 hr
      exact ⟨h4, by simp; omega⟩
    · cases hr
theorem ears_many {g ears : List (List Int)} (hg : GOk g) (h : endsN g < ears.length) : earsOkB g ears = false := by
  unfold earsOkB
  cases hr : earsF g ears 0 [] with
  | none => simp
  | some r =>
    obtain ⟨h1, h2⟩ := earsF_many hg (EInv.start g) hr
    have := h1.le hg
    simp at h2; omega
def endsTo (g : List (List Int)) (k : Nat) : Nat := ((g.take k).map List.length).sum
theorem endsTo_succ {g : List (List Int)} {k : Nat} (hk : k < g.length) : endsTo g (k + 1) = endsTo g k + g[k].length := by
  unfold endsTo
  rw [List.take_succ_eq_append_getElem hk, List.map_append, List.sum_append]; simp
theorem endsTo_all (g : List (List Int)) : endsTo g g.length = endsN g := by unfold endsTo endsN; rw [List.take_length]
theorem endsTo_le {g : List (List Int)} (hg : GOk g) : ∀ k, k ≤ g.length → endsTo g k ≤ 32 * k
  | 0, _ => by simp [endsTo]
  | k + 1, hk => by
    have := endsTo_le hg k (by omega)
    have h2 := hg.rowlenS (x := k) (by omega)
    rw [endsTo_succ (by omega)]; omega
theorem endsN_le {g : List (List Int)} (hg : GOk g) : endsN g ≤ 512 := by
  have := endsTo_le hg g.length (Nat.le_refl _)
  rw [endsTo_all] at this
  have := hg.hi; omega
def tokB (g : List (List Int)) (p : List Int) (i : Nat) : Bool :=
  inB (p.getD i 0) 0 ((g.length : Int) - 1) && !decide (p.getD i 0 ∈ p.take i) && (decide (i = 0) || decide (p.getD (i - 1) 0 ∈ g.getD (p.getD i 0).toNat []))
def trailB (g : List (List Int)) (p : List Int) : Bool := (List.range p.length).all (tokB g p)
def TrailTo (g : List (List Int)) (p : List Int) (k : Nat) : Prop := ∀ i, i < k → tokB g p i = true
theorem trail_false {g : List (List Int)} {p : List Int} {k : Nat} (hk : k < p.length) (h : tokB g p k = false) : trailB g p = false := by
  cases hb : trailB g p with
  | false => rfl
  | true =>
    rw [trailB, List.all_eq_true] at hb
    have := hb k (List.mem_range.2 hk)
    rw [h] at this; cases this
theorem trail_true {g : List (List Int)} {p : List Int} (h : TrailTo g p p.length) : trailB g p = true := by
  rw [trailB, List.all_eq_true]
  exact fun i hi => h i (List.mem_range.1 hi)
theorem TrailTo.next {g : List (List Int)} {p : List Int} {k : Nat} (h : TrailTo g p k) (hk : tokB g p k = true) : TrailTo g p (k + 1) := fun i hi => by
  by_cases e : i = k
  · subst e; exact hk
  · exact h i (by omega)
theorem TrailTo.range {g : List (List Int)} {p : List Int} {k : Nat} (h : TrailTo g p k) : ∀ x ∈ p.take k, 0 ≤ x ∧ x < g.length := fun x hx => by
  obtain ⟨i, hi, rfl⟩ := List.getElem_of_mem hx
  rw [List.length_take] at hi
  have := h i (by omega)
  have hl : i < p.length := by omega
  have e : p.getD i 0 = p[i] := by simp [hl]
  simp only [tokB, e, Bool.and_eq_true, inB_iff] at this
  rw [List.getElem_take]
  exact this.1.1
theorem tok_at {g : List (List Int)} {p : List Int} {k x : Nat} (hk : k < p.length) (hx : p[k] = (x : Int)) (hxg : x < g.length) : tokB g p k = (!decide ((x : Int) ∈ p.take k) && (decide (k = 0) || decide (p.getD (k - 1) 0 ∈ g.getD x []))) := by
  have e : p.getD k 0 = (x : Int) := by simp [hk, hx]
  have hi : inB (x : Int) 0 ((g.length : Int) - 1) = true := inB_iff.2 ⟨by omega, by omega⟩
  rw [tokB, e, hi, Bool.true_and, Int.toNat_natCast]
/-- Less by the first unlike number. -/
def ltN : List Nat → List Nat → Bool
  | a :: p, b :: q => if a = b then ltN p q else decide (a < b)
  | [], _ => false
  | _ :: _, [] => false
theorem ltN_refl : ∀ p, ltN p p = false
  | [] => rfl
  | a :: p => by rw [ltN, if_pos rfl]; exact ltN_refl p
theorem ltN_anti : ∀ {p q : List Nat}, p.length = q.length → ltN p q = false → ltN q p = false → p = q
  | [], [], _, _, _ => rfl
  | [], _ :: _, h, _, _ => by simp at h
  | _ :: _, [], h, _, _ => by simp at h
  | a :: p, b :: q, hl, h, k => by
    rw [ltN] at h k
    by_cases e : a = b
    · subst e
      rw [if_pos rfl] at h k
      rw [ltN_anti (by simpa using hl) h k]
    · rw [if_neg e] at h
      rw [if_neg (fun h => e h.symm)] at k
      simp only [decide_eq_false_iff_not] at h k
      omega
theorem ltN_trans : ∀ {p q r : List Nat}, p.length = q.length → q.length = r.length → ltN q p = false → ltN r q = false → ltN r p = false
  | [], [], [], _, _, _, _ => rfl
  | a :: p, b :: q, c :: r, h1, h2, h, k => by
    rw [ltN] at h k ⊢
    by_cases e1 : b = a
    · subst e1
      rw [if_pos rfl] at h
      by_cases e2 : c = b
      · subst e2
        rw [if_pos rfl] at k ⊢
        exact ltN_trans (by simpa using h1) (by simpa using h2) h k
      · rw [if_neg e2] at k ⊢; exact k
    · rw [if_neg e1] at h
      simp only [decide_eq_false_iff_not] at h
      by_cases e2 : c = b
      · subst e2; rw [if_neg e1]; simpa using h
      · rw [if_neg e2] at k
        simp only [decide_eq_false_iff_not] at k
        rw [if_neg (by omega)]; simp; omega
  | [], _ :: _, _, h, _, _, _ => by simp at h
  | _ :: _, [], _, h, _, _, _ => by simp at h
  | [], [], _ :: _, _, h, _, _ => by simp at h
  | _ :: _, _ :: _, [], _, h, _, _ => by simp at h
theorem ltN_asym : ∀ {p q : List Nat}, ltN p q = true → ltN q p = false
  | a :: p, b :: q, h => by
    rw [ltN] at h ⊢
    by_cases e : a = b
    · subst e; rw [if_pos rfl] at h ⊢; exact ltN_asym h
    · rw [if_neg e] at h
      rw [if_neg (fun h => e h.symm)]
      simp only [decide_eq_true_eq, decide_eq_false_iff_not] at h ⊢
      omega
  | [], _, h => by simp [ltN] at h
  | _ :: _, [], h => by simp [ltN] at h
theorem ltN_app : ∀ (p s t : List Nat), ltN (p ++ s) (p ++ t) = ltN s t
  | [], s, t => rfl
  | a :: p, s, t => by rw [List.cons_append, List.cons_append, ltN, if_pos rfl]; exact ltN_app p s t
/-- Not after: by length, then by the first unlike number. -/
def leN (p q : List Nat) : Prop := p.length < q.length ∨ (p.length = q.length ∧ ltN q p = false)
theorem leN_refl (p : List Nat) : leN p p := .inr ⟨rfl, ltN_refl p⟩
theorem leN_trans {p q r : List Nat} (h : leN p q) (k : leN q r) : leN p r := by
  rcases h with h | ⟨h1, h2⟩ <;> rcases k with k | ⟨k1, k2⟩
  · exact .inl (by omega)
  · exact .inl (by omega)
  · exact .inl (by omega)
  · exact .inr ⟨by omega, ltN_trans h1 k1 h2 k2⟩
theorem leN_anti {p q : List Nat} (h : leN p q) (k : leN q p) : p = q := by
  rcases h with h | ⟨h1, h2⟩ <;> rcases k with k | ⟨k1, k2⟩
  · omega
  · omega
  · omega
  · exact ltN_anti h1 k2 h2
def lessN (p q : List Nat) : Bool := if p.length = q.length then ltN p q else decide (p.length < q.length)
theorem less_yes {p q : List Nat} (h : lessN p q = true) : leN p q := by
  unfold lessN at h
  split at h
  · rename_i e; exact .inr ⟨e, ltN_asym h⟩
  · exact .inl (by simpa using h)
theorem less_no {p q : List Nat} (h : lessN p q = false) : leN q p := by
  unfold lessN at h
  split at h
  · rename_i e; exact .inr ⟨e.symm, h⟩
  · exact .inl (by simp at h; omega)
def lastN (p : List Nat) : Nat := p.getD (p.length - 1) 0
theorem lastN_snoc (p : List Nat) (v : Nat) : lastN (p ++ [v]) = v := by simp [lastN]
def tryL (f : Nat → Option (List Nat)) : List Nat → Option (List Nat)
  | [] => none
  | v :: vs => match f v with
    | some q => some q
    | none => tryL f vs
def dfsF (cand : List Nat → List Nat) (fin : List Nat → Bool) : Nat → List Nat → Option (List Nat)
  | 0, p => if fin p = true then some p else none
  | d + 1, p => tryL (fun v => dfsF cand fin d (p ++ [v])) (cand p)
def Ext (cand : List Nat → List Nat) (fin : List Nat → Bool) : Nat → List Nat → List Nat → Prop
  | 0, p, t => t = [] ∧ fin p = true
  | d + 1, p, t => ∃ v t', t = v :: t' ∧ v ∈ cand p ∧ Ext cand fin d (p ++ [v]) t'
theorem try_none {f : Nat → Option (List Nat)} : ∀ {l : List Nat}, tryL f l = none → ∀ v ∈ l, f v = none
  | [], _, v, hv => by cases hv
  | x :: l, h, v, hv => by
    rw [tryL] at h
    split at h
    · cases h
    · rename_i e
      rcases List.mem_cons.1 hv with rfl | hv
      · exact e
      · exact try_none h v hv
theorem try_some {f : Nat → Option (List Nat)} {q : List Nat} : ∀ {l : List Nat}, l.Pairwise (· < ·) → tryL f l = some q → ∃ v ∈ l, f v = some q ∧ ∀ u ∈ l, u < v → f u = none
  | [], _, h => by cases h
  | x :: l, hs, h => by
    rw [tryL] at h
    split at h
    · rename_i e
      refine ⟨x, by simp, by rw [e]; exact h, fun u hu hlt => ?_⟩
      rcases List.mem_cons.1 hu with rfl | hu
      · omega
      · have := (List.pairwise_cons.1 hs).1 u hu
        omega
    · rename_i e
      obtain ⟨v, hv, h1, h2⟩ := try_some (List.pairwise_cons.1 hs).2 h
      refine ⟨v, by simp [hv], h1, fun u hu hlt => ?_⟩
      rcases List.mem_cons.1 hu with rfl | hu
      · exact e
      · exact h2 u hu hlt
theorem dfs_none {cand : List Nat → List Nat} {fin : List Nat → Bool} : ∀ {d : Nat} {p : List Nat}, dfsF cand fin d p = none → ∀ t, ¬ Ext cand fin d p t
  | 0, p, h, t, ht => by
    rw [dfsF, if_pos ht.2] at h
    cases h
  | d + 1, p, h, t, ht => by
    obtain ⟨v, t', rfl, hv, he⟩ := ht
    exact dfs_none (try_none h v hv) t' he
theorem dfs_some {cand : List Nat → List Nat} {fin : List Nat → Bool} (hc : ∀ p, (cand p).Pairwise (· < ·)) : ∀ {d : Nat} {p q : List Nat}, dfsF cand fin d p = some q → ∃ t, q = p ++ t ∧ Ext cand fin d p t ∧ ∀ t', Ext cand fin d p t' → ltN t' t = false
  | 0, p, q, h => by
    rw [dfsF] at h
    split at h
    · rename_i hf
      simp only [Option.some.injEq] at h
      exact ⟨[], by simp [h], ⟨rfl, hf⟩, fun t' ht' => by rw [ht'.1]; rfl⟩
    · cases h
  | d + 1, p, q, h => by
    obtain ⟨v, hv, hf, hl⟩ := try_some (hc p) h
    obtain ⟨t, rfl, he, hm⟩ := dfs_some hc hf
    refine ⟨v :: t, by simp, ⟨v, t, rfl, hv, he⟩, ?_⟩
    rintro _ ⟨u, t', rfl, hu, he'⟩
    rw [ltN]
    by_cases e : u = v
    · subst e; rw [if_pos rfl]; exact hm t' he'
    · rw [if_neg e]
      simp only [decide_eq_false_iff_not]
      intro hlt
      exact dfs_none (hl u hu hlt) t' he'
theorem try_step {f : Nat → Option (List Nat)} {ok : Nat → Bool} {l : List Nat} {k : Nat} (hk : k < l.length) :
    tryL f ((l.drop k).filter ok) = if ok l[k] = true then (match f l[k] with | some q => some q | none => tryL f ((l.drop (k + 1)).filter ok)) else tryL f ((l.drop (k + 1)).filter ok) := by
  rw [List.drop_eq_getElem_cons hk, List.filter_cons]
  split
  · rw [tryL]
  · rfl
/-- A path: different vertices, each a neighbour of the next one. -/
structure PathN (H : List Nat) (n : Nat) (p : List Nat) : Prop where
  ne : 0 < p.length
  lt : ∀ x ∈ p, x < n
  nd : p.Nodup
  ch : ∀ i, i + 1 < p.length → (H.getD (p.getD i 0) 0).testBit (p.getD (i + 1) 0) = true
def finN (H : List Nat) (p : List Nat) : Bool := (H.getD (lastN p) 0).testBit (p.getD 0 0)
structure LoopN (H : List Nat) (n : Nat) (q : List Nat) : Prop where
  path : PathN H n q
  three : 3 ≤ q.length
  cl : finN H q = true
theorem PathN.one {H : List Nat} {n v : Nat} (hv : v < n) : PathN H n [v] := ⟨by simp, fun x hx => by simp at hx; omega, by simp, fun i hi => by simp at hi⟩
theorem getD_left {p t : List Nat} {i : Nat} (h : i < p.length) : (p ++ t).getD i 0 = p.getD i 0 := by simp [List.getD_eq_getElem?_getD, List.getElem?_append_left h]
theorem getD_right {p t : List Nat} {i : Nat} (h : p.length ≤ i) : (p ++ t).getD i 0 = t.getD (i - p.length) 0 := by simp [List.getD_eq_getElem?_getD, List.getElem?_append_right h]
theorem getD_mem {p : List Nat} {i : Nat} (h : i < p.length) : p.getD i 0 ∈ p := by
  have e : p.getD i 0 = p[i] := by simp [h]
  rw [e]; exact List.getElem_mem h
theorem nodup_getD {p : List Nat} (h : p.Nodup) {i j : Nat} (hi : i < p.length) (hj : j < p.length) (e : p.getD i 0 = p.getD j 0) : i = j := by
  have e1 : p.getD i 0 = p[i] := by simp [hi]
  have e2 : p.getD j 0 = p[j] := by simp [hj]
  rw [e1, e2] at e
  rcases Nat.lt_trichotomy i j with hl | hl | hl
  · exact absurd e ((List.pairwise_iff_getElem.1 h) i j hi hj hl)
  · exact hl
  · exact absurd e.symm ((List.pairwise_iff_getElem.1 h) j i hj hi hl)
theorem PathN.snoc {H : List Nat} {n v : Nat} {p : List Nat} (h : PathN H n p) (hv : v < n) (hn : v ∉ p) (hb : (H.getD (lastN p) 0).testBit v = true) : PathN H n (p ++ [v]) := by
  refine ⟨by simp, fun x hx => ?_, ?_, fun i hi => ?_⟩
  · rcases List.mem_append.1 hx with h1 | h1
    · exact h.lt x h1
    · simp at h1; omega
  · rw [List.nodup_append]
    refine ⟨h.nd, by simp, fun a ha b hb => ?_⟩
    simp at hb
    subst hb
    intro e; subst e; exact hn ha
  · have := h.ne
    simp at hi
    by_cases e : i + 1 < p.length
    · rw [getD_left (by omega), getD_left e]; exact h.ch i e
    · have e2 : i = p.length - 1 := by omega
      rw [getD_left (by omega), getD_right (by omega)]
      have e3 : i + 1 - p.length = 0 := by omega
      rw [e3, e2]
      exact hb
theorem PathN.next {H : List Nat} {n v : Nat} {p t : List Nat} (h : PathN H n (p ++ v :: t)) (hp : 0 < p.length) : v < n ∧ v ∉ p ∧ (H.getD (lastN p) 0).testBit v = true := by
  refine ⟨h.lt v (by simp), fun hv => ?_, ?_⟩
  · have := (List.nodup_append.1 h.nd).2.2 v hv v (by simp)
    exact this rfl
  · have := h.ch (p.length - 1) (by simp; omega)
    rw [getD_left (by omega), getD_right (by omega)] at this
    have e3 : p.length - 1 + 1 - p.length = 0 := by omega
    rw [e3] at this
    simpa [lastN] using this
theorem PathN.pre {H : List Nat} {n : Nat} {p t : List Nat} (h : PathN H n (p ++ t)) (hp : 0 < p.length) : PathN H n p :=
  ⟨hp, fun x hx => h.lt x (by simp [hx]), (List.nodup_append.1 h.nd).1, fun i hi => by
    have := h.ch i (by simp; omega)
    rwa [getD_left (by omega), getD_left (by omega)] at this⟩
/-- What may follow a path. -/
def candN (H : List Nat) (far : Nat → Int) (L : Nat) (ft : List Nat → Nat → Bool) (p : List Nat) : List Nat :=
  (bitsN (andN (H.getD (lastN p) 0) (maskN p))).filter fun v => decide (0 ≤ far v) && decide (far v ≤ (L : Int) - p.length) && ft p v
theorem cand_sorted (H : List Nat) (far : Nat → Int) (L : Nat) (ft : List Nat → Nat → Bool) (p : List Nat) : (candN H far L ft p).Pairwise (· < ·) := List.Pairwise.filter _ (bitsN_sorted _)
theorem mem_cand {H : List Nat} {far : Nat → Int} {L n v : Nat} {ft : List Nat → Nat → Bool} {p : List Nat} (hH : ∀ m ∈ H, m < 2 ^ n) (hn : n ≤ 16) (hp : ∀ x ∈ p, x < n) :
    v ∈ candN H far L ft p ↔ (v < n ∧ v ∉ p ∧ (H.getD (lastN p) 0).testBit v = true) ∧ 0 ≤ far v ∧ far v ≤ (L : Int) - p.length ∧ ft p v = true := by
  have h1 : H.getD (lastN p) 0 < 2 ^ n := by
    by_cases h : lastN p < H.length
    · have e : H.getD (lastN p) 0 = H[lastN p] := by simp [h]
      rw [e]; exact hH _ (List.getElem_mem h)
    · have e : H.getD (lastN p) 0 = 0 := by simp [show H.length ≤ lastN p by omega]
      rw [e]; exact Nat.two_pow_pos n
  have h32 : (2 : Nat) ^ n < 4294967296 := pow16_lt hn
  have h2 : maskN p < 2 ^ n := maskN_lt hp
  unfold candN
  rw [List.mem_filter, mem_bitsN (Nat.lt_of_le_of_lt (andN_le _ _) (by omega)), testBit_andN (by omega) (by omega), testBit_maskN]
  simp only [Bool.and_eq_true, Bool.not_eq_true', decide_eq_false_iff_not, decide_eq_true_eq]
  constructor
  · rintro ⟨⟨a, b⟩, ⟨c, d⟩, e⟩
    exact ⟨⟨bit_lt_of h1 a, b, a⟩, c, d, e⟩
  · rintro ⟨⟨-, b, a⟩, c, d, e⟩
    exact ⟨⟨a, b⟩, ⟨c, d⟩, e⟩
theorem ext_path {H : List Nat} {far : Nat → Int} {L n : Nat} {ft : List Nat → Nat → Bool} (hH : ∀ m ∈ H, m < 2 ^ n) (hn : n ≤ 16) : ∀ {d : Nat} {p t : List Nat}, PathN H n p → Ext (candN H far L ft) (finN H) d p t →
    PathN H n (p ++ t) ∧ finN H (p ++ t) = true ∧ t.length = d ∧ ∀ i, i < d → ft (p ++ t.take i) (t.getD i 0) = true
  | 0, p, t, hp, ht => by
    obtain ⟨rfl, hf⟩ := ht
    exact ⟨by simpa using hp, by simpa using hf, rfl, fun i hi => by omega⟩
  | d + 1, p, t, hp, ht => by
    obtain ⟨v, t', rfl, hv, he⟩ := ht
    obtain ⟨⟨h1, h2, h3⟩, -, -, h4⟩ := (mem_cand hH hn hp.lt).1 hv
    obtain ⟨a, b, c, e⟩ := ext_path hH hn (hp.snoc h1 h2 h3) he
    have ea : p ++ [v] ++ t' = p ++ v :: t' := by simp
    rw [ea] at a b
    refine ⟨a, b, by simp [c], fun i hi => ?_⟩
    match i with
    | 0 => simpa using h4
    | i + 1 =>
      have := e i (by omega)
      simpa using this
theorem path_ext {H : List Nat} {far : Nat → Int} {L n : Nat} {ft : List Nat → Nat → Bool} (hH : ∀ m ∈ H, m < 2 ^ n) (hn : n ≤ 16) : ∀ {t p : List Nat}, 0 < p.length → PathN H n (p ++ t) → finN H (p ++ t) = true →
    (∀ i, i < t.length → 0 ≤ far (t.getD i 0) ∧ far (t.getD i 0) ≤ (L : Int) - (p.length + i : Nat)) → (∀ i, i < t.length → ft (p ++ t.take i) (t.getD i 0) = true) → Ext (candN H far L ft) (finN H) t.length p t
  | [], p, _, _, hf, _, _ => ⟨rfl, by simpa using hf⟩
  | v :: t, p, h0, hp, hf, hfar, hft => by
    refine ⟨v, t, rfl, (mem_cand hH hn (hp.pre h0).lt).2 ⟨hp.next h0, ?_⟩, ?_⟩
    · have h1 := hfar 0 (by simp)
      have h2 := hft 0 (by simp)
      simp at h1 h2
      exact ⟨h1.1, by omega, h2⟩
    · refine path_ext hH hn (p := p ++ [v]) (by simp) (by simpa using hp) (by simpa using hf) (fun i hi => ?_) (fun i hi => ?_)
      · have := hfar (i + 1) (by simp; omega)
        simp at this ⊢
        exact ⟨this.1, by omega⟩
      · have := hft (i + 1) (by simp; omega)
        simpa using this
/-- Around a ring no vertex is farther from the first one than the rest of the ring. -/
theorem ring_far {A : List Nat} {n wi v : Nat} {D : Nat → Int} (hI : DistI A wi v n) (hD : IsDist A wi v n D) (hw : ∀ x, x < n → wi.testBit x = true) {q : List Nat} (hlt : ∀ i, i < q.length → q.getD i 0 < n)
    (hl : (A.getD v 0).testBit (lastN q) = true) (hc : ∀ i, 0 < i → i + 1 < q.length → (A.getD (q.getD (i + 1) 0) 0).testBit (q.getD i 0) = true) :
    ∀ i, 0 < i → i < q.length → 0 ≤ D (q.getD i 0) ∧ D (q.getD i 0) ≤ (q.length : Int) - i := by
  have hball : ∀ j, 1 ≤ j → j < q.length → (ballN A wi v j).testBit (q.getD (q.length - j) 0) = true := by
    intro j
    induction j with
    | zero => intro h; omega
    | succ j ih =>
      intro _ hj
      refine (ball_succ hI j _).2 (.inr ⟨hw _ (hlt _ (by omega)), ?_⟩)
      by_cases e : j = 0
      · subst e
        exact ⟨v, by rw [ballN, testBit_bit]; simp, hl⟩
      · refine ⟨q.getD (q.length - j) 0, ih (by omega) (by omega), ?_⟩
        have := hc (q.length - (j + 1)) (by omega) (by omega)
        have e2 : q.length - (j + 1) + 1 = q.length - j := by omega
        rw [e2] at this
        exact this
  intro i h1 h2
  have hb := hball (q.length - i) (by omega) (by omega)
  have e : q.length - (q.length - i) = i := by omega
  rw [e] at hb
  rcases hD _ (hlt i h2) with ⟨-, hno⟩ | ⟨k, hk, hkb, hkl⟩
  · rw [hno] at hb; cases hb
  · have : k ≤ q.length - i := by
      apply Classical.byContradiction
      intro hc
      rw [hkl _ (by omega)] at hb; cases hb
    rw [hk]
    omega
theorem loop_far {H : List Nat} {n wi v : Nat} {D : Nat → Int} (hI : DistI H wi v n) (hD : IsDist H wi v n D) (hw : ∀ x, x < n → wi.testBit x = true) (hs : ∀ x y, x < n → y < n → (H.getD x 0).testBit y = true → (H.getD y 0).testBit x = true) {q : List Nat} (hq : LoopN H n q) (h0 : q.getD 0 0 = v) :
    ∀ i, 0 < i → i < q.length → 0 ≤ D (q.getD i 0) ∧ D (q.getD i 0) ≤ (q.length : Int) - i := by
  have h3 := hq.three
  have hlt : ∀ i, i < q.length → q.getD i 0 < n := fun i hi => hq.path.lt _ (getD_mem hi)
  refine ring_far hI hD hw hlt ?_ (fun i _ h2 => hs _ _ (hlt _ (by omega)) (hlt _ h2) (hq.path.ch i h2))
  have := hq.cl
  unfold finN at this
  rw [← h0]
  exact hs _ _ (hlt (q.length - 1) (by omega)) (hlt 0 (by omega)) this
theorem loop_len {H : List Nat} {n : Nat} {q : List Nat} (hq : PathN H n q) : q.length ≤ n := by
  have := nodup_lenA (l := q) (E := List.range n) hq.nd (fun x hx => List.mem_range.2 (hq.lt x hx))
  simpa using this
def noFit (_ : List Nat) (_ : Nat) : Bool := true
/-- No loop of a kind below a length; none of it that begins with less. -/
def NoTo (G : List Nat → Prop) (L v : Nat) : Prop := ∀ q, G q → L < q.length ∨ (L = q.length ∧ v ≤ q.getD 0 0)
def LeastG (G : List Nat → Prop) (q : List Nat) : Prop := G q ∧ ∀ q', G q' → leN q q'
theorem least_at {G : List Nat → Prop} {L v : Nat} {q : List Nat} (hno : NoTo G L v) (hq : G q) (hl : q.length = L) (h0 : q.getD 0 0 = v) (hL : 0 < L) (hm : ∀ q', G q' → q'.length = L → q'.getD 0 0 = v → ltN q' q = false) : LeastG G q := by
  refine ⟨hq, fun q' hq' => ?_⟩
  rcases hno q' hq' with h | ⟨h1, h2⟩
  · exact .inl (by omega)
  · refine .inr ⟨by omega, ?_⟩
    by_cases e : q'.getD 0 0 = v
    · exact hm q' hq' h1.symm e
    · match q', q with
      | [], _ => simp at h1; omega
      | _ :: _, [] => simp at hl; omega
      | a :: p, b :: r =>
        simp at h0 e h2
        rw [ltN, if_neg (by omega)]; simp; omega
/-- The least of a kind. -/
noncomputable def pickG (G : List Nat → Prop) : List Nat := open Classical in if h : ∃ q, LeastG G q then Classical.choose h else []
theorem pick_none {G : List Nat → Prop} (h : ∀ q, ¬ G q) : pickG G = [] := by
  unfold pickG
  rw [dif_neg]
  rintro ⟨q, hq⟩
  exact h q hq.1
theorem pick_some {G : List Nat → Prop} {q : List Nat} (h : LeastG G q) : pickG G = q := by
  unfold pickG
  rw [dif_pos ⟨q, h⟩]
  have h2 := Classical.choose_spec (⟨q, h⟩ : ∃ q, LeastG G q)
  exact leN_anti (h2.2 q h.1) (h.2 _ h2.1)
theorem dist_step {a : List Nat} {wi v n : Nat} {D : Nat → Int} (hI : DistI a wi v n) (h : IsDist a wi v n D) {x y : Nat} (hx : x < n) (hy : y < n) (hw : wi.testBit y = true) (hb : (a.getD x 0).testBit y = true) (h0 : 0 ≤ D x) : 0 ≤ D y ∧ D y ≤ D x + 1 := by
  rcases h x hx with ⟨e, -⟩ | ⟨k, ek, hk, -⟩
  · omega
  · have hb2 : (ballN a wi v (k + 1)).testBit y = true := (ball_succ hI k y).2 (.inr ⟨hw, x, hk, hb⟩)
    rcases h y hy with ⟨-, hno⟩ | ⟨j, ej, -, hj⟩
    · rw [hno] at hb2; cases hb2
    · have : j ≤ k + 1 := by
        apply Classical.byContradiction
        intro hc
        rw [hj (k + 1) (by omega)] at hb2; cases hb2
      omega
theorem dist_start {a : List Nat} {wi v n : Nat} {D : Nat → Int} (hI : DistI a wi v n) (h : IsDist a wi v n D) : D v = 0 := by
  rcases h v hI.v with ⟨-, hno⟩ | ⟨j, ej, -, hj⟩
  · have := hno 0; rw [ballN, testBit_bit] at this; simp at this
  · have : j = 0 := by
      apply Classical.byContradiction
      intro hc
      have := hj 0 (by omega)
      rw [ballN, testBit_bit] at this
      simp at this
    omega
theorem dist_zero {a : List Nat} {wi v n : Nat} {D : Nat → Int} (h : IsDist a wi v n D) {u : Nat} (hu : u < n) (e : D u = 0) : u = v := by
  rcases h u hu with ⟨e2, -⟩ | ⟨j, ej, hb, -⟩
  · omega
  · have : j = 0 := by omega
    subst this
    rw [ballN, testBit_bit] at hb
    simpa using (of_decide_eq_true hb).symm
theorem dist_prev {a : List Nat} {wi v n : Nat} {D : Nat → Int} (hI : DistI a wi v n) (h : IsDist a wi v n D) (hs : ∀ x y, x < n → y < n → (a.getD x 0).testBit y = true → (a.getD y 0).testBit x = true) {u k : Nat} (hu : u < n) (e : D u = ((k + 1 : Nat) : Int)) :
    ∃ x, x < n ∧ (a.getD u 0).testBit x = true ∧ D x = k := by
  rcases h u hu with ⟨e2, -⟩ | ⟨j, ej, hb, hj⟩
  · omega
  · have : j = k + 1 := by omega
    subst this
    rcases (ball_succ hI k u).1 hb with h1 | ⟨hw, x, hx, hxu⟩
    · rw [hj k (by omega)] at h1; cases h1
    · have hxn : x < n := bit_lt_of (ball_lt hI k) hx
      refine ⟨x, hxn, hs _ _ hxn hu hxu, ?_⟩
      rcases h x hxn with ⟨-, hno⟩ | ⟨i, ei, hi, hil⟩
      · rw [hno] at hx; cases hx
      · have h1 : i ≤ k := by
          apply Classical.byContradiction
          intro hc
          rw [hil k (by omega)] at hx; cases hx
        have h2 := (dist_step hI h hxn hu hw hxu (by omega)).2
        omega
theorem find_least {p : Nat → Bool} : ∀ {l : List Nat}, l.Pairwise (· < ·) → (∃ x ∈ l, p x = true) → ∃ y ∈ l, l.find? p = some y ∧ p y = true ∧ ∀ x ∈ l, p x = true → y ≤ x
  | [], _, ⟨x, hx, _⟩ => by cases hx
  | a :: l, hs, ⟨x, hx, hp⟩ => by
    by_cases ha : p a = true
    · refine ⟨a, by simp, by simp [ha], ha, fun y hy _ => ?_⟩
      rcases List.mem_cons.1 hy with rfl | hy
      · exact Nat.le_refl _
      · exact Nat.le_of_lt ((List.pairwise_cons.1 hs).1 y hy)
    · have hx2 : x ∈ l := by
        rcases List.mem_cons.1 hx with rfl | hx
        · exact absurd hp ha
        · exact hx
      obtain ⟨y, h1, h2, h3, h4⟩ := find_least (List.pairwise_cons.1 hs).2 ⟨x, hx2, hp⟩
      refine ⟨y, by simp [h1], by rw [List.find?_cons_of_neg ha]; exact h2, h3, fun z hz hpz => ?_⟩
      rcases List.mem_cons.1 hz with rfl | hz
      · exact absurd hpz ha
      · exact h4 z hz hpz
/-- The least neighbour so far away. -/
def stepN (H : List Nat) (D : Nat → Int) (k u : Nat) : Nat := ((bitsN (H.getD u 0)).find? fun x => decide (D x = (k : Int))).getD u
/-- The way down from a vertex so far away, without its end. -/
def dnN (H : List Nat) (D : Nat → Int) : Nat → Nat → List Nat
  | 0, _ => []
  | k + 1, u => u :: dnN H D k (stepN H D k u)
theorem dn_len (H : List Nat) (D : Nat → Int) : ∀ k u, (dnN H D k u).length = k
  | 0, _ => rfl
  | k + 1, u => by rw [dnN, List.length_cons, dn_len]
theorem step_spec {H : List Nat} {D : Nat → Int} {k u : Nat} (hm : H.getD u 0 < 4294967296) (h : ∃ x, (H.getD u 0).testBit x = true ∧ D x = k) : (H.getD u 0).testBit (stepN H D k u) = true ∧ D (stepN H D k u) = k ∧ ∀ x, (H.getD u 0).testBit x = true → D x = k → stepN H D k u ≤ x := by
  obtain ⟨x, hx, hd⟩ := h
  obtain ⟨y, h1, h2, h3, h4⟩ := find_least (p := fun x => decide (D x = (k : Int))) (bitsN_sorted (H.getD u 0)) ⟨x, (mem_bitsN hm).2 hx, by simpa using hd⟩
  have e : stepN H D k u = y := by rw [stepN, h2]; rfl
  rw [e]
  exact ⟨(mem_bitsN hm).1 h1, by simpa using h3, fun z hz hdz => h4 z ((mem_bitsN hm).2 hz) (by simpa using hdz)⟩
theorem PathN.cons {H : List Nat} {n u : Nat} {p : List Nat} (h : PathN H n p) (hu : u < n) (hn : u ∉ p) (hb : (H.getD u 0).testBit (p.getD 0 0) = true) : PathN H n (u :: p) := by
  refine ⟨by simp, fun x hx => ?_, List.nodup_cons.2 ⟨hn, h.nd⟩, fun i hi => ?_⟩
  · rcases List.mem_cons.1 hx with rfl | hx
    · exact hu
    · exact h.lt x hx
  · match i with
    | 0 => simpa using hb
    | i + 1 => simpa using h.ch i (by simpa using hi)
theorem lastN_cons {u : Nat} {p : List Nat} (h : 0 < p.length) : lastN (u :: p) = lastN p := by
  unfold lastN
  have e : (u :: p).length - 1 = (p.length - 1) + 1 := by simp; omega
  rw [e, List.getD_cons_succ]
structure DnI (H : List Nat) (D : Nat → Int) (v n k u : Nat) (p : List Nat) : Prop where
  path : PathN H n p
  len : p.length = k
  head : p.getD 0 0 = u
  far : ∀ i, i < k → D (p.getD i 0) = (k : Int) - i
  last : (H.getD (lastN p) 0).testBit v = true
theorem dn_path {H : List Nat} {wi v n : Nat} {D : Nat → Int} (hI : DistI H wi v n) (h : IsDist H wi v n D) (hH : ∀ u, H.getD u 0 < 4294967296) (hs : ∀ x y, x < n → y < n → (H.getD x 0).testBit y = true → (H.getD y 0).testBit x = true) :
    ∀ (k u : Nat), u < n → D u = ((k + 1 : Nat) : Int) → DnI H D v n (k + 1) u (dnN H D (k + 1) u)
  | 0, u, hu, e => by
    obtain ⟨x, hx, hb, hd⟩ := dist_prev hI h hs hu e
    have := dist_zero h hx (by simpa using hd)
    subst this
    exact ⟨PathN.one hu, rfl, rfl, fun i hi => by
      obtain rfl : i = 0 := by omega
      simpa [dnN] using e, by simpa [dnN, lastN] using hb⟩
  | k + 1, u, hu, e => by
    obtain ⟨x, hx, hb, hd⟩ := dist_prev hI h hs hu e
    obtain ⟨h1, h2, h3⟩ := step_spec (k := k + 1) (hH u) ⟨x, hb, hd⟩
    have hyn : stepN H D (k + 1) u < n := by
      have hl := hI.wide.len
      have hlt := hI.wide.lt
      exact bit_lt_of (hI.wide.lt _ (by
        by_cases e2 : u < H.length
        · rw [show H.getD u 0 = H[u] by simp [e2]]; exact List.getElem_mem e2
        · omega)) h1
    have ih := dn_path hI h hH hs k _ hyn h2
    rw [dnN]
    have hn : u ∉ dnN H D (k + 1) (stepN H D (k + 1) u) := fun hm => by
      have hf := ih.far
      have hlen := dn_len H D (k + 1) (stepN H D (k + 1) u)
      generalize dnN H D (k + 1) (stepN H D (k + 1) u) = P at hf hm hlen
      obtain ⟨i, hi, rfl⟩ := List.getElem_of_mem hm
      have hi2 : i < k + 1 := by omega
      have := hf i hi2
      rw [show P.getD i 0 = P[i] by simp [hi], e] at this
      omega
    refine ⟨ih.path.cons hu hn (by rw [ih.head]; exact h1), by simp [dn_len], rfl, fun i hi => ?_, ?_⟩
    · match i with
      | 0 => simpa using e
      | i + 1 =>
        have := ih.far i (by omega)
        simp only [List.getD_cons_succ]
        rw [this]; omega
    · rw [lastN_cons (by simp [dn_len])]
      exact ih.last
/-- No shorter way, and no way so short that is less. -/
theorem dn_least {H : List Nat} {wi v n : Nat} {D : Nat → Int} (hI : DistI H wi v n) (h : IsDist H wi v n D) (hH : ∀ u, H.getD u 0 < 4294967296) (hw : ∀ x, x < n → wi.testBit x = true) (hs : ∀ x y, x < n → y < n → (H.getD x 0).testBit y = true → (H.getD y 0).testBit x = true) :
    ∀ (k u : Nat) (t : List Nat), u < n → D u = (k : Int) → t.length = k → (0 < k → t.getD 0 0 = u) → (∀ i, i < k → t.getD i 0 < n) → (∀ i, i + 1 < k → (H.getD (t.getD i 0) 0).testBit (t.getD (i + 1) 0) = true) → (∀ i, i < k → 0 ≤ D (t.getD i 0) ∧ D (t.getD i 0) ≤ (k : Int) - i) →
      ltN t (dnN H D k u) = false
  | 0, u, t, _, _, hl, _, _, _, _ => by
    have : t = [] := List.eq_nil_of_length_eq_zero hl
    subst this; rfl
  | k + 1, u, [], _, _, hl, _, _, _, _ => by simp at hl
  | k + 1, u, a :: t, hu, e, hl, h0, hlt, hch, hfar => by
    have ha : a = u := by simpa using h0 (by omega)
    subst ha
    rw [dnN, ltN, if_pos rfl]
    obtain ⟨x, hx, hb, hd⟩ := dist_prev hI h hs hu e
    obtain ⟨h1, h2, h3⟩ := step_spec (k := k) (hH a) ⟨x, hb, hd⟩
    have hl2 : t.length = k := by simpa using hl
    by_cases hk : k = 0
    · subst hk
      have : t = [] := List.eq_nil_of_length_eq_zero hl2
      subst this; rfl
    · have hy1 := hlt 1 (by omega)
      have hy2 := hch 0 (by omega)
      have hy3 := hfar 1 (by omega)
      simp only [List.getD_cons_succ, List.getD_cons_zero] at hy1 hy2 hy3
      have hdy : D (t.getD 0 0) = (k : Int) := by
        have := (dist_step hI h hy1 hu (hw a hu) (hs _ _ hu hy1 hy2) hy3.1).2
        omega
      have hle := h3 _ hy2 hdy
      by_cases e3 : t.getD 0 0 = stepN H D k a
      · refine dn_least hI h hH hw hs k _ t (by rw [← e3]; exact hy1) h2 hl2 (fun _ => e3) (fun i hi => ?_) (fun i hi => ?_) (fun i hi => ?_)
        · simpa using hlt (i + 1) (by omega)
        · simpa using hch (i + 1) (by omega)
        · have := hfar (i + 1) (by omega)
          have e9 : (a :: t).getD (i + 1) 0 = t.getD i 0 := rfl
          rw [e9] at this
          exact ⟨this.1, by have := this.2; omega⟩
      · match k, t, hk, hl2, e3, hle with
        | k + 1, b :: t, _, _, e3, hle =>
          simp at e3 hle
          rw [dnN, ltN, if_neg e3]; simp; omega
theorem ltN_step {p q : List Nat} {k : Nat} (h1 : k < p.length) (h2 : k < q.length) : ltN (p.drop k) (q.drop k) = if p[k] = q[k] then ltN (p.drop (k + 1)) (q.drop (k + 1)) else decide (p[k] < q[k]) := by
  rw [List.drop_eq_getElem_cons h1, List.drop_eq_getElem_cons h2, ltN]
set_option maxHeartbeats 2000000 in
theorem l1Less_any {S S' : Nat → Prop} {u v : Value} {p q : List Nat} {w : World} (hu : SlI S w .i64 u (natsI p)) (hv : SlI S' w .i64 v (natsI q)) :
    Calls Tryz.prog 128 #[u, v] w fun e w' => e = .returned (.bool (lessN p q)) ∧ Drawn w w' := by
  obtain ⟨ua, ub, uo, uc, rfl, hul, hua, huc⟩ := hu
  obtain ⟨va, vb, vo, vc, rfl, hvl, hva, hvc⟩ := hv
  rw [natsI_len] at hul hua hvl hva
  simp only [natsI_len]
  by_cases hl : p.length = q.length
  case neg =>
    have h1 : ((p.length : Int) == (q.length : Int)) = false := by rw [beq_eq_false_iff_ne]; omega
    have h2 : (p.length == q.length) = false := by rw [beq_eq_false_iff_ne]; exact hl
    have HR := Lib.hid (show lessN p q = decide ((p.length : Int) < (q.length : Int)) by
      rw [lessN, if_neg hl, decide_eq_decide]; omega)
    clear hl
    go_enter Tryz.func128, Tryz.ntmps128
    go_wp2
    go_ret
    exact ⟨ret_bool (by first | exact HR.out.symm | (rw [HR.out]; simp)), Drawn.refl _⟩
  have HR := Lib.hid (show lessN p q = ltN (p.drop 0) (q.drop 0) by rw [lessN, if_pos hl]; rfl)
  have h1 : ((p.length : Int) == (q.length : Int)) = true := by rw [beq_iff_eq]; omega
  have HL := Lib.hid hl
  clear hl
  rw [← HL.out]
  have h2 : (p.length == p.length) = true := by simp
  clear h1
  go_enter Tryz.func128, Tryz.ntmps128
  go_wp2
  go_loopw [5] (fun iv wr => ∃ k : Nat, k ≤ p.length ∧ iv = .int .i64 k ∧ RowKit.Hid (lessN p q = ltN (p.drop k) (q.drop k)) ∧ Drawn w wr) (fun iv _ => p.length - (RowKit.intOf iv).toNat)
  case atStart => exact ⟨0, Nat.zero_le _, rfl, HR, Drawn.refl _⟩
  case round =>
    clear HR
    obtain ⟨k, hk, rfl, HR, hq⟩ := hrel
    by_cases hlt : k < p.length
    case neg =>
      obtain rfl : k = p.length := by omega
      have HE := Lib.hid (show lessN p q = false by rw [HR.out, List.drop_of_length_le (Nat.le_refl _)]; rfl)
      go_wp2
      go_ret
      exact ⟨ret_bool HE.out.symm, hq⟩
    have hlq : k < q.length := by have := HL.out; omega
    have d1 : wr.cell? ⟨ub, uo + k, none⟩ = some (.int .i64 (p[k] : Int)) := by
      rw [hq.cell, huc k (by rw [natsI_len]; exact hlt), natsI_get]
    have d2 : wr.cell? ⟨vb, vo + k, none⟩ = some (.int .i64 (q[k] : Int)) := by
      rw [hq.cell, hvc k (by rw [natsI_len]; exact hlq), natsI_get]
    obtain ⟨rfl, -⟩ := hua (by omega)
    obtain ⟨rfl, -⟩ := hva (by omega)
    have hst := ltN_step hlt hlq
    rw [← HR.out] at hst
    have HST := Lib.hid hst
    clear hst
    generalize p[k] = x at *
    generalize q[k] = y at *
    by_cases he : x = y
    · subst he
      have HE := Lib.hid (HST.out.trans (if_pos rfl))
      have h3 : ((x : Int) == (x : Int)) = true := by simp
      go_wp2
      go_quiet (fail)
      go_wp2
      go_roundw
      case rel => exact ⟨k + 1, by omega, by go_num, HE, hq.drewN _⟩
      case measure => simp [RowKit.intOf]; omega
    · have HE := Lib.hid (HST.out.trans (if_neg he))
      have h3 : ((x : Int) == (y : Int)) = false := by rw [beq_eq_false_iff_ne]; omega
      have h4 : (x == y) = false := by rw [beq_eq_false_iff_ne]; exact he
      clear he
      go_wp2
      go_quiet (fail)
      go_wp2
      go_quiet (fail)
      go_wp2
      go_ret
      exact ⟨ret_bool (by first | exact HE.out.symm | (rw [HE.out]; simp)), by repeat (first | exact hq | refine Drawn.drewN ?_ _)⟩
/-- Lists of lists by their first unlike list. -/
def lessR : List (List Nat) → List (List Nat) → Bool
  | a :: ats, b :: bs => if a = b then lessR ats bs else lessN a b
  | _, _ => false
def cmpR : List (List Nat) → List (List Nat) → Int
  | [], [] => 0
  | [], _ :: _ => -1
  | _ :: _, [] => 1
  | a :: ats, b :: bs => if cmpL (natsI a) (natsI b) = 0 then cmpR ats bs else cmpL (natsI a) (natsI b)
/-- Like lengths all over. -/
def ShapeR (a b : List (List Nat)) : Prop := a.map List.length = b.map List.length
theorem cmpR_zero : ∀ {a b : List Nat}, a.length = b.length → (cmpL (natsI a) (natsI b) = 0 ↔ a = b)
  | [], [], _ => by simp [natsI, cmpL]
  | [], _ :: _, h => by simp at h
  | _ :: _, [], h => by simp at h
  | x :: a, y :: b, h => by
    have ih := cmpR_zero (a := a) (b := b) (by simpa using h)
    unfold natsI at ih ⊢
    rw [List.map_cons, List.map_cons, cmpL]
    split
    · constructor
      · intro h; omega
      · intro h; simp at h; omega
    · split
      · constructor
        · intro h; omega
        · intro h; simp at h; omega
      · rw [ih]
        have : x = y := by omega
        subst this
        simp
theorem cmpL_ltN : ∀ {a b : List Nat}, a.length = b.length → (cmpL (natsI a) (natsI b) < 0 ↔ ltN a b = true)
  | [], [], _ => by simp [natsI, cmpL, ltN]
  | [], _ :: _, h => by simp at h
  | _ :: _, [], h => by simp at h
  | x :: a, y :: b, h => by
    have ih := cmpL_ltN (a := a) (b := b) (by simpa using h)
    unfold natsI at ih ⊢
    rw [List.map_cons, List.map_cons, cmpL, ltN]
    by_cases h1 : x < y
    · rw [if_pos (by omega), if_neg (show ¬ x = y by omega)]; simp [h1]
    · rw [if_neg (by omega)]
      by_cases h2 : y < x
      · rw [if_pos (by omega), if_neg (show ¬ x = y by omega)]
        simp [h1]
      · rw [if_neg (by omega)]
        have : x = y := by omega
        subst this
        rw [ih]; simp
theorem shape_cons {a b : List Nat} {ats bs : List (List Nat)} (h : ShapeR (a :: ats) (b :: bs)) : a.length = b.length ∧ ShapeR ats bs := by
  unfold ShapeR at *
  simp only [List.map_cons, List.cons.injEq] at h
  exact h
theorem lessR_cmp : ∀ {a b : List (List Nat)}, ShapeR a b → lessR a b = decide (cmpR a b < 0)
  | [], [], _ => by simp [lessR, cmpR]
  | [], _ :: _, h => by simp [ShapeR] at h
  | _ :: _, [], h => by simp [ShapeR] at h
  | a :: ats, b :: bs, h => by
    obtain ⟨h1, h2⟩ := shape_cons h
    rw [lessR, cmpR]
    by_cases e : a = b
    · rw [if_pos e, if_pos ((cmpR_zero h1).2 e), lessR_cmp h2]
    · rw [if_neg e, if_neg (fun hc => e ((cmpR_zero h1).1 hc))]
      unfold lessN
      rw [if_pos h1, Bool.eq_iff_iff, decide_eq_true_eq, cmpL_ltN h1]
theorem ltN_tri : ∀ {a b : List Nat}, a.length = b.length → a ≠ b → ltN a b = true ∨ ltN b a = true
  | [], [], _, h => absurd rfl h
  | [], _ :: _, h, _ => by simp at h
  | _ :: _, [], h, _ => by simp at h
  | x :: a, y :: b, h, hne => by
    rw [ltN, ltN]
    by_cases h1 : x < y
    · left; rw [if_neg (show ¬ x = y by omega)]; simp [h1]
    · by_cases h2 : y < x
      · right; rw [if_neg (show ¬ y = x by omega)]; simp [h2]
      · have : x = y := by omega
        subst this
        have := ltN_tri (a := a) (b := b) (by simpa using h) (fun e => hne (by rw [e]))
        simpa using this
theorem lessR_tri : ∀ {a b : List (List Nat)}, ShapeR a b → a ≠ b → lessR a b = true ∨ lessR b a = true
  | [], [], _, h => absurd rfl h
  | [], _ :: _, h, _ => by simp [ShapeR] at h
  | _ :: _, [], h, _ => by simp [ShapeR] at h
  | a :: ats, b :: bs, h, hne => by
    obtain ⟨h1, h2⟩ := shape_cons h
    rw [lessR, lessR]
    by_cases e : a = b
    · rw [if_pos e, if_pos e.symm]
      exact lessR_tri h2 (fun e2 => hne (by rw [e, e2]))
    · rw [if_neg e, if_neg (fun hc => e hc.symm)]
      unfold lessN
      rw [if_pos h1, if_pos h1.symm]
      exact ltN_tri h1 e
/-- The state of a search: the least so far; none at first. -/
def bestStepR (p R : List (List Nat)) : List (List Nat) := if p = [] ∨ lessR R p = true then R else p
theorem best_fold (n : Nat) (hn : 0 < n) : ∀ (l : List (List (List Nat))) (p : List (List Nat)), (∀ a ∈ l, a.length = n) → (∀ a ∈ l, ∀ b ∈ l, ShapeR a b) → (p = [] ∨ ∀ a ∈ l, ShapeR a p) → (p ≠ [] → lessR p p = false) → (∀ a ∈ l, lessR a a = false) → (∀ a b c, lessR a b = true → lessR b c = true → ShapeR a b → ShapeR b c → lessR a c = true) →
    (l = [] ∧ l.foldl bestStepR p = p) ∨ ((l.foldl bestStepR p ∈ l ∨ (p ≠ [] ∧ l.foldl bestStepR p = p)) ∧ (∀ a ∈ l, lessR a (l.foldl bestStepR p) = false) ∧ (p ≠ [] → lessR p (l.foldl bestStepR p) = false))
  | [], p, _, _, _, _, _, _ => .inl ⟨rfl, rfl⟩
  | a :: l, p, hl, hs, hp, hpp, hir, htr => by
    right
    rw [List.foldl_cons]
    have ha : a ≠ [] := fun e => by have := hl a (by simp); rw [e] at this; simp at this; omega
    obtain ⟨q, hq⟩ : ∃ q, q = bestStepR p a := ⟨_, rfl⟩
    rw [← hq]
    have hqc : (q = a ∧ (p = [] ∨ lessR a p = true)) ∨ (q = p ∧ p ≠ [] ∧ lessR a p = false) := by
      rw [hq]; unfold bestStepR
      by_cases h : p = [] ∨ lessR a p = true
      · exact .inl ⟨if_pos h, h⟩
      · refine .inr ⟨if_neg h, fun e => h (.inl e), ?_⟩
        cases hb : lessR a p
        · rfl
        · exact absurd (.inr hb) h
    have hq0 : q ≠ [] := by rcases hqc with ⟨e, -⟩ | ⟨e, h, -⟩ <;> rw [e] <;> assumption
    have hqs : ∀ b ∈ l, ShapeR b q := fun b hb => by
      rcases hqc with ⟨e, -⟩ | ⟨e, h, -⟩
      · rw [e]; exact hs b (by simp [hb]) a (by simp)
      · rw [e]; rcases hp with h2 | h2
        · exact absurd h2 h
        · exact h2 b (by simp [hb])
    have hqq : lessR q q = false := by
      rcases hqc with ⟨e, -⟩ | ⟨e, h, -⟩
      · rw [e]; exact hir a (by simp)
      · rw [e]; exact hpp h
    have ih := best_fold n hn l q (fun b hb => hl b (by simp [hb])) (fun b hb c hc => hs b (by simp [hb]) c (by simp [hc])) (.inr hqs) (fun _ => hqq) (fun b hb => hir b (by simp [hb])) htr
    obtain ⟨m, hm⟩ : ∃ m, m = l.foldl bestStepR q := ⟨_, rfl⟩
    rw [← hm] at ih ⊢
    have hqm : lessR q m = false := by
      rcases ih with ⟨-, e⟩ | ⟨-, -, h⟩
      · rw [e]; exact hqq
      · exact h hq0
    have hmq : m ∈ l ∨ m = q := by
      rcases ih with ⟨-, e⟩ | ⟨h | h, -, -⟩
      · exact .inr e
      · exact .inl h
      · exact .inr h.2
    have hms : ShapeR q m := by
      rcases hmq with h | h
      · exact (hqs m h).symm
      · rw [h]; exact rfl
    have hlm : ∀ b ∈ l, lessR b m = false := fun b hb => by
      rcases ih with ⟨e, -⟩ | ⟨-, h, -⟩
      · rw [e] at hb; cases hb
      · exact h b hb
    have hnot : ∀ b, lessR b q = false → ShapeR b q → lessR b m = false := fun b h1 h2 => by
      cases hb : lessR b m
      · rfl
      · by_cases e : q = m
        · rw [← e, h1] at hb; cases hb
        · rcases lessR_tri hms e with h3 | h3
          · rw [hqm] at h3; cases h3
          · have := htr b m q hb h3 (h2.trans hms) hms.symm
            rw [h1] at this; cases this
    refine ⟨?_, fun b hb => ?_, fun h0 => ?_⟩
    · rcases hmq with h | h
      · exact .inl (by simp [h])
      · rcases hqc with ⟨e, -⟩ | ⟨e, h2, -⟩
        · exact .inl (by rw [h, e]; simp)
        · exact .inr ⟨h2, by rw [h, e]⟩
    · rcases List.mem_cons.1 hb with rfl | hb
      · rcases hqc with ⟨e, -⟩ | ⟨e, h2, h3⟩
        · rw [← e]; exact hqm
        · refine hnot b (by rw [e]; exact h3) ?_
          rcases hp with h4 | h4
          · exact absurd h4 h2
          · rw [e]; exact h4 b (by simp)
      · exact hlm b hb
    · rcases hqc with ⟨e, h2⟩ | ⟨e, h2, h3⟩
      · rcases h2 with h2 | h2
        · exact absurd h2 h0
        · cases hb : lessR p m
          · rfl
          · rcases hp with h4 | h4
            · exact absurd h4 h0
            · have h5 := h4 a (by simp)
              rw [e] at hqm hms
              have := htr a p m h2 hb h5 (h5.symm.trans hms)
              rw [hqm] at this; cases this
      · rw [← e]; exact hqm
theorem ltN_transR : ∀ {a b c : List Nat}, a.length = b.length → b.length = c.length → ltN a b = true → ltN b c = true → ltN a c = true
  | [], _, c, _, _, h, _ => by simp [ltN] at h
  | _ :: _, [], _, h, _, _, _ => by simp at h
  | _ :: _, _ :: _, [], _, h, _, _ => by simp at h
  | x :: a, y :: b, z :: c, h1, h2, k1, k2 => by
    rw [ltN] at k1 k2 ⊢
    by_cases e1 : x = y
    · subst e1
      rw [if_pos rfl] at k1
      by_cases e2 : x = z
      · rw [if_pos e2] at k2 ⊢
        exact ltN_transR (by simpa using h1) (by simpa using h2) k1 k2
      · rw [if_neg e2] at k2 ⊢; exact k2
    · rw [if_neg e1, decide_eq_true_eq] at k1
      by_cases e2 : y = z
      · subst e2
        rw [if_neg e1, decide_eq_true_eq]; exact k1
      · rw [if_neg e2, decide_eq_true_eq] at k2
        rw [if_neg (by omega), decide_eq_true_eq]; omega
theorem ltN_irrR (a : List Nat) : ltN a a = false := ltN_refl a
theorem lessR_irr : ∀ a : List (List Nat), lessR a a = false
  | [] => rfl
  | a :: ats => by rw [lessR, if_pos rfl]; exact lessR_irr ats
theorem lessR_trans : ∀ {a b c : List (List Nat)}, lessR a b = true → lessR b c = true → ShapeR a b → ShapeR b c → lessR a c = true
  | [], _, _, h, _, _, _ => by simp [lessR] at h
  | _ :: _, [], _, h, _, _, _ => by simp [lessR] at h
  | _ :: _, _ :: _, [], _, h, _, _ => by simp [lessR] at h
  | a :: ats, b :: bs, c :: cs, h, k, s1, s2 => by
    obtain ⟨e1, s3⟩ := shape_cons s1
    obtain ⟨e2, s4⟩ := shape_cons s2
    rw [lessR] at h k ⊢
    unfold lessN at *
    rw [if_pos e1] at h
    rw [if_pos e2] at k
    rw [if_pos (e1.trans e2)]
    by_cases h1 : a = b
    · rw [if_pos h1] at h
      subst h1
      by_cases h2 : a = c
      · rw [if_pos h2] at k ⊢
        exact lessR_trans h k s3 s4
      · rw [if_neg h2] at k ⊢; exact k
    · rw [if_neg h1] at h
      by_cases h2 : b = c
      · subst h2
        rw [if_neg h1]; exact h
      · rw [if_neg h2] at k
        have h3 := ltN_transR e1 e2 h k
        rw [if_neg (fun e => by subst e; rw [ltN_irrR] at h3; cases h3)]
        exact h3
/-- The least of a list does not hang on its order. -/
theorem best_perm {n : Nat} (hn : 0 < n) {l l' : List (List (List Nat))} (hp : l.Perm l') (hl : ∀ a ∈ l, a.length = n) (hs : ∀ a ∈ l, ∀ b ∈ l, ShapeR a b) : l.foldl bestStepR [] = l'.foldl bestStepR [] := by
  have h1 := best_fold n hn l [] hl hs (.inl rfl) (fun h => absurd rfl h) (fun a _ => lessR_irr a) (fun a b c => lessR_trans)
  have h2 := best_fold n hn l' [] (fun a ha => hl a (hp.mem_iff.2 ha)) (fun a ha b hb => hs a (hp.mem_iff.2 ha) b (hp.mem_iff.2 hb)) (.inl rfl) (fun h => absurd rfl h) (fun a _ => lessR_irr a) (fun a b c => lessR_trans)
  rcases h1 with ⟨e, -⟩ | ⟨m1, k1, -⟩
  · subst e
    rw [List.nil_perm.1 hp]
  · rcases h2 with ⟨e, -⟩ | ⟨m2, k2, -⟩
    · subst e
      have := List.perm_nil.1 hp
      subst this
      rfl
    · have m1 := m1.resolve_right (fun h => h.1 rfl)
      have m2 := m2.resolve_right (fun h => h.1 rfl)
      apply Classical.byContradiction
      intro hne
      rcases lessR_tri (hs _ m1 _ (hp.mem_iff.2 m2)) hne with h | h
      · rw [k2 _ (hp.mem_iff.1 m1)] at h; cases h
      · rw [k1 _ (hp.mem_iff.2 m2)] at h; cases h
set_option maxRecDepth 20000 in
theorem ones_tab : (⟨(([0, 1, 1, 2, 1, 2, 2, 3, 1, 2, 2, 3, 2, 3, 3, 4, 1, 2, 2, 3, 2, 3, 3, 4, 2, 3, 3, 4, 3, 4, 4, 5, 1, 2, 2, 3, 2, 3, 3, 4, 2, 3, 3, 4, 3, 4, 4, 5, 2, 3, 3, 4, 3, 4, 4, 5, 3, 4, 4, 5, 4, 5, 5, 6].append
  [1, 2, 2, 3, 2, 3, 3, 4, 2, 3, 3, 4, 3, 4, 4, 5, 2, 3, 3, 4, 3, 4, 4, 5, 3, 4, 4, 5, 4, 5, 5, 6, 2, 3, 3, 4, 3, 4, 4, 5, 3, 4, 4, 5, 4, 5, 5, 6, 3, 4, 4, 5, 4, 5, 5, 6, 4, 5, 5, 6, 5, 6, 6, 7]).append
  ([1, 2, 2, 3, 2, 3, 3, 4, 2, 3, 3, 4, 3, 4, 4, 5, 2, 3, 3, 4, 3, 4, 4, 5, 3, 4, 4, 5, 4, 5, 5, 6, 2, 3, 3, 4, 3, 4, 4, 5, 3, 4, 4, 5, 4, 5, 5, 6, 3, 4, 4, 5, 4, 5, 5, 6, 4, 5, 5, 6, 5, 6, 6, 7].append
  [2, 3, 3, 4, 3, 4, 4, 5, 3, 4, 4, 5, 4, 5, 5, 6, 3, 4, 4, 5, 4, 5, 5, 6, 4, 5, 5, 6, 5, 6, 6, 7, 3, 4, 4, 5, 4, 5, 5, 6, 4, 5, 5, 6, 5, 6, 6, 7, 4, 5, 5, 6, 5, 6, 6, 7, 5, 6, 6, 7, 6, 7, 7, 8])).toArray⟩ : ByteArray) = Lib.pop8tab := rfl
theorem pop8_fact (q : Nat) (h : q < 256) : ∃ c : Nat, Lib.pop8 (q : Int) = (c : Int) ∧ c ≤ 8 ∧ c = Lib.onesCount q := by
  have e := Lib.pop8_eq ⟨q, h⟩
  have l := Lib.onesCount_le8 ⟨q, h⟩
  exact ⟨_, e, l, rfl⟩
theorem pop_split : ∀ (a : Fin 256), ((List.range 8).filter a.val.testBit).length = Lib.onesCount a.val := by decide +kernel
theorem pop_bytes (m : Nat) (h1 : m < 65536) : (bitsI m).length = Lib.onesCount (m / 256) + Lib.onesCount (m % 256) := by
  have a := pop_split ⟨m / 256, by omega⟩
  have b := pop_split ⟨m % 256, by omega⟩
  simp only at a b
  rw [← a, ← b]
  have hr : List.range 32 = List.range 8 ++ ((List.range 8).map (· + 8) ++ List.range' 16 16) := by decide
  simp only [bitsI, List.length_map]
  unfold bitsN
  rw [hr, List.filter_append, List.filter_append, List.length_append, List.length_append, List.filter_map, List.length_map]
  have h3 : (List.range' 16 16).filter m.testBit = [] := List.filter_eq_nil_iff.2 fun x hx => by
    have := List.mem_range'_1.1 hx
    rw [Nat.testBit_lt_two_pow (Nat.lt_of_lt_of_le h1 (by have := Nat.pow_le_pow_right (n := 2) (by decide) this.1; simpa using this))]
    simp
  have h4 : (List.range 8).filter m.testBit = (List.range 8).filter (m % 256).testBit := by
    apply List.filter_congr
    intro x hx
    have hx := List.mem_range.1 hx
    have := Nat.testBit_mod_two_pow m 8 x
    simp only [hx, decide_true, Bool.true_and] at this
    exact this.symm
  have h5 : (List.range 8).filter (m.testBit ∘ (· + 8)) = (List.range 8).filter (m / 256).testBit := by
    apply List.filter_congr
    intro x _
    rw [Function.comp, show m / 256 = m / 2 ^ 8 from rfl, Nat.testBit_div_two_pow, Nat.add_comm]
  rw [h3, h4, h5]
  simp; omega
set_option maxHeartbeats 1000000 in
theorem ones_any (m : Nat) (w : World) (h1 : m < 65536) : Calls Tryz.prog 74 #[.int .u32 (m : Int)] w fun e w' => e = .returned (.int .i64 ((bitsI m).length : Int)) ∧ Drawn w w' := by
  have e1 : (m : Int) / 16777216 = 0 := by omega
  have e2 : (m : Int) / 65536 = 0 := by omega
  have hq : (m : Int) / 256 = ((m / 256 : Nat) : Int) := by omega
  have ha := u32_and_nat (m / 256) 255 (by omega) (by omega)
  have hb := u32_and_nat m 255 (by omega) (by omega)
  rw [show (255 : Nat) = 2 ^ 8 - 1 from rfl, Nat.and_two_pow_sub_one_eq_mod, Nat.mod_eq_of_lt (by omega)] at ha
  rw [show (255 : Nat) = 2 ^ 8 - 1 from rfl, Nat.and_two_pow_sub_one_eq_mod] at hb
  have hr0 : m % 2 ^ 8 < 256 := Nat.mod_lt _ (by decide)
  have hq0 : m / 256 < 256 := by omega
  have hm := pop_bytes m h1
  have hz : Lib.pop8 0 = 0 := by decide +kernel
  rw [show m % 256 = m % 2 ^ 8 from rfl] at hm
  generalize m % 2 ^ 8 = r at *
  generalize m / 256 = q at *
  obtain ⟨c, hc1, hc2, hc3⟩ := pop8_fact q hq0
  obtain ⟨d, hd1, hd2, hd3⟩ := pop8_fact r hr0
  rw [← hc3, ← hd3] at hm
  have HM := Lib.hid hm
  clear hc3 hd3 hm
  have hz2 : bits BinOp.and IntKind.u32 0 255 = 0 := by decide +kernel
  have ha' : bits BinOp.and IntKind.u32 (q : Int) 255 = q := ha
  have hb' : bits BinOp.and IntKind.u32 (m : Int) 255 = r := hb
  clear ha hb
  have i1 : (0 : Int) ≤ q := by omega
  have i2 : (q : Int) ≤ 255 := by omega
  have i3 : (0 : Int) ≤ r := by omega
  have i4 : (r : Int) ≤ 255 := by omega
  have w0 : IntKind.u8.wrap 0 = 0 := by decide
  have w1 : IntKind.u8.wrap (c : Int) = c := by simp [IntKind.wrap, go_sem]; omega
  have w2 : IntKind.u8.wrap ((c : Int) + d) = (c : Int) + d := by simp [IntKind.wrap, go_sem]; omega
  have w3 : IntKind.i64.wrap ((c : Int) + d) = (c : Int) + d := by simp [IntKind.wrap, go_sem]; omega
  go_enter Tryz.func74, Tryz.ntmps74
  simp only [ones_tab]
  go_wp2
  go_quiet (fail)
  go_wp2
  go_ret
  exact ⟨ret_int (by rw [HM.out]; omega), ⟨_, rfl⟩⟩
theorem size_any (m : Nat) (w : World) (h1 : m < 65536) : Calls Tryz.prog 36 #[.int .u32 (m : Int)] w fun e w' => e = .returned (.int .i64 ((bitsI m).length : Int)) ∧ Drawn w w' := by
  go_enter Tryz.func36, Tryz.ntmps36
  go_wp2_with (go_at_call 74; refine (ones_any _ _ h1).mono ?_; rintro e w' ⟨rfl, hd⟩)
  go_ret
  exact ⟨rfl, hd⟩
end Go.Proofs.YtdbanndcdbikmaaGreatDoor
