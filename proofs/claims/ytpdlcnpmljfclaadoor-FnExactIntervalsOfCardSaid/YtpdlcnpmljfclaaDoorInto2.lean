/- A number put into a rising list that may hold it: sets as words. -/
import Derived.Test.YtpdlcnpmljfclaaDoorPrimeM
namespace Go.Proofs.YtpdlcnpmljfclaaDoor
open Go.RowKit

def HoldP (p : Prop) : Prop := p
theorem hold_in {p : Prop} (h : HoldP p) : p := h
theorem SlI.take {S : Nat → Prop} {w : World} {k : IntKind} {a : Option Addr} {n c m : Nat} {xs : List Int} (h : SlI S w k (.slice a n c) xs) (hm : m ≤ n) : SlI S w k (.slice a m c) (xs.take m) := by
  obtain ⟨a', b, off, cap, hv, hl, ha, hc⟩ := h
  simp only [Value.slice.injEq] at hv
  obtain ⟨rfl, rfl, rfl⟩ := hv
  have hlen : (xs.take m).length = m := by simp; omega
  refine ⟨a, b, off, c, by rw [hlen], ⟨by omega, hl.2⟩, fun h => ha (by omega), fun i hi => ?_⟩
  have := hc i (by omega)
  simpa using this
theorem SlI.drop {S : Nat → Prop} {w : World} {k : IntKind} {b off n c m : Nat} {xs : List Int} (h : SlI S w k (.slice (some ⟨b, off, none⟩) n c) xs) (hm : m < n) : SlI S w k (.slice (some ⟨b, off + m, none⟩) (n - m) (c - m)) (xs.drop m) := by
  obtain ⟨a', b', off', cap, hv, hl, ha, hc⟩ := h
  simp only [Value.slice.injEq] at hv
  obtain ⟨rfl, rfl, rfl⟩ := hv
  have ha2 := ha (by omega)
  simp only [Option.some.injEq, Addr.mk.injEq, and_true] at ha2
  obtain ⟨⟨rfl, rfl⟩, hS⟩ := ha2
  refine ⟨_, b, off + m, c - m, by rw [List.length_drop], ⟨by rw [List.length_drop]; omega, by omega⟩, fun _ => ⟨rfl, hS⟩, fun i hi => ?_⟩
  rw [List.length_drop] at hi
  have := hc (m + i) (by omega)
  simp only [List.getElem_drop]
  rw [Nat.add_assoc]; exact this
theorem IntsAt.news {w : World} {k : IntKind} {b off : Nat} {xs : List Int} (h : IntsAt w k b off xs) : ∀ (j : Nat) u, (xs.map (Value.int k))[j]? = some u → w.cell? ((⟨b, off, none⟩ : Addr).add j) = some u := by
  intro j u hj
  rw [List.getElem?_map] at hj
  obtain ⟨x, hx, rfl⟩ := Option.map_eq_some_iff.1 hj
  obtain ⟨hlt, rfl⟩ := List.getElem?_eq_some_iff.1 hx
  have := h j hlt
  by_cases h0 : j = 0
  · subst h0; simpa [Addr.add] using this
  · simpa [Addr.add, h0] using this
theorem ints_one {k : IntKind} {xs : List Int} : ∀ u ∈ xs.map (Value.int k), u.oneCell' = true := by
  intro u hu
  obtain ⟨x, _, rfl⟩ := List.mem_map.1 hu
  rfl
set_option maxHeartbeats 1000000 in
theorem l1Copy_any {S : Nat → Prop} (v : Value) (xs : List Int) (w : World) (hv : SlI S w .i64 v xs) (hn : xs.length ≤ 1048576) :
    Calls Tryd.prog 96 #[v] w fun e w' => ∃ u, e = .returned u ∧ Own w' w.heap.size 2 1 u xs.length (xs.map (.int .i64)) ∧ Below w.heap.size w w' := by
  have hq0 : Below w.heap.size w (w.alloc (.cells #[] 2)) := (Below.refl _ _).alloc (Nat.le_refl _) _
  obtain ⟨a, b, off, cap, rfl, hl, ha, hc⟩ := hv.below hq0 (Nat.le_refl _)
  have hown : Own (w.alloc (.cells #[] 2)) w.heap.size 2 1 (.slice (some ⟨w.heap.size, 0, none⟩) 0 0) 0 [] := World.ownsRow_lit (base := w.heap.size) (e := 2) (size := 1) w #[] 0 (Nat.le_refl _) (by unfold maxLen; omega) rfl
  by_cases h0 : xs.length = 0
  · have hx : xs = [] := List.eq_nil_of_length_eq_zero h0
    subst hx
    go_enter Tryd.func96, Tryd.ntmps96
    go_wp2_with (at_builtin; refine wpList_append0 elI64 rfl _ _ rfl hown rfl rfl ?_)
    go_ret
    exact ⟨_, rfl, hown, hq0⟩
  · obtain ⟨rfl, _⟩ := ha (by omega)
    go_enter Tryd.func96, Tryd.ntmps96
    go_wp2_with (at_builtin; refine wpList_append elI64 rfl _ _ rfl hown rfl (news := xs.map (.int .i64)) rfl (by simp) hc.news ints_one (by omega) (by simp) ?_; intro v' w1 hown1 hgr hmv; have hq1 := (KeptBut.of_grown hgr).below hq0 (by simp) hown.ge)
    go_ret
    refine ⟨_, rfl, ?_, hq1⟩
    simpa using hown1
set_option maxHeartbeats 2000000 in
theorem l1Into_any {S : Nat → Prop} (v : Value) (xs : List Int) (x : Int) (w : World) (hv : SlI S w .i64 v xs) (hn : xs.length ≤ 1048576) (hs : xs.Pairwise (· < ·)) (hx : ¬ x ∈ xs) :
    Calls Tryd.prog 68 #[v, .int .i64 x] w fun e w' => ∃ u k, e = .returned u ∧ k ≤ xs.length ∧ (∀ y ∈ xs.take k, y < x) ∧ (∀ y ∈ xs.drop k, x < y) ∧ Own w' w.heap.size 2 1 u (xs.length + 1) ((intoL xs k x).map (.int .i64)) ∧ Below w.heap.size w w' := by
  obtain ⟨a, b, off, cap, rfl, hl, ha, hc⟩ := hv
  have hv0 : SlI S w .i64 (.slice a xs.length cap) xs := ⟨a, b, off, cap, rfl, hl, ha, hc⟩
  go_enter Tryd.func68, Tryd.ntmps68
  go_wp2
  go_loopw [5] (fun i wr => ∃ k : Nat, k ≤ xs.length ∧ i = .int .i64 k ∧ (∀ y ∈ xs.take k, y < x) ∧ w = wr) (fun i _ => xs.length - (intOf i).toNat)
  case atStart => exact ⟨0, Nat.zero_le _, rfl, by simp, rfl⟩
  case round =>
    obtain ⟨k, hk, rfl, hsm, rfl⟩ := hrel
    by_cases hlt : k < xs.length
    · have hcell := hc k hlt
      obtain ⟨rfl, _⟩ := ha (by omega)
      by_cases hb : xs[k] < x
      · have hbb : decide (xs[k] < x) = true := by simpa using hb
        have hst := Lib.hid (take_step (P := fun y => y < x) hlt hsm hb)
        clear hsm
        go_wp2
        go_roundw
        case rel => exact ⟨k + 1, by omega, by go_num, hst.out, trivial⟩
        case measure => simp [intOf]; omega
      · have hbb : decide (xs[k] < x) = false := by simpa using hb
        have hne : (xs[k] == x) = false := by
          rw [beq_eq_false_iff_ne]; intro h; exact hx (h ▸ List.getElem_mem hlt)
        go_wp2_with fail
        refine (l1Copy_any _ _ _ (hv0.take (m := k) (by omega)) (by simp; omega)).mono ?_
        rintro e w1 ⟨u, rfl, hu, hq1⟩
        have hlk : (xs.take k).length = k := by simp; omega
        rw [hlk] at hu
        go_wp2_with (at_builtin; refine hold_in ?_)
        unfold HoldP
        (refine wpList_append1 elI64 rfl _ _ rfl hu rfl rfl rfl (by omega) hq1.size ?_; intro v' w2 hown2 hkept hmv; have hq2 := hkept.below hq1 hq1.size hu.ge)
        have hcw : SlI S w2 .i64 (.slice (some ⟨b, off + k, none⟩) (xs.length - k) (cap - k)) (xs.drop k) := (hv0.drop hlt).below hq2 (Nat.le_refl _)
        have hdl : (xs.drop k).length = xs.length - k := List.length_drop
        obtain ⟨a', b', off', cap', hv', hl', ha', hc'⟩ := hcw
        simp only [Value.slice.injEq] at hv'
        obtain ⟨rfl, -, rfl⟩ := hv'
        have ha2 := ha' (by omega)
        simp only [Option.some.injEq, Addr.mk.injEq, and_true] at ha2
        obtain ⟨⟨rfl, rfl⟩, -⟩ := ha2
        go_wp2_with (at_builtin; refine hold_in ?_)
        unfold HoldP
        refine wpList_append elI64 rfl _ _ rfl hown2 rfl (news := (xs.drop k).map (.int .i64)) rfl (by simp) hc'.news ints_one (by omega) (by have := hq2.size; omega) ?_
        intro v2 w3 hown3 hgr hmv2
        have hq3 := (KeptBut.of_grown hgr).below hq2 hq2.size hown2.ge
        go_wp2
        go_ret
        have hdr : ∀ y ∈ xs.drop k, x < y := by
          intro y hy
          rw [List.drop_eq_getElem_cons hlt] at hy
          rcases List.mem_cons.1 hy with rfl | hy
          · have : xs[k] ≠ x := fun h => hx (h ▸ List.getElem_mem hlt)
            omega
          · obtain ⟨j, hj, rfl⟩ := List.getElem_of_mem hy
            rw [List.getElem_drop]
            rw [List.length_drop] at hj
            have h1 := List.pairwise_iff_getElem.1 hs k (k + 1 + j) hlt (by omega) (by omega)
            have : xs[k] ≠ x := fun h => hx (h ▸ List.getElem_mem hlt)
            omega
        refine ⟨v2, k, rfl, hk, hsm, hdr, ?_, hq3⟩
        have e : k + 1 + (xs.length - k) = xs.length + 1 := by omega
        rw [e] at hown3
        simpa [intoL] using hown3
    · obtain rfl : k = xs.length := by omega
      go_wp2_with fail
      refine (l1Copy_any _ _ _ (hv0.take (m := xs.length) (by omega)) (by simp; omega)).mono ?_
      rintro e w1 ⟨u, rfl, hu, hq1⟩
      have hlk : (xs.take xs.length).length = xs.length := by simp
      rw [hlk] at hu
      go_wp2_with (at_builtin; refine hold_in ?_)
      unfold HoldP
      (refine wpList_append1 elI64 rfl _ _ rfl hu rfl rfl rfl (by omega) hq1.size ?_; intro v' w2 hown2 hkept hmv; have hq2 := hkept.below hq1 hq1.size hu.ge)
      go_wp2_with (at_builtin; refine hold_in ?_)
      all_goals
        unfold HoldP
        refine wpList_append0 elI64 rfl _ _ rfl hown2 rfl rfl ?_
        go_wp2
        go_ret
        refine ⟨v', xs.length, rfl, Nat.le_refl _, hsm, by simp, ?_, hq2⟩
        simpa [intoL] using hown2
/-- An own rising list of a set. -/
def OwnB (w : World) (B : Nat) (E : TypeId) (v : Value) (m : Nat) : Prop := Own w B E 1 v (bitsI m).length ((bitsI m).map (.int .i64))
theorem OwnB.below {w w' : World} {B B1 : Nat} {E : TypeId} {v : Value} {m : Nat} (h : OwnB w B E v m) (hb : Below B1 w w') (hB : w.heap.size ≤ B1) : OwnB w' B E v m := Own.below h hb hB
theorem OwnB.weak {w : World} {B B' : Nat} {E : TypeId} {v : Value} {m : Nat} (h : OwnB w B E v m) (hB : B' ≤ B) : OwnB w B' E v m := Own.weak h hB
theorem OwnB.ints {w : World} {B : Nat} {E : TypeId} {v : Value} {m : Nat} (h : OwnB w B E v m) : SlI (fun b => v.ownBlock = some b) w .i64 v (bitsI m) := Own.ints h (by have := bitsI_len m; omega)
theorem OwnB.drawn {w w' : World} {B : Nat} {E : TypeId} {v : Value} {m : Nat} (h : OwnB w B E v m) (hb : Drawn w w') : OwnB w' B E v m := Own.drawn h hb
theorem bitsI_or {m x : Nat} (hm : m < 4294967296) (hx : x < 32) {k : Nat} (hk1 : ∀ y ∈ (bitsI m).take k, y < (x : Int)) (hk2 : ∀ y ∈ (bitsI m).drop k, (x : Int) < y) : intoL (bitsI m) k x = bitsI (m ||| bit x) := by
  have hb := bit_lt hx
  have hor : m ||| bit x < 4294967296 := Nat.or_lt_two_pow (n := 32) hm hb
  refine sorted_ext (intoL_sorted (bitsI_sorted m) hk1 hk2) (bitsI_sorted _) fun y => ?_
  rw [mem_intoL, mem_bitsI hm, mem_bitsI hor, Nat.testBit_or, testBit_bit]
  simp only [Bool.or_eq_true, decide_eq_true_eq]
  constructor
  · rintro (rfl | ⟨h1, h2⟩)
    · exact ⟨by omega, .inr (by omega)⟩
    · exact ⟨h1, .inl h2⟩
  · rintro ⟨h1, h2 | h2⟩
    · exact .inr ⟨h1, h2⟩
    · exact .inl (by omega)
theorem or_bit_same {m x : Nat} (h : m.testBit x = true) : m ||| bit x = m := by
  apply nat_ext
  intro i
  rw [Nat.testBit_or, testBit_bit]
  by_cases e : x = i
  · subst e; simp [h]
  · simp [e]
set_option maxHeartbeats 2000000 in
theorem l1Into_in {S : Nat → Prop} {v : Value} {xs : List Int} {x : Int} {w : World} (hv : SlI S w .i64 v xs) (hs : xs.Pairwise (· < ·)) (hx : x ∈ xs) :
    Calls Tryd.prog 68 #[v, .int .i64 x] w fun e w' => e = .returned v ∧ w = w' := by
  obtain ⟨a, b, off, cap, rfl, hl, ha, hc⟩ := hv
  go_enter Tryd.func68, Tryd.ntmps68
  go_wp2
  go_loopw [5] (fun i wr => ∃ k : Nat, k ≤ xs.length ∧ i = .int .i64 k ∧ (∀ y ∈ xs.take k, y < x) ∧ w = wr) (fun i _ => xs.length - (intOf i).toNat)
  case atStart => exact ⟨0, Nat.zero_le _, rfl, by simp, rfl⟩
  case round =>
    obtain ⟨k, hk, rfl, hsm, rfl⟩ := hrel
    have hlt : k < xs.length := by
      apply Nat.lt_of_not_le
      intro h
      rw [List.take_of_length_le h] at hsm
      have := hsm x hx; omega
    have hcell := hc k hlt
    obtain ⟨rfl, _⟩ := ha (by omega)
    by_cases hb : xs[k] < x
    · have hbb : decide (xs[k] < x) = true := by simpa using hb
      have hst := Lib.hid (take_step (P := fun y => y < x) hlt hsm hb)
      clear hsm
      go_wp2
      go_roundw
      case rel => exact ⟨k + 1, by omega, by go_num, hst.out, trivial⟩
      case measure => simp [intOf]; omega
    · have hbb : decide (xs[k] < x) = false := by simpa using hb
      have he : xs[k] = x := by
        obtain ⟨j, hj, rfl⟩ := List.getElem_of_mem hx
        by_cases e : j = k
        · subst e; rfl
        · by_cases h2 : j < k
          · have := hsm xs[j] (by
              have : xs[j] = (xs.take k)[j]'(by simp; omega) := by simp
              rw [this]; exact List.getElem_mem _)
            omega
          · have := List.pairwise_iff_getElem.1 hs k j hlt hj (by omega)
            omega
      have heb : (xs[k] == x) = true := by simpa using he
      clear he hsm
      go_wp2
      go_ret
      exact ⟨rfl, rfl⟩
theorem intoB_any {B : Nat} {v : Value} {m x : Nat} {w : World} (hv : OwnB w B 2 v m) (hB : B ≤ w.heap.size) (hm : m < 4294967296) (hx : x < 32) :
    Calls Tryd.prog 68 #[v, .int .i64 (x : Int)] w fun e w' => ∃ u, e = .returned u ∧ OwnB w' B 2 u (m ||| bit x) ∧ Below w.heap.size w w' := by
  by_cases h : m.testBit x = true
  · refine (l1Into_in hv.ints (bitsI_sorted m) ((mem_bitsI hm).2 ⟨by omega, by simpa using h⟩)).mono ?_
    rintro e w' ⟨rfl, rfl⟩
    exact ⟨v, rfl, by rw [or_bit_same h]; exact hv, Below.refl _ _⟩
  · have hl := bitsI_len m
    refine (l1Into_any _ _ _ _ hv.ints (by omega) (bitsI_sorted m) (fun hn => h (by simpa using ((mem_bitsI hm).1 hn).2))).mono ?_
    rintro e w' ⟨u, k, rfl, hk, h1, h2, hown, hb⟩
    refine ⟨u, rfl, ?_, hb⟩
    rw [bitsI_or hm hx h1 h2] at hown
    have e : (bitsI m).length + 1 = (bitsI (m ||| bit x)).length := by rw [← bitsI_or hm hx h1 h2, intoL_len]
    rw [e] at hown
    exact Own.weak hown hB

def lenV : Value → Nat | .slice _ n _ => n | _ => 0
set_option maxHeartbeats 2000000 in
theorem l17Closure_any {S S' S2 : Nat → Prop} (v u t : Value) (g : List (List Int)) (set : List Int) (w : World) (hg : GOk g) (hr : Rise set g.length) (hv : SlR S w v g) (hu : SlI S' w .i64 u (rangeI g.length)) (ht : SlI S2 w .i64 t set) :
    Calls Tryd.prog 98 #[.agg #[v], u, t] w fun e w' => ∃ x, e = .returned x ∧ Own w' w.heap.size 2 1 x (closL g set).length ((closL g set).map (.int .i64)) ∧ Below w.heap.size w w' := by
  have hq0 : Below w.heap.size w (w.alloc (.cells #[v] 29)) := (Below.refl _ _).alloc (Nat.le_refl _) _
  obtain ⟨va, vc, rfl⟩ := hv.slice
  obtain ⟨ua, uc, rfl⟩ := hu.slice
  have hhi := hg.hi
  have hlen := rise_len hr (by omega)
  go_enter Tryd.func98, Tryd.ntmps98
  go_wp2_with fail
  refine (l1Copy_any _ _ _ (ht.below hq0 (Nat.le_refl _)) (by omega)).mono ?_
  rintro e w1 ⟨x1, rfl, hx1, hb1⟩
  have hq1 := hq0.trans (hb1.mono hq0.size)
  have c1 : w1.cell? ⟨w.heap.size, 0, none⟩ = some (.slice va g.length vc) := (hb1.cell (p := ⟨w.heap.size, 0, none⟩) (by simp)).trans (by simp [go_sem])
  go_wp2
  go_loopw [7] (fun o wr => ∃ out, Reach g set out ∧ Own wr (w.heap.size + 1) 2 1 o out.length (out.map (.int .i64)) ∧ Below w.heap.size w wr ∧ wr.cell? ⟨w.heap.size, 0, none⟩ = some (.slice va g.length vc)) (fun o _ => g.length - lenV o)
  case atStart => exact ⟨set, Reach.start hr, by simpa using hx1, hq1, c1⟩
  case round =>
    obtain ⟨out, hre, hown, hq, hbx⟩ := hrel
    have hB := hq.size
    have hcl := cell_lt hbx
    simp only at hcl
    have hol := rise_len hre.rise (by omega)
    have hni := hown.ints (by omega)
    obtain ⟨oa, oc, rfl⟩ := hni.slice
    have hneg := splitter_neg (g := g) (s := out) (l := rangeI g.length) (fun x hx => (mem_rangeI.1 hx).1)
    have hpos := splitter_pos (g := g) (s := out) (l := rangeI g.length)
    by_cases hlt : splitterI g (rangeI g.length) out < 0
    · have hltb : decide (splitterI g (rangeI g.length) out < 0) = true := by simpa using hlt
      have hd := hre.done (hneg.1 hlt)
      subst hd
      clear hneg hpos
      go_wp2_with (go_at_call 66; refine (l17Splitter_any _ _ _ _ _ _ _ (hv.below hq (Nat.le_refl _)) (hu.below hq (Nat.le_refl _)) hni (fun y hy => by have := mem_rangeI.1 hy; omega)).mono ?_; rintro e w2 ⟨rfl, hb2⟩)
      go_ret
      exact ⟨_, rfl, (hown.below hb2 (Nat.le_refl _)).weak (by omega), hq.trans (hb2.mono hB)⟩
    · have hltb : decide (splitterI g (rangeI g.length) out < 0) = false := by simpa using hlt
      have hsp := hpos hlt
      have hnm : ¬ splitterI g (rangeI g.length) out ∈ out := by
        have := hsp.2
        simp only [splitAtB, Bool.and_eq_true, Bool.not_eq_true', decide_eq_false_iff_not] at this
        exact this.1
      have HNEG := Lib.hid hneg; have HSP := Lib.hid hsp; clear hneg hpos hsp
      go_wp2_with (go_at_call 66; refine (l17Splitter_any _ _ _ _ _ _ _ (hv.below hq (Nat.le_refl _)) (hu.below hq (Nat.le_refl _)) hni (fun y hy => by have := mem_rangeI.1 hy; omega)).mono ?_; rintro e w2 ⟨rfl, hb2⟩)
      have hq2 := hq.trans (hb2.mono hB)
      have hown2 := hown.below hb2 (Nat.le_refl _)
      have hni2 := hown2.ints (by omega)
      have hbx2 : w2.cell? ⟨w.heap.size, 0, none⟩ = some (.slice va g.length vc) := (hb2.cell (p := ⟨w.heap.size, 0, none⟩) (cell_lt hbx)).trans hbx
      go_wp2_with fail
      refine (l1Into_any _ _ _ _ hni2 (by omega) (rise_sorted hre.rise) hnm).mono ?_
      rintro e w3 ⟨x3, k, rfl, hk, hk1, hk2, hown3, hb3⟩
      have hsrt := intoL_sorted (rise_sorted hre.rise) hk1 hk2
      have hr3 : Rise (intoL out k (splitterI g (rangeI g.length) out)) g.length := sorted_rise hsrt fun y hy => by
        rcases mem_intoL.1 hy with rfl | hy
        · have := mem_rangeI.1 HSP.out.1; omega
        · have := rise_ge hre.rise y hy; omega
      have hre3 := hre.step hr3 (fun y hy => mem_intoL.2 (.inr hy)) (fun y hy => by
        rcases mem_intoL.1 hy with rfl | hy
        · exact .inr HSP.out
        · exact .inl hy)
      have hl3 := rise_len hr3 (by omega)
      rw [intoL_len] at hl3
      obtain ⟨xa, xc, rfl⟩ := (hown3.ints (by omega)).slice
      go_wp2
      go_roundw
      case rel =>
        refine ⟨_, hre3, ?_, hq2.trans (hb3.mono hq2.size), ?_⟩
        · rw [intoL_len] at hown3 ⊢; exact hown3.weak (by have := hb2.size; omega)
        · exact (hb3.cell (p := ⟨w.heap.size, 0, none⟩) (cell_lt hbx2)).trans hbx2
      case measure => simp only [lenV, intoL_len]; omega
def popV (v : Value) : Nat := (bitsI (intOf v).toNat).length
set_option maxHeartbeats 2000000 in
theorem closureOf_any {S : Nat → Prop} (v : Value) (g : List (List Int)) (s : List Int) (w : World) (ht : Tab w) (hg : GOk g) (hr : Rise s g.length) (hv : SlI S w .u32 v (natsI (netsL g))) :
    Calls Tryd.prog 131 #[v, .int .u32 (firstN g.length), .int .u32 (maskL s)] w fun e w' => e = .returned (.int .u32 (maskL (closL g s) : Int)) ∧ Below w.heap.size w w' := by
  obtain ⟨va, vc, rfl⟩ := hv.slice
  have hhi := hg.hi
  have hnl := netsL_lt hg
  have hln : (netsL g).length ≤ 16 := by simpa [netsL] using hhi
  have hfl : firstN g.length < 2 ^ (netsL g).length := by
    rw [netsL_len]; unfold firstN; have := Nat.two_pow_pos g.length; omega
  have HFL := Lib.hid hfl; have HN := Lib.hid hnl; clear hfl hnl
  go_enter Tryd.func131, Tryd.ntmps131
  go_wp2
  go_loopw [2] (fun m wr => ∃ out, Reach g s out ∧ m = .int .u32 (maskL out : Int) ∧ Below w.heap.size w wr) (fun m _ => g.length - popV m)
  case atStart => exact ⟨s, Reach.start hr, rfl, Below.refl _ _⟩
  case round =>
    obtain ⟨out, hre, rfl, hq⟩ := hrel
    have hB := hq.size
    have ho2 := rise_ge hre.rise
    have ho : ∀ x ∈ out, 0 ≤ x ∧ x < 32 := fun x hx => by have := ho2 x hx; omega
    have hm := maskL_lt32 ho
    have hz := splN_zero hg hre.rise
    rw [splitter_neg (fun x hx => (mem_rangeI.1 hx).1)] at hz
    have hsl := splN_lt hg hre.rise
    by_cases h0 : splN (netsL g) (firstN g.length) (maskL out) = 0
    · have h0b : ((splN (netsL g) (firstN g.length) (maskL out) : Int) == 0) = true := by simp [h0]
      have hd := hre.done (hz.1 h0)
      have HD := Lib.hid hd; have H0 := Lib.hid h0; clear hd h0 hz
      go_wp2_with (go_at_call 144; refine (splitters_any _ _ _ _ _ (ht.below hq (Nat.le_refl _)) (hv.below hq (Nat.le_refl _)) hln HFL.out hm HN.out).mono ?_; rintro e w2 ⟨rfl, hb2⟩)
      go_ret
      exact ⟨ret_int (by rw [HD.out]), hq.trans (hb2.mono hB)⟩
    · have h0b : ((splN (netsL g) (firstN g.length) (maskL out) : Int) == 0) = false := by simpa using h0
      have hor := u32_or_nat (maskL out) (splN (netsL g) (firstN g.length) (maskL out)) hm hsl
      have hmo := more_or hg hre.rise
      have hml := more_len hre.rise (fun h => h0 (hz.2 h))
      have hre2 := hre.more
      have HZ := Lib.hid hz; have HOR := Lib.hid hor; have HMO := Lib.hid hmo; clear hz hor hmo
      go_wp2_with (go_at_call 144; refine (splitters_any _ _ _ _ _ (ht.below hq (Nat.le_refl _)) (hv.below hq (Nat.le_refl _)) hln HFL.out hm HN.out).mono ?_; rintro e w2 ⟨rfl, hb2⟩)
      have hq2 := hq.trans (hb2.mono hB)
      go_roundw
      case rel => exact ⟨moreL g out, hre2, by rw [← HMO.out]; exact congrArg (Value.int .u32) HOR.out, hq2⟩
      case measure =>
        have h1 := bitsI_maskL (rise_sorted hre.rise) ho
        have h2 := bitsI_maskL (rise_sorted hre2.rise) (fun x hx => by have := rise_ge hre2.rise x hx; omega)
        have e1 : popV (.int .u32 (maskL out : Int)) = out.length := by simp [popV, intOf, h1]
        have e2 : ∀ z : Int, z = (maskL (moreL g out) : Int) → popV (.int .u32 z) = (moreL g out).length := by rintro z rfl; simp [popV, intOf, h2]
        have e3 := e2 _ (HOR.out.trans (by rw [HMO.out]))
        rw [e1]
        first | (rw [e3]; omega) | (simp only [e3]; omega) | trace_state
end Go.Proofs.YtpdlcnpmljfclaaDoor
