/- A list copied; a list with one more. -/
import Derived.Test.YtbpjbjeglcphcaaGreatDoorPrimeM
namespace Go.Proofs.YtbpjbjeglcphcaaGreatDoor
open Go.RowKit

def HoldP (p : Prop) : Prop := p
theorem hold_in {p : Prop} (h : HoldP p) : p := h
theorem SlI.take {S : Nat → Prop} {w : World} {k : IntKind} {a : Option Addr} {n c m : Nat} {xs : List Int} (h : SlI S w k (.slice a n c) xs) (hm : m ≤ n) : SlI S w k (.slice a m c) (xs.take m) := by
  obtain ⟨a', b, off, cap, hv, hl, ha, hc⟩ := h
  simp only [Value.slice.injEq] at hv
  obtain ⟨rfl, rfl, rfl⟩ := hv
  have hlen : (xs.take m).length = m := by simp; omega
  refine ⟨a, b, off, c, by rw [hlen], ⟨by omega, hl.2⟩, fun h => ha (by omega), fun i hi => ?_⟩
  have := hc i (by omega)
  simpa using this
theorem SlI.drop {S : Nat → Prop} {w : World} {k : IntKind} {b off n c m : Nat} {xs : List Int} (h : SlI S w k (.slice (some ⟨b, off, none⟩) n c) xs) (hm : m < n) : SlI S w k (.slice (some ⟨b, off + m, none⟩) (n - m) (c - m)) (xs.drop m) := by
  obtain ⟨a', b', off', cap, hv, hl, ha, hc⟩ := h
  simp only [Value.slice.injEq] at hv
  obtain ⟨rfl, rfl, rfl⟩ := hv
  have ha2 := ha (by omega)
  simp only [Option.some.injEq, Addr.mk.injEq, and_true] at ha2
  obtain ⟨⟨rfl, rfl⟩, hS⟩ := ha2
  refine ⟨_, b, off + m, c - m, by rw [List.length_drop], ⟨by rw [List.length_drop]; omega, by omega⟩, fun _ => ⟨rfl, hS⟩, fun i hi => ?_⟩
  rw [List.length_drop] at hi
  have := hc (m + i) (by omega)
  simp only [List.getElem_drop]
  rw [Nat.add_assoc]; exact this
theorem IntsAt.news {w : World} {k : IntKind} {b off : Nat} {xs : List Int} (h : IntsAt w k b off xs) : ∀ (j : Nat) u, (xs.map (Value.int k))[j]? = some u → w.cell? ((⟨b, off, none⟩ : Addr).add j) = some u := by
  intro j u hj
  rw [List.getElem?_map] at hj
  obtain ⟨x, hx, rfl⟩ := Option.map_eq_some_iff.1 hj
  obtain ⟨hlt, rfl⟩ := List.getElem?_eq_some_iff.1 hx
  have := h j hlt
  by_cases h0 : j = 0
  · subst h0; simpa [Addr.add] using this
  · simpa [Addr.add, h0] using this
theorem ints_one {k : IntKind} {xs : List Int} : ∀ u ∈ xs.map (Value.int k), u.oneCell' = true := by
  intro u hu
  obtain ⟨x, _, rfl⟩ := List.mem_map.1 hu
  rfl
set_option maxHeartbeats 1000000 in
theorem l1Copy_any {S : Nat → Prop} (v : Value) (xs : List Int) (w : World) (hv : SlI S w .i64 v xs) (hn : xs.length ≤ 1048576) :
    Calls Tryz.prog 70 #[v] w fun e w' => ∃ u, e = .returned u ∧ Own w' w.heap.size 2 1 u xs.length (xs.map (.int .i64)) ∧ Below w.heap.size w w' := by
  have hq0 : Below w.heap.size w (w.alloc (.cells #[] 2)) := (Below.refl _ _).alloc (Nat.le_refl _) _
  obtain ⟨a, b, off, cap, rfl, hl, ha, hc⟩ := hv.below hq0 (Nat.le_refl _)
  have hown : Own (w.alloc (.cells #[] 2)) w.heap.size 2 1 (.slice (some ⟨w.heap.size, 0, none⟩) 0 0) 0 [] := World.ownsRow_lit (base := w.heap.size) (e := 2) (size := 1) w #[] 0 (Nat.le_refl _) (by unfold maxLen; omega) rfl
  by_cases h0 : xs.length = 0
  · have hx : xs = [] := List.eq_nil_of_length_eq_zero h0
    subst hx
    go_enter Tryz.func70, Tryz.ntmps70
    go_wp2_with (at_builtin; refine wpList_append0 elI64 rfl _ _ rfl hown rfl rfl ?_)
    go_ret
    exact ⟨_, rfl, hown, hq0⟩
  · obtain ⟨rfl, _⟩ := ha (by omega)
    go_enter Tryz.func70, Tryz.ntmps70
    go_wp2_with (at_builtin; refine wpList_append elI64 rfl _ _ rfl hown rfl (news := xs.map (.int .i64)) rfl (by simp) hc.news ints_one (by omega) (by simp) ?_; intro v' w1 hown1 hgr hmv; have hq1 := (KeptBut.of_grown hgr).below hq0 (by simp) hown.ge)
    go_ret
    refine ⟨_, rfl, ?_, hq1⟩
    simpa using hown1
set_option maxHeartbeats 2000000 in
theorem l1Into_any {S : Nat → Prop} (v : Value) (xs : List Int) (x : Int) (w : World) (hv : SlI S w .i64 v xs) (hn : xs.length ≤ 1048576) (hs : xs.Pairwise (· < ·)) (hx : ¬ x ∈ xs) :
    Calls Tryz.prog 145 #[v, .int .i64 x] w fun e w' => ∃ u k, e = .returned u ∧ k ≤ xs.length ∧ (∀ y ∈ xs.take k, y < x) ∧ (∀ y ∈ xs.drop k, x < y) ∧ Own w' w.heap.size 2 1 u (xs.length + 1) ((intoL xs k x).map (.int .i64)) ∧ Below w.heap.size w w' := by
  obtain ⟨a, b, off, cap, rfl, hl, ha, hc⟩ := hv
  have hv0 : SlI S w .i64 (.slice a xs.length cap) xs := ⟨a, b, off, cap, rfl, hl, ha, hc⟩
  go_enter Tryz.func145, Tryz.ntmps145
  go_wp2
  go_loopw [5] (fun i wr => ∃ k : Nat, k ≤ xs.length ∧ i = .int .i64 k ∧ (∀ y ∈ xs.take k, y < x) ∧ w = wr) (fun i _ => xs.length - (intOf i).toNat)
  case atStart => exact ⟨0, Nat.zero_le _, rfl, by simp, rfl⟩
  case round =>
    obtain ⟨k, hk, rfl, hsm, rfl⟩ := hrel
    by_cases hlt : k < xs.length
    · have hcell := hc k hlt
      obtain ⟨rfl, _⟩ := ha (by omega)
      by_cases hb : xs[k] < x
      · have hbb : decide (xs[k] < x) = true := by simpa using hb
        have hst := Lib.hid (take_step (P := fun y => y < x) hlt hsm hb)
        clear hsm
        go_wp2
        go_roundw
        case rel => exact ⟨k + 1, by omega, by go_num, hst.out, trivial⟩
        case measure => simp [intOf]; omega
      · have hbb : decide (xs[k] < x) = false := by simpa using hb
        have hne : (xs[k] == x) = false := by
          rw [beq_eq_false_iff_ne]; intro h; exact hx (h ▸ List.getElem_mem hlt)
        go_wp2_with fail
        refine (l1Copy_any _ _ _ (hv0.take (m := k) (by omega)) (by simp; omega)).mono ?_
        rintro e w1 ⟨u, rfl, hu, hq1⟩
        have hlk : (xs.take k).length = k := by simp; omega
        rw [hlk] at hu
        go_wp2_with (at_builtin; refine hold_in ?_)
        unfold HoldP
        (refine wpList_append1 elI64 rfl _ _ rfl hu rfl rfl rfl (by omega) hq1.size ?_; intro v' w2 hown2 hkept hmv; have hq2 := hkept.below hq1 hq1.size hu.ge)
        have hcw : SlI S w2 .i64 (.slice (some ⟨b, off + k, none⟩) (xs.length - k) (cap - k)) (xs.drop k) := (hv0.drop hlt).below hq2 (Nat.le_refl _)
        have hdl : (xs.drop k).length = xs.length - k := List.length_drop
        obtain ⟨a', b', off', cap', hv', hl', ha', hc'⟩ := hcw
        simp only [Value.slice.injEq] at hv'
        obtain ⟨rfl, -, rfl⟩ := hv'
        have ha2 := ha' (by omega)
        simp only [Option.some.injEq, Addr.mk.injEq, and_true] at ha2
        obtain ⟨⟨rfl, rfl⟩, -⟩ := ha2
        go_wp2_with (at_builtin; refine hold_in ?_)
        unfold HoldP
        refine wpList_append elI64 rfl _ _ rfl hown2 rfl (news := (xs.drop k).map (.int .i64)) rfl (by simp) hc'.news ints_one (by omega) (by have := hq2.size; omega) ?_
        intro v2 w3 hown3 hgr hmv2
        have hq3 := (KeptBut.of_grown hgr).below hq2 hq2.size hown2.ge
        go_wp2
        go_ret
        have hdr : ∀ y ∈ xs.drop k, x < y := by
          intro y hy
          rw [List.drop_eq_getElem_cons hlt] at hy
          rcases List.mem_cons.1 hy with rfl | hy
          · have : xs[k] ≠ x := fun h => hx (h ▸ List.getElem_mem hlt)
            omega
          · obtain ⟨j, hj, rfl⟩ := List.getElem_of_mem hy
            rw [List.getElem_drop]
            rw [List.length_drop] at hj
            have h1 := List.pairwise_iff_getElem.1 hs k (k + 1 + j) hlt (by omega) (by omega)
            have : xs[k] ≠ x := fun h => hx (h ▸ List.getElem_mem hlt)
            omega
        refine ⟨v2, k, rfl, hk, hsm, hdr, ?_, hq3⟩
        have e : k + 1 + (xs.length - k) = xs.length + 1 := by omega
        rw [e] at hown3
        simpa [intoL] using hown3
    · obtain rfl : k = xs.length := by omega
      go_wp2_with fail
      refine (l1Copy_any _ _ _ (hv0.take (m := xs.length) (by omega)) (by simp; omega)).mono ?_
      rintro e w1 ⟨u, rfl, hu, hq1⟩
      have hlk : (xs.take xs.length).length = xs.length := by simp
      rw [hlk] at hu
      go_wp2_with (at_builtin; refine hold_in ?_)
      unfold HoldP
      (refine wpList_append1 elI64 rfl _ _ rfl hu rfl rfl rfl (by omega) hq1.size ?_; intro v' w2 hown2 hkept hmv; have hq2 := hkept.below hq1 hq1.size hu.ge)
      go_wp2_with (at_builtin; refine hold_in ?_)
      all_goals
        unfold HoldP
        refine wpList_append0 elI64 rfl _ _ rfl hown2 rfl rfl ?_
        go_wp2
        go_ret
        refine ⟨v', xs.length, rfl, Nat.le_refl _, hsm, by simp, ?_, hq2⟩
        simpa [intoL] using hown2
end Go.Proofs.YtbpjbjeglcphcaaGreatDoor
