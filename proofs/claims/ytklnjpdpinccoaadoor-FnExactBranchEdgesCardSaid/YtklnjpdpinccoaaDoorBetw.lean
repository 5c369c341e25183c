/- Is there an edge between two sets? By the reference. -/
import Derived.Test.YtklnjpdpinccoaaDoorEdge
import Derived.Test.YtklnjpdpinccoaaDoorFar
namespace Go.Proofs.YtklnjpdpinccoaaDoor
open Go.RowKit
def tst (A B : List Int) (e : List Int) : Bool := decide (e.getD 0 0 ∈ A) && decide (e.getD 1 0 ∈ B) || decide (e.getD 1 0 ∈ A) && decide (e.getD 0 0 ∈ B)
def betwB (g : List (List Int)) (A B : List Int) : Bool := (edgesL g).any (tst A B)
set_option maxHeartbeats 1000000 in
theorem EdgesOf_any {S : Nat → Prop} {v : Value} {g : List (List Int)} {w : World} (hg : GOk g) (hv : SlR S w v g) :
    Calls Tryd.prog 61 #[.agg #[v]] w fun e w' => ∃ u, e = .returned u ∧ OwnR w' w.heap.size w'.heap.size 34 2 u (edgesL g) ∧ Below w.heap.size w w' := by
  have hq0 : Below w.heap.size w (w.alloc (.cells #[v] 27)) := (Below.refl _ _).alloc (Nat.le_refl _) _
  obtain ⟨va, vc, rfl⟩ := hv.slice
  have hgo := specGraphOk_any _ _ _ (hv.below hq0 (Nat.le_refl _))
  rw [gokB_iff.2 hg] at hgo
  go_enter Tryd.func61, Tryd.ntmps61
  go_wp2_with fail
  refine hgo.mono ?_
  rintro e w1 ⟨rfl, hb1⟩
  have hq1 := hq0.trans (hb1.mono hq0.size)
  have c3 : w1.cell? ⟨w.heap.size, 0, none⟩ = some (.slice va g.length vc) := (hb1.cell (p := ⟨w.heap.size, 0, none⟩) (by simp; try omega)).trans (by simp [go_sem])
  clear hgo
  go_wp2_with fail
  refine (l1Edges_any hg (hv.below hq1 (Nat.le_refl _))).mono ?_
  rintro e w2 ⟨u, rfl, hu, hb2⟩
  obtain ⟨ua, uc, rfl⟩ := hu.isSlice
  go_wp2
  go_ret
  exact ⟨_, rfl, hu.weaken hq1.size (Nat.le_refl _), hq1.trans (hb2.mono hq1.size)⟩
set_option maxRecDepth 100000 in
set_option maxHeartbeats 4000000 in
theorem l21Between_any {S SA SB : Nat → Prop} {v av bv : Value} {g : List (List Int)} {A B : List Int} {w : World} (hg : GOk g) (hv : SlR S w v g) (hA : SlI SA w .i64 av A) (hB : SlI SB w .i64 bv B) :
    Calls Tryd.prog 62 #[.agg #[v], av, bv] w fun e w' => ∃ r, e = .returned (.tuple #[r, .bool (betwB g A B)]) ∧ Below w.heap.size w w' := by
  have hq0 : Below w.heap.size w (w.alloc (.cells #[v] 27)) := (Below.refl _ _).alloc (Nat.le_refl _) _
  have hsm := edges_small hg
  obtain ⟨va, vc, rfl⟩ := hv.slice
  obtain ⟨aa, ac, rfl⟩ := hA.slice
  obtain ⟨ba, bc, rfl⟩ := hB.slice
  have hed := EdgesOf_any hg (hv.below hq0 (Nat.le_refl _))
  go_enter Tryd.func62, Tryd.ntmps62
  go_wp2_with fail
  refine hed.mono ?_
  rintro e w1 ⟨u1, rfl, hu1, hb1⟩
  have hq1 := hq0.trans (hb1.mono hq0.size)
  have hE := hu1.rows hsm
  have hel : (edgesL g).length ≤ 1048576 := by have := hsm.1; omega
  have HB := Lib.hid (show betwB g A B = (edgesL g).any (tst A B) from rfl)
  have HM := Lib.hid (fun k (hk : k < (edgesL g).length) => mem_edgesTo.1 (show (edgesL g)[k] ∈ edgesTo g g.length from List.getElem_mem hk))
  generalize edgesL g = E at hE hel HB HM
  obtain ⟨ea, eb, eo, ecap, ef, rfl, hl, hea, hec⟩ := hE
  clear hed hu1
  go_wp2
  go_loopw [9] (fun i wr => ∃ k : Nat, k ≤ E.length ∧ i = .int .i64 k ∧ RowKit.Hid (∀ e ∈ E.take k, tst A B e = false) ∧ Drawn w1 wr) (fun i _ => E.length - (intOf i).toNat)
  case atStart => exact ⟨0, Nat.zero_le _, rfl, Lib.hid (by simp), Drawn.refl _⟩
  case round =>
    obtain ⟨k, hk, rfl, HN, hd⟩ := hrel
    have hq := hq1.trans (hd.below _)
    by_cases hlt : k < E.length
    case neg =>
      obtain rfl : k = E.length := by omega
      have HF := Lib.hid (show betwB g A B = false by
        rw [HB.out]
        have := HN.out
        rw [List.take_length] at this
        exact List.any_eq_false.2 fun x hx => by rw [this x hx]; simp)
      have hqe := hq.alloc hq.size (.cells #[] 2)
      go_wp2
      go_ret2
      rw [HF.out]
      exact ⟨_, rfl, hqe⟩
    obtain ⟨hcell, hrow⟩ := hec k hlt
    obtain ⟨rfl, -⟩ := hea (by omega)
    obtain ⟨u, hu, z, hz, huz, hek⟩ := HM.out k hlt
    rw [hek] at hrow
    obtain ⟨ra, rb, ro, rc, hre, hrl, hra, hrc⟩ := hrow
    obtain ⟨rfl, -⟩ := hra (by simp)
    rw [hre] at hcell
    have c0 := hrc 0 (by simp)
    have c1 := hrc 1 (by simp)
    simp only [List.length_cons, List.length_nil, Nat.zero_add, List.getElem_cons_zero, List.getElem_cons_succ, Nat.add_zero] at hcell c0 c1
    have hcell := (hd.cell _).trans hcell
    have c0 := (hd.cell _).trans c0
    have c1 := (hd.cell _).trans c1
    have h1 := l1Has_any _ _ (u : Int) wr (hA.below hq (Nat.le_refl _))
    have h2 := l1Has_any _ _ z wr (hB.below hq (Nat.le_refl _))
    have h3 := l1Has_any _ _ z wr (hA.below hq (Nat.le_refl _))
    have h4 := l1Has_any _ _ (u : Int) wr (hB.below hq (Nat.le_refl _))
    have htk : E.take (k + 1) = E.take k ++ [E[k]] := List.take_succ_eq_append_getElem hlt
    have hmE : E[k] ∈ E := List.getElem_mem hlt
    have ht : tst A B E[k] = (decide ((u : Int) ∈ A) && decide (z ∈ B) || decide (z ∈ A) && decide ((u : Int) ∈ B)) := by rw [hek]; rfl
    have hnx : tst A B E[k] = false → ∀ e ∈ E.take (k + 1), tst A B e = false := fun h e he => by
      rw [htk, List.mem_append, List.mem_singleton] at he
      rcases he with he | rfl
      · exact HN.out e he
      · exact h
    have hyes : tst A B E[k] = true → betwB g A B = true := fun h => by rw [HB.out]; exact List.any_eq_true.2 ⟨_, hmE, h⟩
    rw [ht] at hnx hyes
    clear hek htk hmE ht hre hrc
    generalize decide ((u : Int) ∈ A) = b1 at *
    generalize decide (z ∈ B) = b2 at *
    generalize decide (z ∈ A) = b3 at *
    generalize decide ((u : Int) ∈ B) = b4 at *
    cases b1 <;> cases b2 <;> cases b3 <;> cases b4
    all_goals
      first
      | (have HY := Lib.hid (hyes rfl); clear hyes hnx
         go_wp2_with (go_at_call 80; first | ((with_reducible refine h1.mono ?_); rintro e w' ⟨rfl, rfl⟩) | ((with_reducible refine h2.mono ?_); rintro e w' ⟨rfl, rfl⟩) | ((with_reducible refine h3.mono ?_); rintro e w' ⟨rfl, rfl⟩) | ((with_reducible refine h4.mono ?_); rintro e w' ⟨rfl, rfl⟩))
         go_ret2
         rw [HY.out]
         exact ⟨_, rfl, hq⟩)
      | (have HNX := Lib.hid (hnx rfl); clear hyes hnx
         go_wp2_with (go_at_call 80; first | ((with_reducible refine h1.mono ?_); rintro e w' ⟨rfl, rfl⟩) | ((with_reducible refine h2.mono ?_); rintro e w' ⟨rfl, rfl⟩) | ((with_reducible refine h3.mono ?_); rintro e w' ⟨rfl, rfl⟩) | ((with_reducible refine h4.mono ?_); rintro e w' ⟨rfl, rfl⟩))
         go_roundw
         case rel => exact ⟨k + 1, by omega, by go_num, HNX, hd⟩
         case measure => simp [intOf]; omega)
end Go.Proofs.YtklnjpdpinccoaaDoor
