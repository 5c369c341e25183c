/- Modules: what splits a set, by the reference and by the program. -/
import Derived.Test.YtbpjbjeglcphcaaBits
import Derived.Test.YtbpjbjeglcphcaaGok
import Derived.StillTailTactics
namespace Go.Proofs.Ytbpjbjeglcphcaa
open Go.RowKit

noncomputable def setOkB (g : List (List Int)) (s : List Int) : Bool := gokB g && riseB s g.length
def rangeI (n : Nat) : List Int := (List.range n).map fun i : Nat => (i : Int)
theorem rangeI_succ (n : Nat) : rangeI (n + 1) = rangeI n ++ [(n : Int)] := by simp [rangeI, List.range_succ]
theorem rangeI_len (n : Nat) : (rangeI n).length = n := by simp [rangeI]
theorem rangeI_get {n i : Nat} (h : i < (rangeI n).length) : (rangeI n)[i] = (i : Int) := by simp [rangeI]
theorem mem_rangeI {n : Nat} {v : Int} : v ∈ rangeI n ↔ 0 ≤ v ∧ v < n := by
  simp only [rangeI, List.mem_map, List.mem_range]
  constructor
  · rintro ⟨i, hi, rfl⟩; omega
  · rintro ⟨h0, h1⟩; exact ⟨v.toNat, by omega, by omega⟩
/-- How many of a set are in a row. -/
def cntIn (set row : List Int) : Nat := (set.filter (fun x => decide (x ∈ row))).length
theorem cntIn_le (set row : List Int) : cntIn set row ≤ set.length := List.length_filter_le _ _
theorem cntIn_take {set row : List Int} {k : Nat} (hk : k < set.length) : cntIn (set.take (k + 1)) row = cntIn (set.take k) row + if set[k] ∈ row then 1 else 0 := by
  unfold cntIn
  rw [List.take_succ_eq_append_getElem hk, List.filter_append, List.length_append]
  by_cases h : set[k] ∈ row <;> simp [h]
def splitsB (g : List (List Int)) (set : List Int) (v : Int) : Bool := decide (0 < cntIn set (g.getD v.toNat [])) && decide (cntIn set (g.getD v.toNat []) < set.length)
def splitAtB (g : List (List Int)) (set : List Int) (v : Int) : Bool := !decide (v ∈ set) && splitsB g set v
def splitterI (g : List (List Int)) (inside set : List Int) : Int := match inside.find? (splitAtB g set) with | some v => v | none => -1
theorem splitter_hit {g : List (List Int)} {inside set : List Int} {k : Nat} (hk : k < inside.length) (h : ∀ v ∈ inside.take k, splitAtB g set v = false) (hb : splitAtB g set inside[k] = true) : splitterI g inside set = inside[k] := by
  have : inside.find? (splitAtB g set) = some inside[k] := by
    have e : inside = inside.take k ++ inside[k] :: inside.drop (k + 1) := by rw [← List.drop_eq_getElem_cons hk, List.take_append_drop]
    have h2 : (inside.take k ++ inside[k] :: inside.drop (k + 1)).find? (splitAtB g set) = some inside[k] := by
      rw [List.find?_append, List.find?_eq_none.2 (fun v hv => by simp [h v hv]), List.find?_cons, hb]
      rfl
    rw [← e] at h2; exact h2
  rw [splitterI, this]
theorem splitter_none {g : List (List Int)} {inside set : List Int} {k : Nat} (hk : inside.length ≤ k) (h : ∀ v ∈ inside.take k, splitAtB g set v = false) : splitterI g inside set = -1 := by
  rw [List.take_of_length_le hk] at h
  rw [splitterI, List.find?_eq_none.2 (fun v hv => by simp [h v hv])]
theorem take_step {α : Type} {P : α → Prop} {xs : List α} {k : Nat} (hk : k < xs.length) (h : ∀ v ∈ xs.take k, P v) (h1 : P xs[k]) : ∀ v ∈ xs.take (k + 1), P v := by
  intro v hv
  rw [List.take_succ_eq_append_getElem hk] at hv
  simp only [List.mem_append, List.mem_singleton] at hv
  rcases hv with hv | rfl
  · exact h v hv
  · exact h1

theorem specSetOk_any {S S' : Nat → Prop} (v u : Value) (g : List (List Int)) (s : List Int) (w : World) (hv : SlR S w v g) (hu : SlI S' w .i64 u s) :
    Calls Try.prog 37 #[.agg #[v], u] w fun e w' => e = .returned (.bool (setOkB g s)) ∧ Below w.heap.size w w' := by
  have hb : Below w.heap.size w (w.alloc (.cells #[v] 30)) := (Below.refl _ _).alloc (Nat.le_refl _) _
  obtain ⟨va, vc, rfl⟩ := hv.slice
  by_cases hg : GOk g
  · have hg1 := gokB_true hg
    have hlo := hg.lo
    have hhi := hg.hi
    go_enter Try.func37, Try.ntmps37
    go_wp2_with fail
    refine (specGraphOk_any _ _ _ (hv.below hb (Nat.le_refl _))).mono ?_
    rintro e w' ⟨rfl, hb2⟩
    have c1 : w'.cell? ⟨w.heap.size, 0, none⟩ = some (.slice va g.length vc) := (hb2.cell (p := ⟨w.heap.size, 0, none⟩) (by simp)).trans (by simp [go_sem])
    have hb3 : Below w.heap.size w (w'.alloc (.cells #[.slice va g.length vc] 30)) := (hb.trans (hb2.mono hb.size)).alloc (Nat.le_trans hb.size hb2.size) _
    have hs : (riseB s g.length) = setOkB g s := by simp [setOkB, hg1]
    have HS := Lib.hid hs; clear hs
    go_wp2_with (first | (go_at_call 55; refine (l1Set_any _ _ _ _ (hu.below hb3 (Nat.le_refl _)) (by omega) (by omega)).mono ?_; rintro e w' ⟨rfl, m, rfl⟩) | go_in)
    go_ret
    exact ⟨ret_bool HS.out, hb3.drewN' _⟩
  · have hg1 := gokB_false hg
    go_enter Try.func37, Try.ntmps37
    go_wp2_with (go_at_call 30; refine (specGraphOk_any _ _ _ (hv.below hb (Nat.le_refl _))).mono ?_; rintro e w' ⟨rfl, hb2⟩)
    go_ret
    exact ⟨ret_bool (by simp [setOkB, hg1]), hb.trans (hb2.mono hb.size)⟩
