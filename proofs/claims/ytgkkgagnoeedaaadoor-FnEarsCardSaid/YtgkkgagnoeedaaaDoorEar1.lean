/- Ears: the program's useEdge and useEar. -/
import Derived.Test.YtgkkgagnoeedaaaDoorEarN
import Derived.Test.YtgkkgagnoeedaaaDoorSmall
namespace Go.Proofs.YtgkkgagnoeedaaaDoor
open Go.RowKit
def useC (a : List Nat) (u x : Nat) : List Nat := if (a.getD u 0).testBit x = true then cutN a u x else a
set_option maxHeartbeats 1000000 in
theorem useEdge_any {B u x : Nat} {v : Value} {a : List Nat} {w : World} (hv : Own w B 82 1 v a.length ((natsI a).map (.int .u32))) (hal : ∀ m ∈ a, m < 4294967296) (hu : u < a.length) (hx : x < a.length) (h16 : a.length ≤ 16) :
    Calls Tryd.prog 139 #[v, .int .i64 (u : Int), .int .i64 (x : Int)] w fun e w' => e = .returned (.bool ((a.getD u 0).testBit x)) ∧ Own w' B 82 1 v a.length ((natsI (useC a u x)).map (.int .u32)) ∧ KeptBut w w' v.ownBlock := by
  obtain ⟨g, c, rfl⟩ := own_some hv (by omega)
  have c1 := own_nat hv hu rfl
  have hm := nat_getD hal u
  have hpart := part_any hv hal hu hx h16
  have HU := Lib.hid (show useC a u x = if (a.getD u 0).testBit x = true then cutN a u x else a from rfl)
  generalize a.getD u 0 = m at *
  by_cases hb : m.testBit x = true
  · have hu2 := HU.out
    rw [if_pos hb] at hu2
    have HU2 := Lib.hid hu2
    clear hu2 HU
    rw [hb]
    go_enter Tryd.func139, Tryd.ntmps139
    go_wp2_with (first | (go_at_call 107; refine (has_any _ _ _ hm (by omega)).mono ?_; rintro e w' ⟨rfl, rfl⟩) | (go_at_call 185; refine hpart.mono ?_; rintro e w' ⟨rfl, hv', hk⟩))
    go_ret
    rw [HU2.out]
    exact ⟨rfl, hv', hk⟩
  · have hb2 : m.testBit x = false := by simpa using hb
    have hu2 := HU.out
    rw [if_neg hb] at hu2
    have HU2 := Lib.hid hu2
    clear hu2 HU hb
    rw [hb2]
    go_enter Tryd.func139, Tryd.ntmps139
    go_wp2_with (go_at_call 107; refine (has_any _ _ _ hm (by omega)).mono ?_; rintro e w' ⟨rfl, rfl⟩)
    go_ret
    rw [HU2.out]
    exact ⟨rfl, hv, KeptBut.refl _ _⟩
/-- The steps that were taken from the edges that are left. -/
def Steps (g : List (List Int)) (U : List NP) (p : List Nat) (first : Bool) (k : Nat) : Prop := ∀ s ∈ (stepsN p first).take k, freeB g U s = true
theorem Steps.zero (g : List (List Int)) (U : List NP) (p : List Nat) (first : Bool) : Steps g U p first 0 := fun s hs => by simp at hs
theorem Steps.next {g : List (List Int)} {U : List NP} {p : List Nat} {first : Bool} {k : Nat} (h : Steps g U p first k) (hk : k < (stepsN p first).length) (hf : freeB g U (stepsN p first)[k] = true) : Steps g U p first (k + 1) := fun s hs => by
  rw [List.take_succ_eq_append_getElem hk, List.mem_append, List.mem_singleton] at hs
  rcases hs with hs | rfl
  · exact h s hs
  · exact hf
theorem Steps.all {g : List (List Int)} {U : List NP} {p : List Nat} {first : Bool} {k : Nat} (h : Steps g U p first k) (hk : (stepsN p first).length ≤ k) : (stepsN p first).all (freeB g U) = true := by
  rw [List.all_eq_true]
  intro s hs
  exact h s (by rw [List.take_of_length_le hk]; exact hs)
theorem Steps.bad {g : List (List Int)} {U : List NP} {p : List Nat} {first : Bool} {k : Nat} (hk : k < (stepsN p first).length) (hf : freeB g U (stepsN p first)[k] = false) : (stepsN p first).all (freeB g U) = false := by
  cases hb : (stepsN p first).all (freeB g U) with
  | false => rfl
  | true =>
    rw [List.all_eq_true] at hb
    have := hb _ (List.getElem_mem hk)
    rw [hf] at this; cases this
def leftK (g : List (List Int)) (U : List NP) (p : List Nat) (first : Bool) (k : Nat) : List Nat := leftN g (useU U ((stepsN p first).take k))
theorem leftK_len (g : List (List Int)) (U : List NP) (p : List Nat) (first : Bool) (k : Nat) : (leftK g U p first k).length = g.length := leftN_len _ _
theorem leftK_zero (g : List (List Int)) (U : List NP) (p : List Nat) (first : Bool) : leftK g U p first 0 = leftN g U := by rw [leftK, List.take_zero, useU_nil]
theorem leftK_bit {g : List (List Int)} (hg : GOk g) {U : List NP} {p : List Nat} {first : Bool} (hp : GP g.length p) (h2 : 2 ≤ p.length) (h3 : first = true → 3 ≤ p.length) {k u x : Nat} (hk : k < (stepsN p first).length) (hs : (stepsN p first)[k] = (u, x)) :
    u < g.length ∧ x < g.length ∧ ((leftK g U p first k).getD u 0).testBit x = freeB g U (stepsN p first)[k] ∧ cutN (leftK g U p first k) u x = leftK g U p first (k + 1) := by
  have h4 := steps_lt (c := first) (show 1 ≤ p.length by omega) hp.1 _ (List.getElem_mem hk)
  rw [hs] at h4
  refine ⟨h4.1, h4.2, ?_, ?_⟩
  · rw [leftK, left_bit hg _ h4.1, ← hs, free_off hp.2 h2 h3]
  · rw [leftK, leftK, useU_take hk, hs, leftN_cut hg _ h4.1 h4.2]
theorem leftK_lt {g : List (List Int)} (hg : GOk g) (U : List NP) (p : List Nat) (first : Bool) (k : Nat) : ∀ m ∈ leftK g U p first k, m < 4294967296 := leftN_lt hg _
end Go.Proofs.YtgkkgagnoeedaaaDoor
