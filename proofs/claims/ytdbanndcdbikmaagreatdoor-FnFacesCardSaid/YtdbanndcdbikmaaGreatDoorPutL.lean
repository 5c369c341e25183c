/- The reference's l19Ahead and l19Put: a list put among others in order; l19Has. -/
import Derived.Test.YtdbanndcdbikmaaGreatDoorFacM
import Derived.Test.YtdbanndcdbikmaaGreatDoorOwnS
import Derived.Test.YtdbanndcdbikmaaGreatDoorPairs
namespace Go.Proofs.YtdbanndcdbikmaaGreatDoor
open Go.RowKit
/-- Where x is put in. -/
def putK (g : List (List Int)) (x : List Int) : Nat := (g.takeWhile fun y => decide (cmpL y x < 0)).length
def putL (g : List (List Int)) (x : List Int) : List (List Int) := if g[putK g x]? = some x then g else g.take (putK g x) ++ [x] ++ g.drop (putK g x)
def LtL (x y : List Int) : Prop := cmpL x y < 0
def aheadB (xs ys : List Int) : Bool := decide (cmpL xs ys < 0)
set_option maxHeartbeats 2000000 in
theorem l1SameP_any {S S' : Nat → Prop} (v u : Value) (xs ys : List Int) (w : World) (hv : SlI S w .i64 v xs) (hu : SlI S' w .i64 u ys) :
    Calls Tryz.prog 127 #[v, u] w fun e w' => e = .returned (.bool (decide (xs = ys))) ∧ Drawn w w' := by
  obtain ⟨a, b, off, cap, rfl, hl, ha, hc0⟩ := hv
  obtain ⟨a', b', off', cap', rfl, hl', ha', hc0'⟩ := hu
  by_cases hne : xs.length = ys.length
  · have hn0 : ((xs.length : Int) != ys.length) = false := by simp [hne]
    have HN := Lib.hid hne; clear hne
    go_enter Tryz.func127, Tryz.ntmps127
    go_wp2
    go_loopw [5] (fun i wr => ∃ k : Nat, k ≤ xs.length ∧ i = .int .i64 k ∧ xs.take k = ys.take k ∧ Drawn w wr) (fun i _ => xs.length - (intOf i).toNat)
    case atStart => exact ⟨0, Nat.zero_le _, rfl, rfl, Drawn.refl _⟩
    case round =>
      obtain ⟨k, hk, rfl, he, hq⟩ := hrel
      have HE := Lib.hid he; clear he
      have hc := hc0.drawn hq
      have hc' := hc0'.drawn hq
      by_cases hlt : k < xs.length
      · have hlt' : k < ys.length := by have := HN.out; omega
        have hcell := hc k hlt
        have hcell' := hc' k hlt'
        obtain ⟨rfl, hS⟩ := ha (by omega)
        obtain ⟨rfl, hS'⟩ := ha' (by omega)
        by_cases heq : xs[k] = ys[k]
        · have hb : (xs[k] != ys[k]) = false := by simp [heq]
          have HQ := Lib.hid heq; clear heq
          go_wp2
          go_quiet (fail)
          go_wp2
          go_roundw
          case rel =>
            refine ⟨k + 1, by omega, by go_num, ?_, hq.drewN _⟩
            rw [List.take_succ_eq_append_getElem hlt, List.take_succ_eq_append_getElem hlt', HE.out, HQ.out]
          case measure => simp [intOf]; omega
        · have hb : (xs[k] != ys[k]) = true := by simpa using heq
          go_wp2
          go_quiet (fail)
          go_wp2
          go_ret
          exact ⟨ret_bool (by have : ¬ xs = ys := fun h => heq (by subst h; rfl)
                              simp [this]), hq.drewN _⟩
      · go_wp2
        go_ret
        refine ⟨ret_bool ?_, hq⟩
        have h1 := HE.out
        rw [List.take_of_length_le (by omega), List.take_of_length_le (by have := HN.out; omega)] at h1
        simp [h1]
  · have hn0 : ((xs.length : Int) != ys.length) = true := by rw [bne_iff_ne]; omega
    go_enter Tryz.func127, Tryz.ntmps127
    go_wp2
    go_ret
    exact ⟨ret_bool (by have : ¬ xs = ys := fun h => hne (by subst h; rfl)
                        simp [this]), Drawn.refl _⟩
