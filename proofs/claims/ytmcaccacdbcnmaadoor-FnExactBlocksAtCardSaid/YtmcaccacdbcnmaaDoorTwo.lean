/- Cut vertices by the reference; TwoConnectedIn of both; the law. -/
import Derived.Test.YtmcaccacdbcnmaaDoorParts3
namespace Go.Proofs.YtmcaccacdbcnmaaDoor
open Go.RowKit
def withoutL (n x k : Nat) : List Int := (rangeI k).filter fun y => !decide (y = (x : Int))
theorem without_succ (n x k : Nat) : withoutL n x (k + 1) = if k = x then withoutL n x k else withoutL n x k ++ [(k : Int)] := by
  unfold withoutL
  rw [rangeI_succ, List.filter_append]
  by_cases h : k = x
  · subst h; simp
  · have h2 : ¬ (k : Int) = (x : Int) := by omega
    simp [h, h2]
theorem without_all {n x : Nat} (hn : n ≤ 16) (hx : x < 32) : withoutL n x n = bitsI (andN (firstN n) (bit x)) := by
  have hf : firstN n < 4294967296 := by have := firstN_lt hn; omega
  have hA := Nat.lt_of_le_of_lt (andN_le (firstN n) (bit x)) hf
  refine sorted_ext ((rangeI_sorted n).filter _) (bitsI_sorted _) fun y => ?_
  unfold withoutL
  rw [List.mem_filter, mem_rangeI, mem_bitsI hA, testBit_andN hf (bit_lt hx), testBit_firstN, testBit_bit]
  simp only [Bool.not_eq_true', decide_eq_false_iff_not, Bool.and_eq_true, decide_eq_true_eq]
  omega
theorem withoutL_len (n x k : Nat) : (withoutL n x k).length ≤ k := by
  unfold withoutL; have := List.length_filter_le (fun y => !decide (y = (x : Int))) (rangeI k); rw [rangeI_len] at this; exact this
theorem maskL_zero {l : List Int} (h : ∀ x ∈ l, 0 ≤ x) : maskL l = 0 ↔ l.length = 0 := by
  constructor
  · intro h0
    cases l with
    | nil => rfl
    | cons x l =>
      have hb := testBit_maskL h x.toNat
      rw [h0, Nat.zero_testBit] at hb
      have hx := h x (by simp)
      have : ((x.toNat : Nat) : Int) = x := Int.toNat_of_nonneg hx
      rw [this] at hb; simp at hb
  · intro h0; rw [List.eq_nil_of_length_eq_zero h0]; rfl
noncomputable def cutsL (g : List (List Int)) (k : Nat) : List Int := (rangeI k).filter (cutB (netsL g) (firstN g.length))
theorem cutsL_succ (g : List (List Int)) (k : Nat) : cutsL g (k + 1) = if cutB (netsL g) (firstN g.length) (k : Int) = true then cutsL g k ++ [(k : Int)] else cutsL g k := by
  unfold cutsL
  rw [rangeI_succ, List.filter_append]
  cases h : cutB (netsL g) (firstN g.length) (k : Int) <;> simp [h]
theorem cutsL_len (g : List (List Int)) (k : Nat) : (cutsL g k).length ≤ k := by
  unfold cutsL; have := List.length_filter_le (cutB (netsL g) (firstN g.length)) (rangeI k); rw [rangeI_len] at this; exact this
noncomputable def twoB (g : List (List Int)) : Bool := gokB g && (decide (3 ≤ g.length) && (decide ((partsN (netsL g) (firstN g.length)).length = 1) && decide ((cutsL g g.length).length = 0)))
theorem SlI.empty' (S : Nat → Prop) (w : World) (k : IntKind) (a : Option Addr) : SlI S w k (.slice a 0 0) [] := ⟨a, 0, 0, 0, rfl, by simp, fun h => by simp at h, fun i hi => by simp at hi⟩
theorem adj_false (a : List Nat) : adjN a false = a := by simp [adjN]
set_option maxHeartbeats 2000000 in
theorem l19Without_any {S : Nat → Prop} {v : Value} {g : List (List Int)} {x : Nat} {w : World} (hv : SlR S w v g) (h16 : g.length ≤ 16) (hx : x < 32) :
    Calls Tryd.prog 110 #[.agg #[v], .int .i64 (x : Int)] w fun e w' => ∃ u, e = .returned u ∧ OwnB w' w.heap.size 2 u (andN (firstN g.length) (bit x)) ∧ Below w.heap.size w w' := by
  have hq0 : Below w.heap.size w (w.alloc (.cells #[v] 28)) := (Below.refl _ _).alloc (Nat.le_refl _) _
  obtain ⟨va, vc, rfl⟩ := hv.slice
  have hall := without_all (n := g.length) h16 hx
  have HA := Lib.hid hall; clear hall
  go_enter Tryd.func110, Tryd.ntmps110
  go_wp2
  go_loopw [5, 6] (fun o i wr => ∃ k : Nat, k ≤ g.length ∧ i = .int .i64 k ∧ Own wr (w.heap.size + 1) 2 1 o (withoutL g.length x k).length ((withoutL g.length x k).map (.int .i64)) ∧ Below w.heap.size w wr ∧ wr.cell? ⟨w.heap.size, 0, none⟩ = some (.slice va g.length vc)) (fun _ i _ => g.length - (intOf i).toNat)
  case atStart =>
    refine ⟨0, Nat.zero_le _, rfl, ?_, hq0.alloc hq0.size _, by simp [go_sem]⟩
    have := World.ownsRow_lit (base := w.heap.size + 1) (e := 2) (size := 1) (w.alloc (.cells #[.slice va g.length vc] 28)) #[] 0 (by simp) (by unfold maxLen; omega) rfl
    simpa [Own, withoutL, rangeI] using this
  case round =>
    obtain ⟨k, hk, rfl, hown, hq, hbx⟩ := hrel
    have hB := hq.size
    have hB2 : w.heap.size + 1 ≤ wr.heap.size := cell_lt hbx
    have hwl := withoutL_len g.length x k
    have hws := without_succ g.length x k
    have HWS := Lib.hid hws; clear hws
    by_cases hlt : k < g.length
    · by_cases hkx : k = x
      · have hb1 : ((k : Int) != (x : Int)) = false := by rw [bne_eq_false_iff_eq]; omega
        have hb2 : (k != x) = false := by rw [bne_eq_false_iff_eq]; omega
        have hs := HWS.out; rw [if_pos hkx] at hs
        have HS := Lib.hid hs; clear hs HWS hkx
        go_wp2
        go_roundw
        case rel => exact ⟨k + 1, by omega, by go_num, by rw [HS.out]; exact hown, hq, hbx⟩
        case measure => simp [intOf]; omega
      · have hb1 : ((k : Int) != (x : Int)) = true := by rw [bne_iff_ne]; omega
        have hb2 : (k != x) = true := by rw [bne_iff_ne]; omega
        have hs := HWS.out; rw [if_neg hkx] at hs
        have HS := Lib.hid hs; clear hs HWS hkx
        go_wp2_with (at_builtin; refine wpList_append1 elI64 rfl _ _ rfl hown rfl rfl rfl (by omega) hB2 ?_; intro v' w2 hown1 hkept hmv)
        go_roundw
        case rel =>
          refine ⟨k + 1, by omega, by go_num, by rw [HS.out]; simpa using hown1, hkept.below hq hB (fun b hb => by have := hown.ge b hb; omega), ?_⟩
          exact (World.cell?_of_block (a := ⟨w.heap.size, 0, none⟩) (hkept.2.2.2.2 w.heap.size (cell_lt hbx) (fun e => by have := hown.ge _ e.symm; omega))).trans hbx
        case measure => simp [intOf]; omega
    · obtain rfl : k = g.length := by omega
      clear HWS
      go_wp2
      go_ret
      refine ⟨_, rfl, ?_, hq⟩
      unfold OwnB
      rw [← HA.out]
      exact hown.weak (by omega)
