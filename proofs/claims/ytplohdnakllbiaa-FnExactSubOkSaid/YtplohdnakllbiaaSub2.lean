/- The hubs of a pattern and the pairs of places that are joined, of both. -/
import Derived.Test.YtplohdnakllbiaaEar4
namespace Go.Proofs.Ytplohdnakllbiaa
open Go.RowKit
/-- How many hubs stand on each side. -/
def side1 (k : Int) : Nat := if k = 1 then 5 else if k = 2 then 3 else if k = 3 then 4 else if k = 4 then 2 else 0
def side2 (k : Int) : Nat := if k = 2 then 3 else if k = 4 then 3 else 0
theorem side1_le (k : Int) : side1 k ≤ 5 := by unfold side1; repeat (split <;> try omega)
theorem side2_le (k : Int) : side2 k ≤ 3 := by unfold side2; repeat (split <;> try omega)
def rowPairs (a b i : Nat) : List NP := (if b = 0 then (List.range (a - (i + 1))).map (fun d => (i, i + 1 + d)) else []) ++ (List.range b).map (fun d => (i, a + d))
def pairsTo (a b : Nat) : Nat → List NP
  | 0 => []
  | i + 1 => pairsTo a b i ++ rowPairs a b i
def pairsK (k : Int) : List NP := pairsTo (side1 k) (side2 k) (side1 k)
theorem rowPairs_len (a b i : Nat) : (rowPairs a b i).length ≤ a + b := by
  unfold rowPairs
  rw [List.length_append, List.length_map, List.length_range]
  split
  · rw [List.length_map, List.length_range]; omega
  · simp
theorem pairsTo_len (a b : Nat) : ∀ i, (pairsTo a b i).length ≤ (a + b) * i
  | 0 => by simp [pairsTo]
  | i + 1 => by
    have h1 := pairsTo_len a b i
    have h2 := rowPairs_len a b i
    rw [pairsTo, List.length_append, Nat.mul_succ]; omega
theorem pairsTo_small {a b : Nat} (ha : a ≤ 5) (hb : b ≤ 3) {i : Nat} (hi : i ≤ a) : (pairsTo a b i).length ≤ 40 := by
  have h := pairsTo_len a b i
  have : (a + b) * i ≤ 8 * 5 := Nat.mul_le_mul (by omega) (by omega)
  omega
theorem pairs_lt (a b : Nat) : ∀ i, i ≤ a → ∀ s ∈ pairsTo a b i, s.1 < a + b ∧ s.2 < a + b
  | 0, _, s, hs => by simp [pairsTo] at hs
  | i + 1, hi, s, hs => by
    rw [pairsTo, List.mem_append] at hs
    rcases hs with hs | hs
    · exact pairs_lt a b i (by omega) s hs
    · rw [rowPairs, List.mem_append] at hs
      rcases hs with hs | hs
      · split at hs
        · obtain ⟨d, hd, rfl⟩ := List.mem_map.1 hs
          have := List.mem_range.1 hd
          exact ⟨by show i < _; omega, by show i + 1 + d < _; omega⟩
        · simp at hs
      · obtain ⟨d, hd, rfl⟩ := List.mem_map.1 hs
        have := List.mem_range.1 hd
        exact ⟨by show i < _; omega, by show a + d < _; omega⟩
theorem sides_spec (k : Int) (w : World) : Calls Try.prog 63 #[.int .i64 k] w fun e w' => e = .returned (.tuple #[.int .i64 (side1 k), .int .i64 (side2 k)]) ∧ w = w' := by
  by_cases h1 : k = 1
  · subst h1
    go_enter Try.func63, Try.ntmps63
    go_wp2
    go_ret2
    exact ⟨rfl, rfl⟩
  by_cases h2 : k = 2
  · subst h2
    go_enter Try.func63, Try.ntmps63
    go_wp2
    go_ret2
    exact ⟨rfl, rfl⟩
  by_cases h3 : k = 3
  · subst h3
    go_enter Try.func63, Try.ntmps63
    go_wp2
    go_ret2
    exact ⟨rfl, rfl⟩
  by_cases h4 : k = 4
  · subst h4
    go_enter Try.func63, Try.ntmps63
    go_wp2
    go_ret2
    exact ⟨rfl, rfl⟩
  · have e1 : side1 k = 0 := by simp [side1, h1, h2, h3, h4]
    have e2 : side2 k = 0 := by simp [side2, h2, h4]
    rw [e1, e2]
    go_enter Try.func63, Try.ntmps63
    go_wp2
    go_ret2
    exact ⟨rfl, rfl⟩
theorem sides_impl (k : Int) (w : World) : Calls Try.prog 69 #[.int .i64 k] w fun e w' => e = .returned (.tuple #[.int .i64 (side1 k), .int .i64 (side2 k)]) ∧ w = w' := by
  by_cases h1 : k = 1
  · subst h1
    go_enter Try.func69, Try.ntmps69
    go_wp2
    go_ret2
    exact ⟨rfl, rfl⟩
  by_cases h2 : k = 2
  · subst h2
    go_enter Try.func69, Try.ntmps69
    go_wp2
    go_ret2
    exact ⟨rfl, rfl⟩
  by_cases h3 : k = 3
  · subst h3
    go_enter Try.func69, Try.ntmps69
    go_wp2
    go_ret2
    exact ⟨rfl, rfl⟩
  by_cases h4 : k = 4
  · subst h4
    go_enter Try.func69, Try.ntmps69
    go_wp2
    go_ret2
    exact ⟨rfl, rfl⟩
  · have e1 : side1 k = 0 := by simp [side1, h1, h2, h3, h4]
    have e2 : side2 k = 0 := by simp [side2, h2, h4]
    rw [e1, e2]
    go_enter Try.func69, Try.ntmps69
    go_wp2
    go_ret2
    exact ⟨rfl, rfl⟩
/-- A slice of n elements. -/
def HasLen (n : Nat) (w : World) (e : Ending) (w' : World) : Prop := ∃ a c, e = .returned (.slice a n c) ∧ Below w.heap.size w w'
theorem elPairs : Elem Try.prog 53 59 1 24 (.slice none 0 0) := ⟨Try.underlying53, by kernel_rfl, rfl, by omega, by omega⟩
set_option maxRecDepth 100000 in
set_option maxHeartbeats 4000000 in
theorem pairsSpec_any (k : Int) (w : World) : Calls Try.prog 30 #[.int .i64 k] w fun e w' => ∃ u, e = .returned u ∧ OwnS w' w.heap.size 59 u (rowsP (pairsK k)) ∧ Below w.heap.size w w' := by
  have ha := side1_le k
  have hb := side2_le k
  have HPK := Lib.hid (show pairsK k = pairsTo (side1 k) (side2 k) (side1 k) from rfl)
  have hsd := sides_spec k
  generalize side1 k = a at *
  generalize side2 k = b at *
  have hq0 : Below w.heap.size w (w.alloc (.cells #[] 59)) := (Below.refl _ _).alloc (Nat.le_refl _) _
  have hS0 := OwnS.empty w w.heap.size 59 (Nat.le_refl _)
  go_enter Try.func30, Try.ntmps30
  go_wp2_with (go_at_call 63; refine (hsd _).mono ?_; rintro e w' ⟨rfl, rfl⟩)
  go_loopw [5, 6] (fun o i wr => ∃ i' : Nat, i' ≤ a ∧ i = .int .i64 i' ∧ OwnS wr w.heap.size 59 o (rowsP (pairsTo a b i')) ∧ Below w.heap.size w wr) (fun _ i _ => a - (intOf i).toNat)
  case atStart => exact ⟨0, Nat.zero_le _, rfl, by simpa [rowsP, pairsTo] using hS0, hq0⟩
  case round =>
    clear hS0 hq0
    obtain ⟨i, hi, rfl, hS, hq⟩ := hrel
    have hsm := pairsTo_small ha hb hi
    obtain ⟨oa, oc, rfl⟩ := hS.isSlice
    by_cases hlt : i < a
    case neg =>
      obtain rfl : i = a := by omega
      rw [← HPK.out] at hS
      go_wp2
      go_ret
      exact ⟨.slice oa (rowsP (pairsTo i b i)).length oc, rfl, by rw [← HPK.out]; exact hS, hq⟩
    have HST := Lib.hid (show pairsTo a b (i + 1) = pairsTo a b i ++ rowPairs a b i from rfl)
    by_cases hb0 : b = 0
    case neg =>
      have HRP := Lib.hid (show rowPairs a b i = ([] : List NP) ++ (List.range b).map (fun d => (i, a + d)) by rw [rowPairs, if_neg hb0])
      have hx1 : ((b : Int) == 0) = false := by rw [beq_eq_false_iff_ne]; omega
      have hx2 : (b == 0) = false := by rw [beq_eq_false_iff_ne]; exact hb0
      have hfl : (pairsTo a b i ++ ([] : List NP)).length ≤ 60 := by rw [List.append_nil]; omega
      have hS2 : OwnS wr w.heap.size 59 (.slice oa (rowsP (pairsTo a b i)).length oc) (rowsP (pairsTo a b i ++ ([] : List NP))) := by rw [List.append_nil]; exact hS
      have hq2 := hq
      clear hS hq
      go_wp2
      go_loopw [5, 8] (fun o jv wr => ∃ d : Nat, d ≤ b ∧ jv = .int .i64 d ∧ OwnS wr w.heap.size 59 o (rowsP (pairsTo a b i ++ ([] : List NP) ++ (List.range d).map (fun d => (i, a + d)))) ∧ Below w.heap.size w wr) (fun _ jv _ => b - (intOf jv).toNat)
      case atStart => exact ⟨0, Nat.zero_le _, rfl, by simpa using hS2, hq2⟩
      case round =>
        clear hS2 hq2
        obtain ⟨d, hd, rfl, hS, hq⟩ := hrel
        obtain ⟨wi, rfl⟩ : ∃ wx : World, wx = wr := ⟨_, rfl⟩
        obtain ⟨oa, oc, rfl⟩ := hS.isSlice
        by_cases hld : d < b
        case neg =>
          have hde : d = b := by omega
          have HX := Lib.hid (show pairsTo a b i ++ ([] : List NP) ++ (List.range d).map (fun d => (i, a + d)) = pairsTo a b i ++ rowPairs a b i by rw [HRP.out, List.append_assoc, hde])
          clear hde
          have hS3 : OwnS wi w.heap.size 59 (.slice oa (rowsP (pairsTo a b i ++ ([] : List NP) ++ (List.range d).map (fun d => (i, a + d)))).length oc) (rowsP (pairsTo a b (i + 1))) := by rw [HST.out, ← HX.out]; exact hS
          go_wp2
          go_roundw
          case rel => exact ⟨i + 1, by omega, by go_num, hS3, hq⟩
          case measure => simp [intOf]; omega
        have hll : (pairsTo a b i ++ ([] : List NP) ++ (List.range d).map (fun d => (i, a + d))).length ≤ 100 := by have h := hfl; simp only [List.length_append, List.length_map, List.length_range] at h ⊢; omega
        have HNX := Lib.hid (show pairsTo a b i ++ ([] : List NP) ++ (List.range (d + 1)).map (fun d => (i, a + d)) = pairsTo a b i ++ ([] : List NP) ++ (List.range d).map (fun d => (i, a + d)) ++ [(i, a + d)] by rw [List.range_succ, List.map_append]; simp)
        have hw9 : IntKind.i64.wrap ((a : Int) + (d : Int)) = (a : Int) + (d : Int) := IntWalk.i64_in _ (by omega)
        have hba : Below wi.heap.size wi (wi.alloc (.cells #[.int .i64 (i : Int), .int .i64 ((a : Int) + (d : Int))] 3)) := (Below.refl _ _).alloc (Nat.le_refl _) _
        have hnew := (lit2 wi 3 (i : Int) ((a : Int) + (d : Int)) hq.size).2
        have hob : ∀ q, (Value.slice oa (rowsP (pairsTo a b i ++ ([] : List NP) ++ (List.range d).map (fun d => (i, a + d)))).length oc).ownBlock = some q → q < wi.heap.size := by obtain ⟨_, _, ho, _⟩ := hS; intro q hq; exact (ho.lt q hq).2
        have hnew2 := (lit2 wi 3 (i : Int) ((a : Int) + (d : Int)) (Nat.le_refl wi.heap.size)).2
        have hB1 := hq.size
        have HLT := Lib.hid (show rowsP (pairsTo a b i ++ ([] : List NP) ++ (List.range d).map (fun d => (i, a + d)) ++ [(i, a + d)]) = rowsP (pairsTo a b i ++ ([] : List NP) ++ (List.range d).map (fun d => (i, a + d))) ++ [[(i : Int), ((a : Int) + (d : Int))]] by rw [rowsP_app]; first | rfl | (simp [rowsP, rowP]))
        obtain ⟨vs, hvl, hown, hrows⟩ := hS.below hba (Nat.le_refl _)
        have hq2 := hq.trans (hba.mono hq.size)
        have hFl : (rowsP (pairsTo a b i ++ ([] : List NP) ++ (List.range d).map (fun d => (i, a + d)))).length ≤ 100 := by rw [rowsP_len]; first | assumption | omega
        generalize rowsP (pairsTo a b i ++ ([] : List NP) ++ (List.range d).map (fun d => (i, a + d))) = FF at *
        go_wp2_with (at_builtin; refine wpList_append1b elPairs rfl _ _ rfl hown rfl (by first | rfl | simp) rfl rfl (by omega) (by simp; omega) ?_; intro o5 w5 hown5 hkept hmv; obtain ⟨oa5, oc5, rfl⟩ := hown5.isSlice)
        have hS5 : OwnS w5 w.heap.size 59 (.slice oa5 (FF.length + 1) oc5) (FF ++ [[(i : Int), ((a : Int) + (d : Int))]]) := OwnS.app (news := [.slice (some ⟨wi.heap.size, 0, none⟩) 2 2]) hvl rfl hrows (fun i hi hi2 => by
          obtain rfl : i = 0 := by simp at hi; omega
          exact hnew2.low3S.weak (fun q hq => ⟨by have := hq.1; omega, hq.2, fun e => by have := hob q e; have := hq.1; omega⟩)) hown5 hkept hmv (by simp)
        have hq5 := hkept.below hq2 hq2.size (fun b hb => (hown.lt b hb).1)
        go_roundw
        case rel => exact ⟨d + 1, by omega, by go_num, by rw [HNX.out, HLT.out]; exact hS5, hq5⟩
        case measure => simp [intOf]; omega
    have HRP := Lib.hid (show rowPairs a b i = (List.range (a - (i + 1))).map (fun d => (i, i + 1 + d)) ++ (List.range b).map (fun d => (i, a + d)) by rw [rowPairs, if_pos hb0])
    have hx1 : ((b : Int) == 0) = true := by rw [beq_iff_eq]; omega
    have hx2 : (b == 0) = true := by rw [beq_iff_eq]; exact hb0
    have HB0 := Lib.hid hb0
    have hw1 : IntKind.i64.wrap ((i : Int) + 1) = (i : Int) + 1 := IntWalk.i64_in _ (by omega)
    clear hb0
    go_wp2
    go_loopw [5, 7] (fun o kv wr => ∃ d : Nat, d ≤ a - (i + 1) ∧ kv = .int .i64 ((i + 1 + d : Nat) : Int) ∧ OwnS wr w.heap.size 59 o (rowsP (pairsTo a b i ++ (List.range d).map (fun d => (i, i + 1 + d)))) ∧ Below w.heap.size w wr) (fun _ kv _ => a - (intOf kv).toNat)
    case atStart => exact ⟨0, Nat.zero_le _, by go_num, by simpa using hS, hq⟩
    case round =>
      clear hS hq
      obtain ⟨d, hd, rfl, hS, hq⟩ := hrel
      obtain ⟨wi, rfl⟩ : ∃ wx : World, wx = wr := ⟨_, rfl⟩
      obtain ⟨oa, oc, rfl⟩ := hS.isSlice
      have hll : (pairsTo a b i ++ (List.range d).map (fun d => (i, i + 1 + d))).length ≤ 60 := by simp only [List.length_append, List.length_map, List.length_range]; omega
      by_cases hld : i + 1 + d < a
      case neg =>
        have hde : d = a - (i + 1) := by omega
        have hfl : (pairsTo a b i ++ (List.range (a - (i + 1))).map (fun d => (i, i + 1 + d))).length ≤ 60 := by rw [← hde]; exact hll
        have hS2 : OwnS wi w.heap.size 59 (.slice oa (rowsP (pairsTo a b i ++ (List.range d).map (fun d => (i, i + 1 + d)))).length oc) (rowsP (pairsTo a b i ++ (List.range (a - (i + 1))).map (fun d => (i, i + 1 + d)))) := by have h := hS; rw [← hde]; exact h
        have hq2 := hq
        obtain ⟨kv, hkv⟩ : ∃ kv : Int, ((i + 1 + d : Nat) : Int) = kv := ⟨_, rfl⟩
        rw [hkv]
        have hz1 : decide (kv < (a : Int)) = false := decide_eq_false (by omega)
        clear hS hq hde hkv hld hd hll
        go_wp2
        go_loopw [5, 8] (fun o jv wr => ∃ d : Nat, d ≤ b ∧ jv = .int .i64 d ∧ OwnS wr w.heap.size 59 o (rowsP (pairsTo a b i ++ (List.range (a - (i + 1))).map (fun d => (i, i + 1 + d)) ++ (List.range d).map (fun d => (i, a + d)))) ∧ Below w.heap.size w wr) (fun _ jv _ => b - (intOf jv).toNat)
        case atStart => exact ⟨0, Nat.zero_le _, rfl, by simpa using hS2, hq2⟩
        case round =>
          clear hS2 hq2
          obtain ⟨d, hd, rfl, hS, hq⟩ := hrel
          obtain ⟨wi, rfl⟩ : ∃ wx : World, wx = wr := ⟨_, rfl⟩
          obtain ⟨oa, oc, rfl⟩ := hS.isSlice
          by_cases hld : d < b
          case neg =>
            have hde : d = b := by omega
            have HX := Lib.hid (show pairsTo a b i ++ (List.range (a - (i + 1))).map (fun d => (i, i + 1 + d)) ++ (List.range d).map (fun d => (i, a + d)) = pairsTo a b i ++ rowPairs a b i by rw [HRP.out, List.append_assoc, hde])
            clear hde
            have hS3 : OwnS wi w.heap.size 59 (.slice oa (rowsP (pairsTo a b i ++ (List.range (a - (i + 1))).map (fun d => (i, i + 1 + d)) ++ (List.range d).map (fun d => (i, a + d)))).length oc) (rowsP (pairsTo a b (i + 1))) := by rw [HST.out, ← HX.out]; exact hS
            go_wp2
            go_roundw
            case rel => exact ⟨i + 1, by omega, by go_num, hS3, hq⟩
            case measure => simp [intOf]; omega
          have hll : (pairsTo a b i ++ (List.range (a - (i + 1))).map (fun d => (i, i + 1 + d)) ++ (List.range d).map (fun d => (i, a + d))).length ≤ 100 := by have h := hfl; simp only [List.length_append, List.length_map, List.length_range] at h ⊢; omega
          have HNX := Lib.hid (show pairsTo a b i ++ (List.range (a - (i + 1))).map (fun d => (i, i + 1 + d)) ++ (List.range (d + 1)).map (fun d => (i, a + d)) = pairsTo a b i ++ (List.range (a - (i + 1))).map (fun d => (i, i + 1 + d)) ++ (List.range d).map (fun d => (i, a + d)) ++ [(i, a + d)] by rw [List.range_succ, List.map_append]; simp)
          have hw9 : IntKind.i64.wrap ((a : Int) + (d : Int)) = (a : Int) + (d : Int) := IntWalk.i64_in _ (by omega)
          have hba : Below wi.heap.size wi (wi.alloc (.cells #[.int .i64 (i : Int), .int .i64 ((a : Int) + (d : Int))] 3)) := (Below.refl _ _).alloc (Nat.le_refl _) _
          have hnew := (lit2 wi 3 (i : Int) ((a : Int) + (d : Int)) hq.size).2
          have hob : ∀ q, (Value.slice oa (rowsP (pairsTo a b i ++ (List.range (a - (i + 1))).map (fun d => (i, i + 1 + d)) ++ (List.range d).map (fun d => (i, a + d)))).length oc).ownBlock = some q → q < wi.heap.size := by obtain ⟨_, _, ho, _⟩ := hS; intro q hq; exact (ho.lt q hq).2
          have hnew2 := (lit2 wi 3 (i : Int) ((a : Int) + (d : Int)) (Nat.le_refl wi.heap.size)).2
          have hB1 := hq.size
          have HLT := Lib.hid (show rowsP (pairsTo a b i ++ (List.range (a - (i + 1))).map (fun d => (i, i + 1 + d)) ++ (List.range d).map (fun d => (i, a + d)) ++ [(i, a + d)]) = rowsP (pairsTo a b i ++ (List.range (a - (i + 1))).map (fun d => (i, i + 1 + d)) ++ (List.range d).map (fun d => (i, a + d))) ++ [[(i : Int), ((a : Int) + (d : Int))]] by rw [rowsP_app]; first | rfl | (simp [rowsP, rowP]))
          obtain ⟨vs, hvl, hown, hrows⟩ := hS.below hba (Nat.le_refl _)
          have hq2 := hq.trans (hba.mono hq.size)
          have hFl : (rowsP (pairsTo a b i ++ (List.range (a - (i + 1))).map (fun d => (i, i + 1 + d)) ++ (List.range d).map (fun d => (i, a + d)))).length ≤ 100 := by rw [rowsP_len]; first | assumption | omega
          generalize rowsP (pairsTo a b i ++ (List.range (a - (i + 1))).map (fun d => (i, i + 1 + d)) ++ (List.range d).map (fun d => (i, a + d))) = FF at *
          go_wp2_with (at_builtin; refine wpList_append1b elPairs rfl _ _ rfl hown rfl (by first | rfl | simp) rfl rfl (by omega) (by simp; omega) ?_; intro o5 w5 hown5 hkept hmv; obtain ⟨oa5, oc5, rfl⟩ := hown5.isSlice)
          have hS5 : OwnS w5 w.heap.size 59 (.slice oa5 (FF.length + 1) oc5) (FF ++ [[(i : Int), ((a : Int) + (d : Int))]]) := OwnS.app (news := [.slice (some ⟨wi.heap.size, 0, none⟩) 2 2]) hvl rfl hrows (fun i hi hi2 => by
            obtain rfl : i = 0 := by simp at hi; omega
            exact hnew2.low3S.weak (fun q hq => ⟨by have := hq.1; omega, hq.2, fun e => by have := hob q e; have := hq.1; omega⟩)) hown5 hkept hmv (by simp)
          have hq5 := hkept.below hq2 hq2.size (fun b hb => (hown.lt b hb).1)
          go_roundw
          case rel => exact ⟨d + 1, by omega, by go_num, by rw [HNX.out, HLT.out]; exact hS5, hq5⟩
          case measure => simp [intOf]; omega
      have hz1 : decide (((i + 1 + d : Nat) : Int) < (a : Int)) = true := decide_eq_true (by omega)
      have hz2 : decide (i + 1 + d < a) = true := decide_eq_true (by omega)
      have hz3 : decide ((i : Int) + 1 + (d : Int) < (a : Int)) = true := decide_eq_true (by omega)
      have HNX := Lib.hid (show pairsTo a b i ++ (List.range (d + 1)).map (fun d => (i, i + 1 + d)) = pairsTo a b i ++ (List.range d).map (fun d => (i, i + 1 + d)) ++ [(i, i + 1 + d)] by rw [List.range_succ, List.map_append]; simp)
      have hll : (pairsTo a b i ++ (List.range d).map (fun d => (i, i + 1 + d))).length ≤ 100 := by omega
      have hba : Below wi.heap.size wi (wi.alloc (.cells #[.int .i64 (i : Int), .int .i64 ((i : Int) + 1 + (d : Int))] 3)) := (Below.refl _ _).alloc (Nat.le_refl _) _
      have hnew := (lit2 wi 3 (i : Int) ((i : Int) + 1 + (d : Int)) hq.size).2
      have hob : ∀ q, (Value.slice oa (rowsP (pairsTo a b i ++ (List.range d).map (fun d => (i, i + 1 + d)))).length oc).ownBlock = some q → q < wi.heap.size := by obtain ⟨_, _, ho, _⟩ := hS; intro q hq; exact (ho.lt q hq).2
      have hnew2 := (lit2 wi 3 (i : Int) ((i : Int) + 1 + (d : Int)) (Nat.le_refl wi.heap.size)).2
      have hB1 := hq.size
      have HLT := Lib.hid (show rowsP (pairsTo a b i ++ (List.range d).map (fun d => (i, i + 1 + d)) ++ [(i, i + 1 + d)]) = rowsP (pairsTo a b i ++ (List.range d).map (fun d => (i, i + 1 + d))) ++ [[(i : Int), ((i : Int) + 1 + (d : Int))]] by rw [rowsP_app]; first | rfl | (simp [rowsP, rowP]))
      obtain ⟨vs, hvl, hown, hrows⟩ := hS.below hba (Nat.le_refl _)
      have hq2 := hq.trans (hba.mono hq.size)
      have hFl : (rowsP (pairsTo a b i ++ (List.range d).map (fun d => (i, i + 1 + d)))).length ≤ 100 := by rw [rowsP_len]; first | assumption | omega
      generalize rowsP (pairsTo a b i ++ (List.range d).map (fun d => (i, i + 1 + d))) = FF at *
      go_wp2_with (at_builtin; refine wpList_append1b elPairs rfl _ _ rfl hown rfl (by first | rfl | simp) rfl rfl (by omega) (by simp; omega) ?_; intro o5 w5 hown5 hkept hmv; obtain ⟨oa5, oc5, rfl⟩ := hown5.isSlice)
      have hS5 : OwnS w5 w.heap.size 59 (.slice oa5 (FF.length + 1) oc5) (FF ++ [[(i : Int), ((i : Int) + 1 + (d : Int))]]) := OwnS.app (news := [.slice (some ⟨wi.heap.size, 0, none⟩) 2 2]) hvl rfl hrows (fun i hi hi2 => by
        obtain rfl : i = 0 := by simp at hi; omega
        exact hnew2.low3S.weak (fun q hq => ⟨by have := hq.1; omega, hq.2, fun e => by have := hob q e; have := hq.1; omega⟩)) hown5 hkept hmv (by simp)
      have hq5 := hkept.below hq2 hq2.size (fun b hb => (hown.lt b hb).1)
      go_roundw
      case rel => exact ⟨d + 1, by omega, by go_num, by rw [HNX.out, HLT.out]; exact hS5, hq5⟩
      case measure => simp [intOf]; omega
end Go.Proofs.Ytplohdnakllbiaa
