/- The pairs of hubs that are joined, of the program: with what they hold. -/
import Derived.Test.YtplohdnakllbiaaSub4
namespace Go.Proofs.Ytplohdnakllbiaa
open Go.RowKit
def flatP (L : List NP) : List Value := L.flatMap fun s => [.int .i64 (s.1 : Int), .int .i64 (s.2 : Int)]
theorem flatP_len : ∀ L : List NP, (flatP L).length = L.length * 2
  | [] => rfl
  | s :: L => by
    have := flatP_len L
    unfold flatP at this ⊢
    rw [List.flatMap_cons, List.length_append, this]; simp; omega
theorem flatP_app (L M : List NP) : flatP (L ++ M) = flatP L ++ flatP M := by simp [flatP]
theorem flatP_get : ∀ {L : List NP} {i : Nat} (h : i < L.length), (flatP L)[2 * i]? = some (.int .i64 (L[i].1 : Int)) ∧ (flatP L)[2 * i + 1]? = some (.int .i64 (L[i].2 : Int))
  | s :: L, 0, _ => ⟨rfl, rfl⟩
  | s :: L, i + 1, h => by
    have := flatP_get (L := L) (i := i) (by simpa using h)
    have e : flatP (s :: L) = .int .i64 (s.1 : Int) :: .int .i64 (s.2 : Int) :: flatP L := rfl
    rw [e, show 2 * (i + 1) = 2 * i + 1 + 1 from by omega, show 2 * i + 1 + 1 + 1 = (2 * i + 1) + 1 + 1 from rfl]
    simpa using this
def PR (L : List NP) (n : Nat) (xs : List Value) : Prop := n = L.length ∧ xs = flatP L
theorem PR.app {L : List NP} {n : Nat} {xs : List Value} (h : PR L n xs) (x y : Nat) : PR (L ++ [(x, y)]) (n + 1) (xs ++ [.int .i64 (x : Int), .int .i64 (y : Int)]) := by
  obtain ⟨rfl, rfl⟩ := h
  exact ⟨by simp, by rw [flatP_app]; rfl⟩
theorem PR.eq {L M : List NP} {n : Nat} {xs : List Value} (h : PR L n xs) (e : L = M) : PR M n xs := e ▸ h
theorem elArrows : Elem Try.prog 62 68 2 16 (.agg #[.int .i64 0, .int .i64 0]) := ⟨Try.underlying62, by kernel_rfl, rfl, by omega, by omega⟩
set_option maxHeartbeats 4000000 in
theorem pairsImpl_any (k : Int) (w : World) : Calls Try.prog 40 #[.int .i64 k] w fun e w' => ∃ u, e = .returned u ∧ Own w' w.heap.size 68 2 u (pairsK k).length (flatP (pairsK k)) ∧ Below w.heap.size w w' := by
  have ha := side1_le k
  have hb := side2_le k
  have HPK := Lib.hid (show pairsK k = pairsTo (side1 k) (side2 k) (side1 k) from rfl)
  have hsd := sides_impl k
  generalize side1 k = a at *
  generalize side2 k = b at *
  go_enter Try.func40, Try.ntmps40
  go_wp2_with (go_at_call 69; refine (hsd _).mono ?_; rintro e w' ⟨rfl, rfl⟩)
  go_loopw [5, 16] (fun o i wr => ∃ (i' n : Nat) (xs : List Value), i' ≤ a ∧ i = .int .i64 i' ∧ Own wr w.heap.size 68 2 o n xs ∧ RowKit.Hid (PR (pairsTo a b i') n xs) ∧ Below w.heap.size w wr) (fun _ i _ => a - (intOf i).toNat)
  case atStart => exact ⟨0, 0, [], Nat.zero_le _, rfl, World.ownsRow_lit (base := w.heap.size) (e := 68) (size := 2) w #[] 0 (Nat.le_refl _) (by unfold maxLen; omega) rfl, Lib.hid ⟨rfl, rfl⟩, (Below.refl _ _).alloc (Nat.le_refl _) _⟩
  case round =>
    obtain ⟨i, n, xs, hi, rfl, hown, HP, hq⟩ := hrel
    have hB := hq.size
    have hsm := pairsTo_small ha hb hi
    have hn40 : n ≤ 40 := by rw [HP.out.1]; exact hsm
    clear hsm
    by_cases hlt : i < a
    · have HST := Lib.hid (show pairsTo a b (i + 1) = pairsTo a b i ++ rowPairs a b i from rfl)
      by_cases hb0 : b = 0
      · have hbb : ((b : Int) == 0) = true := by simp [hb0]
        have HRP := Lib.hid (show rowPairs a b i = (List.range (a - (i + 1))).map (fun d => (i, i + 1 + d)) ++ (List.range b).map (fun d => (i, a + d)) by rw [rowPairs, if_pos hb0])
        clear hb0
        go_wp2
        go_loopw [5, 7] (fun o j wr => ∃ (j' n : Nat) (xs : List Value), i + 1 ≤ j' ∧ j' ≤ a ∧ j = .int .i64 j' ∧ Own wr w.heap.size 68 2 o n xs ∧ n ≤ 45 + j' ∧ RowKit.Hid (PR (pairsTo a b i ++ (List.range (j' - (i + 1))).map (fun d => (i, i + 1 + d))) n xs) ∧ Below w.heap.size w wr) (fun _ j _ => a - (intOf j).toNat)
        case atStart => exact ⟨i + 1, n, xs, Nat.le_refl _, by omega, by go_num, hown, by omega, Lib.hid (HP.out.eq (by simp)), hq⟩
        case round =>
          clear hq hown hB HP hn40
          obtain ⟨wo, rfl⟩ : ∃ wo : World, wo = wr := ⟨_, rfl⟩
          obtain ⟨j, n, ys, hj1, hj2, rfl, hown2, hn2, HP2, hq2⟩ := hrel
          have hB2 := hq2.size
          by_cases hlt2 : j < a
          · have HN := Lib.hid (show PR (pairsTo a b i ++ (List.range (j + 1 - (i + 1))).map (fun d => (i, i + 1 + d))) (n + 1) (ys ++ [.int .i64 (i : Int), .int .i64 (j : Int)]) from (HP2.out.app i j).eq (by
              rw [show j + 1 - (i + 1) = (j - (i + 1)) + 1 from by omega, List.range_succ, List.map_append, List.append_assoc]
              simp only [List.map_cons, List.map_nil]
              rw [show i + 1 + (j - (i + 1)) = j from by omega]))
            go_wp2_with (at_builtin; refine wpList_append1m elArrows rfl _ _ rfl hown2 rfl rfl rfl rfl (by simp [Value.oneCell']) (by omega) (by omega) ?_; intro v' w1 hown5 hkept hmv; have hq5 := hkept.below hq2 (by omega) hown2.ge)
            go_roundw
            case rel => exact ⟨j + 1, n + 1, _, by omega, by omega, by go_num, hown5, by omega, HN, hq5⟩
            case measure => simp [intOf]; omega
          · have HP3 := Lib.hid (HP2.out.eq (show pairsTo a b i ++ (List.range (j - (i + 1))).map (fun d => (i, i + 1 + d)) = pairsTo a b i ++ (List.range (a - (i + 1))).map (fun d => (i, i + 1 + d)) by rw [show j = a from by omega]))
            have hn3 : n ≤ 60 := by omega
            clear HP2
            go_wp2
            go_loopw [5, 35] (fun o j wr => ∃ (j' n : Nat) (xs : List Value), j' ≤ b ∧ j = .int .i64 j' ∧ Own wr w.heap.size 68 2 o n xs ∧ n ≤ 60 + j' ∧ RowKit.Hid (PR (pairsTo a b i ++ (List.range (a - (i + 1))).map (fun d => (i, i + 1 + d)) ++ (List.range j').map (fun d => (i, a + d))) n xs) ∧ Below w.heap.size w wr) (fun _ j _ => b - (intOf j).toNat)
            case atStart => exact ⟨0, n, _, Nat.zero_le _, rfl, hown2, by omega, Lib.hid (HP3.out.eq (by simp)), hq2⟩
            case round =>
              clear hq2 hown2 HP3 hn3 hn2
              obtain ⟨j, n, ys, hj, rfl, hown3, hn3, HP4, hq3⟩ := hrel
              have hB3 := hq3.size
              by_cases hlt3 : j < b
              · have HN := Lib.hid (show PR (pairsTo a b i ++ (List.range (a - (i + 1))).map (fun d => (i, i + 1 + d)) ++ (List.range (j + 1)).map (fun d => (i, a + d))) (n + 1) (ys ++ [.int .i64 (i : Int), .int .i64 ((a : Int) + (j : Int))]) from by
                  have h := HP4.out.app i (a + j)
                  rw [Int.natCast_add] at h
                  exact h.eq (by rw [List.range_succ, List.map_append, List.append_assoc (pairsTo a b i ++ _)]; rfl))
                have hw9 : IntKind.i64.wrap ((a : Int) + (j : Int)) = (a : Int) + (j : Int) := IntWalk.i64_in _ (by omega)
                go_wp2_with (at_builtin; refine wpList_append1m elArrows rfl _ _ rfl hown3 rfl rfl rfl rfl (by simp [Value.oneCell']) (by omega) (by omega) ?_; intro v' w1 hown5 hkept hmv; have hq5 := hkept.below hq3 (by omega) hown3.ge)
                go_roundw
                case rel => exact ⟨j + 1, n + 1, _, by omega, by go_num, hown5, by omega, HN, hq5⟩
                case measure => simp [intOf]; omega
              · have HP5 := Lib.hid (HP4.out.eq (M := pairsTo a b (i + 1)) (by rw [HST.out, HRP.out, List.append_assoc, show j = b from by omega]))
                go_wp2
                go_roundw
                case rel => exact ⟨i + 1, n, ys, by omega, by go_num, hown3, HP5, hq3⟩
                case measure => simp [intOf]; omega
      · have hbb : ((b : Int) == 0) = false := by simpa using hb0
        have HRP := Lib.hid (show rowPairs a b i = (List.range b).map (fun d => (i, a + d)) by rw [rowPairs, if_neg hb0]; rfl)
        go_wp2
        have hown2 := hown
        have hq2 := hq
        have HP3 := HP
        clear hown hq HP
        go_loopw [5, 35] (fun o j wr => ∃ (j' n : Nat) (xs : List Value), j' ≤ b ∧ j = .int .i64 j' ∧ Own wr w.heap.size 68 2 o n xs ∧ n ≤ 60 + j' ∧ RowKit.Hid (PR (pairsTo a b i ++ (List.range j').map (fun d => (i, a + d))) n xs) ∧ Below w.heap.size w wr) (fun _ j _ => b - (intOf j).toNat)
        case atStart => exact ⟨0, n, _, Nat.zero_le _, rfl, hown2, by omega, Lib.hid (HP3.out.eq (by simp)), hq2⟩
        case round =>
          clear hq2 hown2 HP3 hn40
          obtain ⟨j, n, ys, hj, rfl, hown3, hn3, HP4, hq3⟩ := hrel
          have hB3 := hq3.size
          by_cases hlt3 : j < b
          · have HN := Lib.hid (show PR (pairsTo a b i ++ (List.range (j + 1)).map (fun d => (i, a + d))) (n + 1) (ys ++ [.int .i64 (i : Int), .int .i64 ((a : Int) + (j : Int))]) from by
              have h := HP4.out.app i (a + j)
              rw [Int.natCast_add] at h
              exact h.eq (by rw [List.range_succ, List.map_append, List.append_assoc]; rfl))
            have hw9 : IntKind.i64.wrap ((a : Int) + (j : Int)) = (a : Int) + (j : Int) := IntWalk.i64_in _ (by omega)
            go_wp2_with (at_builtin; refine wpList_append1m elArrows rfl _ _ rfl hown3 rfl rfl rfl rfl (by simp [Value.oneCell']) (by omega) (by omega) ?_; intro v' w1 hown5 hkept hmv; have hq5 := hkept.below hq3 (by omega) hown3.ge)
            go_roundw
            case rel => exact ⟨j + 1, n + 1, _, by omega, by go_num, hown5, by omega, HN, hq5⟩
            case measure => simp [intOf]; omega
          · have HP5 := Lib.hid (HP4.out.eq (M := pairsTo a b (i + 1)) (by rw [HST.out, HRP.out, show j = b from by omega]))
            go_wp2
            go_roundw
            case rel => exact ⟨i + 1, n, ys, by omega, by go_num, hown3, HP5, hq3⟩
            case measure => simp [intOf]; omega
    · have hia : i = a := by omega
      have HE := Lib.hid (HP.out.eq (M := pairsK k) (by rw [HPK.out, hia]))
      clear hia
      go_wp2
      go_ret
      exact ⟨_, rfl, by rw [← HE.out.1, ← HE.out.2]; exact hown, hq⟩
end Go.Proofs.Ytplohdnakllbiaa
