/- How many pairs of hubs a pattern has, by the reference and by the program. -/
import Derived.Test.YtpgfbfgongimhaaOwn
namespace Go.Proofs.Ytpgfbfgongimhaa
open Go.RowKit

def HoldP (p : Prop) : Prop := p
theorem hold_in {p : Prop} (h : HoldP p) : p := h
/-- How many hubs stand on each side. -/
def side1 (k : Int) : Nat := if k = 1 then 5 else if k = 2 then 3 else if k = 3 then 4 else if k = 4 then 2 else 0
def side2 (k : Int) : Nat := if k = 2 then 3 else if k = 4 then 3 else 0
theorem side1_le (k : Int) : side1 k ≤ 5 := by unfold side1; repeat (split <;> try omega)
theorem side2_le (k : Int) : side2 k ≤ 3 := by unfold side2; repeat (split <;> try omega)
/-- How many pairs there are behind i rows. -/
def rowsP (a b : Nat) : Nat → Nat
  | 0 => 0
  | i + 1 => rowsP a b i + (if b = 0 then a - (i + 1) else 0) + b
theorem rowsP_le (a b i : Nat) (ha : a ≤ 5) (hb : b ≤ 3) : rowsP a b i ≤ 8 * i := by
  induction i with
  | zero => simp [rowsP]
  | succ i ih => unfold rowsP; split <;> omega

/-- append(s, x), one element of one cell: the translation lays x in a block of its own first. -/
theorem wpList_append1b {P : Program} {w : World} {T E : TypeId} {bytes : Nat} {z : Value} (hE : Elem P T E 1 bytes z) {B : Nat}
    {ops : Array Oper} {rest : List Oper} {o : Oper} {a : Act} {Q : Exit → Act → World → Prop} (hgd : o.guard = none) (s x : Operand)
    (ho : o.op = .call { callee := .builtin .append, args := #[s, x], argTypes := #[T, T] })
    {v : Value} {n : Nat} {xs : List Value} (hown : Own w B E 1 v n xs) (hs : a.eval s = v) {u : Value} {nb : Nat} (hnb : nb = w.heap.size)
    (hx : a.eval x = .slice (some ⟨nb, 0, none⟩) 1 1) (h1 : u.oneCell' = true)
    (h63 : n + 1 ≤ 1099511627) (hbase : B ≤ w.heap.size)
    (h : ∀ v' w', Own w' B E 1 v' (n + 1) (xs ++ [u]) → KeptBut w w' v.ownBlock → Moved (w.alloc (.cells #[u] E)) v v' → wpList P ops Q rest (a.put o.dst v') w') : wpList P ops Q (o :: rest) a (w.alloc (.cells #[u] E)) := by
  subst hnb
  exact wpList_append hE hgd s x ho (World.ownsRow.alloc hown _) hs hx (news := [u]) rfl (fun j u' hj => by
      match j, hj with
      | 0, hj => simp at hj; subst hj; simp [Addr.add])
    (fun u' hu' => by simp at hu'; subst hu'; exact h1) h63 (by simp; omega) (fun v' w' h2 h3 h4 => h v' w' h2 (.alloc h3) h4)

theorem sides_spec (k : Int) (w : World) : Calls Try.prog 8 #[.int .i64 k] w fun e w' => e = .returned (.tuple #[.int .i64 (side1 k), .int .i64 (side2 k)]) ∧ w = w' := by
  by_cases h1 : k = 1
  · subst h1
    go_enter Try.func8, Try.ntmps8
    go_wp2
    go_ret2
    exact ⟨rfl, rfl⟩
  by_cases h2 : k = 2
  · subst h2
    go_enter Try.func8, Try.ntmps8
    go_wp2
    go_ret2
    exact ⟨rfl, rfl⟩
  by_cases h3 : k = 3
  · subst h3
    go_enter Try.func8, Try.ntmps8
    go_wp2
    go_ret2
    exact ⟨rfl, rfl⟩
  by_cases h4 : k = 4
  · subst h4
    go_enter Try.func8, Try.ntmps8
    go_wp2
    go_ret2
    exact ⟨rfl, rfl⟩
  · have e1 : side1 k = 0 := by simp [side1, h1, h2, h3, h4]
    have e2 : side2 k = 0 := by simp [side2, h2, h4]
    rw [e1, e2]
    go_enter Try.func8, Try.ntmps8
    go_wp2
    go_ret2
    exact ⟨rfl, rfl⟩
theorem sides_impl (k : Int) (w : World) : Calls Try.prog 9 #[.int .i64 k] w fun e w' => e = .returned (.tuple #[.int .i64 (side1 k), .int .i64 (side2 k)]) ∧ w = w' := by
  by_cases h1 : k = 1
  · subst h1
    go_enter Try.func9, Try.ntmps9
    go_wp2
    go_ret2
    exact ⟨rfl, rfl⟩
  by_cases h2 : k = 2
  · subst h2
    go_enter Try.func9, Try.ntmps9
    go_wp2
    go_ret2
    exact ⟨rfl, rfl⟩
  by_cases h3 : k = 3
  · subst h3
    go_enter Try.func9, Try.ntmps9
    go_wp2
    go_ret2
    exact ⟨rfl, rfl⟩
  by_cases h4 : k = 4
  · subst h4
    go_enter Try.func9, Try.ntmps9
    go_wp2
    go_ret2
    exact ⟨rfl, rfl⟩
  · have e1 : side1 k = 0 := by simp [side1, h1, h2, h3, h4]
    have e2 : side2 k = 0 := by simp [side2, h2, h4]
    rw [e1, e2]
    go_enter Try.func9, Try.ntmps9
    go_wp2
    go_ret2
    exact ⟨rfl, rfl⟩
/-- A slice of n elements. -/
def HasLen (n : Nat) (w : World) (e : Ending) (w' : World) : Prop := ∃ a c, e = .returned (.slice a n c) ∧ Below w.heap.size w w'
theorem own_slice_len {w : World} {B : Nat} {E : TypeId} {size : Nat} {v : Value} {n : Nat} {xs : List Value} (h : Own w B E size v n xs) : ∃ a c, v = .slice a n c := by
  obtain ⟨g, cap, hv, _⟩ := h.slice
  rcases hv with ⟨rfl, rfl, _⟩ | ⟨rfl, _⟩
  · exact ⟨_, _, rfl⟩
  · exact ⟨_, _, rfl⟩
/-- append(s, x), one element of more cells. -/
theorem wpList_append1m {P : Program} {w : World} {T E : TypeId} {size bytes : Nat} {z : Value} (hE : Elem P T E size bytes z) {B : Nat}
    {ops : Array Oper} {rest : List Oper} {o : Oper} {a : Act} {Q : Exit → Act → World → Prop} (hgd : o.guard = none) (s x : Operand)
    (ho : o.op = .call { callee := .builtin .append, args := #[s, x], argTypes := #[T, T] })
    {v : Value} {n : Nat} {xs : List Value} (hown : Own w B E size v n xs) (hs : a.eval s = v) {cs : Array Value} {nb : Nat} (hnb : nb = w.heap.size)
    (hx : a.eval x = .slice (some ⟨nb, 0, none⟩) 1 1) (hl : cs.size = size) (h1 : ∀ u ∈ cs.toList, u.oneCell' = true)
    (h63 : n + 1 ≤ 1099511627) (hbase : B ≤ w.heap.size)
    (h : ∀ v' w', Own w' B E size v' (n + 1) (xs ++ cs.toList) → KeptBut w w' v.ownBlock → Moved (w.alloc (.cells cs E)) v v' → wpList P ops Q rest (a.put o.dst v') w') : wpList P ops Q (o :: rest) a (w.alloc (.cells cs E)) := by
  subst hnb
  exact wpList_append hE hgd s x ho (World.ownsRow.alloc hown _) hs hx (news := cs.toList) (by simp [hl]) (fun j u' hj => by
      have hj2 : cs[j]? = some u' := by rw [← Array.getElem?_toList]; exact hj
      by_cases hj0 : j = 0
      · subst hj0; simp [Addr.add, hj2]
      · simp [Addr.add, hj0, hj2]) h1 h63 (by simp; omega) (fun v' w' h2 h3 h4 => h v' w' h2 (.alloc h3) h4)
theorem elPairs : Elem Try.prog 24 30 1 24 (.slice none 0 0) := ⟨Try.underlying24, by kernel_rfl, rfl, by omega, by omega⟩
set_option maxHeartbeats 4000000 in
theorem pairs_spec (k : Int) (w : World) : Calls Try.prog 6 #[.int .i64 k] w (HasLen (rowsP (side1 k) (side2 k) (side1 k)) w) := by
  have ha := side1_le k
  have hb := side2_le k
  generalize hA : side1 k = a at *
  generalize hBe : side2 k = b at *
  have HA := Lib.hid hA; have HB := Lib.hid hBe; clear hA hBe
  go_enter Try.func6, Try.ntmps6
  go_wp2_with (go_at_call 8; refine (sides_spec _ _).mono ?_; rintro e w' ⟨rfl, rfl⟩; rw [HA.out, HB.out])
  go_loopw [5, 6] (fun o i wr => ∃ (i' : Nat) (xs : List Value), i' ≤ a ∧ i = .int .i64 i' ∧ Own wr w.heap.size 30 1 o (rowsP a b i') xs ∧ Below w.heap.size w wr) (fun _ i _ => a - (intOf i).toNat)
  case atStart => exact ⟨0, [], Nat.zero_le _, rfl, World.ownsRow_lit (base := w.heap.size) (e := 30) (size := 1) w #[] 0 (Nat.le_refl _) (by unfold maxLen; omega) rfl, (Below.refl _ _).alloc (Nat.le_refl _) _⟩
  case round =>
    obtain ⟨i, xs, hi, rfl, hown, hq⟩ := hrel
    have hB := hq.size
    have hrl := rowsP_le a b i ha hb
    by_cases hlt : i < a
    · by_cases hb0 : b = 0
      · have hbb : ((b : Int) == 0) = true := by simp [hb0]
        have HB0 := Lib.hid hb0; clear hb0
        go_wp2
        go_loopw [5, 7] (fun o j wr => ∃ (j' : Nat) (xs : List Value), i + 1 ≤ j' ∧ j' ≤ a ∧ j = .int .i64 j' ∧ Own wr w.heap.size 30 1 o (rowsP a b i + (j' - (i + 1))) xs ∧ Below w.heap.size w wr) (fun _ j _ => a - (intOf j).toNat)
        case atStart => exact ⟨i + 1, xs, Nat.le_refl _, by omega, by go_num, by simpa using hown, hq⟩
        case round =>
          clear hq hown hB
          obtain ⟨wo, rfl⟩ : ∃ wo : World, wo = wr := ⟨_, rfl⟩
          obtain ⟨j, ys, hj1, hj2, rfl, hown2, hq2⟩ := hrel
          have hB2 := hq2.size
          by_cases hlt2 : j < a
          · go_wp2_with (at_builtin; refine wpList_append1b elPairs rfl _ _ rfl (Own.alloc hown2 _) rfl (by simp) rfl rfl (by omega) (by simp; omega) ?_; intro v' w1 hown5 hkept hmv; have hq5 := hkept.below (hq2.alloc hB2 _) (by simp; omega) hown2.ge)
            go_roundw
            case rel => exact ⟨j + 1, _, by omega, by omega, by go_num, by (have e : rowsP a b i + (j + 1 - (i + 1)) = rowsP a b i + (j - (i + 1)) + 1 := by omega); rw [e]; exact hown5, hq5⟩
            case measure => simp [intOf]; omega
          · go_wp2
            have hb0 := HB0.out
            have e2 : rowsP a b i + (j - (i + 1)) = rowsP a b i + (a - (i + 1)) := by omega
            rw [e2] at hown2
            have H0 := Lib.hid hb0; clear hb0 e2
            go_loopw [5, 8] (fun o j wr => ∃ (j' : Nat) (xs : List Value), j' ≤ b ∧ j = .int .i64 j' ∧ Own wr w.heap.size 30 1 o ((rowsP a b i + (a - (i + 1))) + j') xs ∧ Below w.heap.size w wr) (fun _ j _ => b - (intOf j).toNat)
            case atStart => exact ⟨0, _, Nat.zero_le _, rfl, hown2, hq2⟩
            case round =>
              clear hq2 hown2
              obtain ⟨j, ys, hj, rfl, hown3, hq3⟩ := hrel
              have hB3 := hq3.size
              by_cases hlt3 : j < b
              · go_wp2_with (at_builtin; refine wpList_append1b elPairs rfl _ _ rfl (Own.alloc hown3 _) rfl (by simp) rfl rfl (by omega) (by simp; omega) ?_; intro v' w1 hown5 hkept hmv; have hq5 := hkept.below (hq3.alloc hB3 _) (by simp; omega) hown3.ge)
                go_roundw
                case rel => exact ⟨j + 1, _, by omega, by go_num, hown5, hq5⟩
                case measure => simp [intOf]; omega
              · go_wp2
                go_roundw
                case rel =>
                  refine ⟨i + 1, ys, by omega, by go_num, ?_, hq3⟩
                  have hb0 := H0.out
                  have e : rowsP a b (i + 1) = (rowsP a b i + (a - (i + 1))) + j := by simp only [rowsP, hb0, if_true]; omega
                  rw [e]; exact hown3
                case measure => simp [intOf]; omega
      · have hbb : ((b : Int) == 0) = false := by simpa using hb0
        go_wp2
        have hown2 := hown
        have hq2 := hq
        clear hown hq
        go_loopw [5, 8] (fun o j wr => ∃ (j' : Nat) (xs : List Value), j' ≤ b ∧ j = .int .i64 j' ∧ Own wr w.heap.size 30 1 o (rowsP a b i + j') xs ∧ Below w.heap.size w wr) (fun _ j _ => b - (intOf j).toNat)
        case atStart => exact ⟨0, _, Nat.zero_le _, rfl, hown2, hq2⟩
        case round =>
          clear hq2 hown2
          obtain ⟨j, ys, hj, rfl, hown3, hq3⟩ := hrel
          have hB3 := hq3.size
          by_cases hlt3 : j < b
          · go_wp2_with (at_builtin; refine wpList_append1b elPairs rfl _ _ rfl (Own.alloc hown3 _) rfl (by simp) rfl rfl (by omega) (by simp; omega) ?_; intro v' w1 hown5 hkept hmv; have hq5 := hkept.below (hq3.alloc hB3 _) (by simp; omega) hown3.ge)
            go_roundw
            case rel => exact ⟨j + 1, _, by omega, by go_num, hown5, hq5⟩
            case measure => simp [intOf]; omega
          · go_wp2
            go_roundw
            case rel =>
              refine ⟨i + 1, ys, by omega, by go_num, ?_, hq3⟩
              have e : rowsP a b (i + 1) = rowsP a b i + j := by simp only [rowsP, hb0, if_false]; omega
              rw [e]; exact hown3
            case measure => simp [intOf]; omega
    · go_wp2
      go_ret
      obtain rfl : i = a := by omega
      obtain ⟨sa, sc, rfl⟩ := own_slice_len hown
      exact ⟨sa, sc, rfl, hq⟩
theorem elArrows : Elem Try.prog 26 32 2 16 (.agg #[.int .i64 0, .int .i64 0]) := ⟨Try.underlying26, by kernel_rfl, rfl, by omega, by omega⟩
set_option maxHeartbeats 4000000 in
theorem pairs_impl (k : Int) (w : World) : Calls Try.prog 7 #[.int .i64 k] w (HasLen (rowsP (side1 k) (side2 k) (side1 k)) w) := by
  have ha := side1_le k
  have hb := side2_le k
  generalize hA : side1 k = a at *
  generalize hBe : side2 k = b at *
  have HA := Lib.hid hA; have HB := Lib.hid hBe; clear hA hBe
  go_enter Try.func7, Try.ntmps7
  go_wp2_with (go_at_call 9; refine (sides_impl _ _).mono ?_; rintro e w' ⟨rfl, rfl⟩; rw [HA.out, HB.out])
  go_loopw [5, 16] (fun o i wr => ∃ (i' : Nat) (xs : List Value), i' ≤ a ∧ i = .int .i64 i' ∧ Own wr w.heap.size 32 2 o (rowsP a b i') xs ∧ Below w.heap.size w wr) (fun _ i _ => a - (intOf i).toNat)
  case atStart => exact ⟨0, [], Nat.zero_le _, rfl, World.ownsRow_lit (base := w.heap.size) (e := 32) (size := 2) w #[] 0 (Nat.le_refl _) (by unfold maxLen; omega) rfl, (Below.refl _ _).alloc (Nat.le_refl _) _⟩
  case round =>
    obtain ⟨i, xs, hi, rfl, hown, hq⟩ := hrel
    have hB := hq.size
    have hrl := rowsP_le a b i ha hb
    by_cases hlt : i < a
    · by_cases hb0 : b = 0
      · have hbb : ((b : Int) == 0) = true := by simp [hb0]
        have HB0 := Lib.hid hb0; clear hb0
        go_wp2
        go_loopw [5, 7] (fun o j wr => ∃ (j' : Nat) (xs : List Value), i + 1 ≤ j' ∧ j' ≤ a ∧ j = .int .i64 j' ∧ Own wr w.heap.size 32 2 o (rowsP a b i + (j' - (i + 1))) xs ∧ Below w.heap.size w wr) (fun _ j _ => a - (intOf j).toNat)
        case atStart => exact ⟨i + 1, xs, Nat.le_refl _, by omega, by go_num, by simpa using hown, hq⟩
        case round =>
          clear hq hown hB
          obtain ⟨wo, rfl⟩ : ∃ wo : World, wo = wr := ⟨_, rfl⟩
          obtain ⟨j, ys, hj1, hj2, rfl, hown2, hq2⟩ := hrel
          have hB2 := hq2.size
          by_cases hlt2 : j < a
          · go_wp2_with (at_builtin; refine wpList_append1m elArrows rfl _ _ rfl hown2 rfl rfl rfl rfl (by simp [Value.oneCell']) (by omega) (by omega) ?_; intro v' w1 hown5 hkept hmv; have hq5 := hkept.below hq2 (by omega) hown2.ge)
            go_roundw
            case rel => exact ⟨j + 1, _, by omega, by omega, by go_num, by (have e : rowsP a b i + (j + 1 - (i + 1)) = rowsP a b i + (j - (i + 1)) + 1 := by omega); rw [e]; exact hown5, hq5⟩
            case measure => simp [intOf]; omega
          · go_wp2
            have hb0 := HB0.out
            have e2 : rowsP a b i + (j - (i + 1)) = rowsP a b i + (a - (i + 1)) := by omega
            rw [e2] at hown2
            have H0 := Lib.hid hb0; clear hb0 e2
            go_loopw [5, 35] (fun o j wr => ∃ (j' : Nat) (xs : List Value), j' ≤ b ∧ j = .int .i64 j' ∧ Own wr w.heap.size 32 2 o ((rowsP a b i + (a - (i + 1))) + j') xs ∧ Below w.heap.size w wr) (fun _ j _ => b - (intOf j).toNat)
            case atStart => exact ⟨0, _, Nat.zero_le _, rfl, hown2, hq2⟩
            case round =>
              clear hq2 hown2
              obtain ⟨j, ys, hj, rfl, hown3, hq3⟩ := hrel
              have hB3 := hq3.size
              by_cases hlt3 : j < b
              · go_wp2_with (at_builtin; refine wpList_append1m elArrows rfl _ _ rfl hown3 rfl rfl rfl rfl (by simp [Value.oneCell']) (by omega) (by omega) ?_; intro v' w1 hown5 hkept hmv; have hq5 := hkept.below hq3 (by omega) hown3.ge)
                go_roundw
                case rel => exact ⟨j + 1, _, by omega, by go_num, hown5, hq5⟩
                case measure => simp [intOf]; omega
              · go_wp2
                go_roundw
                case rel =>
                  refine ⟨i + 1, ys, by omega, by go_num, ?_, hq3⟩
                  have hb0 := H0.out
                  have e : rowsP a b (i + 1) = (rowsP a b i + (a - (i + 1))) + j := by simp only [rowsP, hb0, if_true]; omega
                  rw [e]; exact hown3
                case measure => simp [intOf]; omega
      · have hbb : ((b : Int) == 0) = false := by simpa using hb0
        go_wp2
        have hown2 := hown
        have hq2 := hq
        clear hown hq
        go_loopw [5, 35] (fun o j wr => ∃ (j' : Nat) (xs : List Value), j' ≤ b ∧ j = .int .i64 j' ∧ Own wr w.heap.size 32 2 o (rowsP a b i + j') xs ∧ Below w.heap.size w wr) (fun _ j _ => b - (intOf j).toNat)
        case atStart => exact ⟨0, _, Nat.zero_le _, rfl, hown2, hq2⟩
        case round =>
          clear hq2 hown2
          obtain ⟨j, ys, hj, rfl, hown3, hq3⟩ := hrel
          have hB3 := hq3.size
          by_cases hlt3 : j < b
          · go_wp2_with (at_builtin; refine wpList_append1m elArrows rfl _ _ rfl hown3 rfl rfl rfl rfl (by simp [Value.oneCell']) (by omega) (by omega) ?_; intro v' w1 hown5 hkept hmv; have hq5 := hkept.below hq3 (by omega) hown3.ge)
            go_roundw
            case rel => exact ⟨j + 1, _, by omega, by go_num, hown5, hq5⟩
            case measure => simp [intOf]; omega
          · go_wp2
            go_roundw
            case rel =>
              refine ⟨i + 1, ys, by omega, by go_num, ?_, hq3⟩
              have e : rowsP a b (i + 1) = rowsP a b i + j := by simp only [rowsP, hb0, if_false]; omega
              rw [e]; exact hown3
            case measure => simp [intOf]; omega
    · go_wp2
      go_ret
      obtain rfl : i = a := by omega
      obtain ⟨sa, sc, rfl⟩ := own_slice_len hown
      exact ⟨sa, sc, rfl, hq⟩
theorem pathsMany_spec (k : Int) (w : World) : Calls Try.prog 4 #[.int .i64 k] w fun e w' => e = .returned (.int .i64 (rowsP (side1 k) (side2 k) (side1 k) : Nat)) ∧ Below w.heap.size w w' := by
  go_enter Try.func4, Try.ntmps4
  go_wp2_with (go_at_call 6; refine (pairs_spec _ _).mono ?_; rintro e w' ⟨a, c, rfl, hb⟩)
  go_ret
  exact ⟨rfl, hb⟩
theorem pathsMany_impl (k : Int) (w : World) : Calls Try.prog 5 #[.int .i64 k] w fun e w' => e = .returned (.int .i64 (rowsP (side1 k) (side2 k) (side1 k) : Nat)) ∧ Below w.heap.size w w' := by
  go_enter Try.func5, Try.ntmps5
  go_wp2_with (go_at_call 7; refine (pairs_impl _ _).mono ?_; rintro e w' ⟨a, c, rfl, hb⟩)
  go_ret
  exact ⟨rfl, hb⟩
end Go.Proofs.Ytpgfbfgongimhaa
