/- Orders of elimination: plain facts. -/
import Derived.Test.YtpdlcnpmljfclaaDoorChordM
import Derived.Test.YtpdlcnpmljfclaaDoorReach2
namespace Go.Proofs.YtpdlcnpmljfclaaDoor
open Go.RowKit
def lackN (H : List Nat) (s v : Nat) : Nat := popN (andN (andN s (H.getD v 0)) (bit v))
def missTo (H : List Nat) (s : Nat) (L : List Nat) : Nat := (L.map (lackN H s)).sum
def missN (H : List Nat) (s : Nat) : Nat := missTo H s (bitsN s) / 2
theorem missTo_take {H : List Nat} {s k : Nat} {L : List Nat} (hk : k < L.length) : missTo H s (L.take (k + 1)) = missTo H s (L.take k) + lackN H s L[k] := by
  unfold missTo
  rw [List.take_succ_eq_append_getElem hk, List.map_append, List.sum_append]; simp
theorem missTo_le {H : List Nat} {s : Nat} : ∀ (L : List Nat), missTo H s L ≤ 32 * L.length
  | [] => by simp [missTo]
  | x :: L => by
    have := missTo_le (H := H) (s := s) L
    have h2 := popN_32 (andN (andN s (H.getD x 0)) (bit x))
    simp only [missTo, lackN, List.map_cons, List.sum_cons, List.length_cons] at *
    omega
theorem sum_mem {f : Nat → Nat} {x : Nat} : ∀ {L : List Nat}, x ∈ L → f x ≤ (L.map f).sum
  | y :: L, h => by
    rw [List.map_cons, List.sum_cons]
    rcases List.mem_cons.1 h with rfl | h
    · omega
    · have := sum_mem (f := f) h; omega
theorem sum_two {f : Nat → Nat} {x y : Nat} (hne : x ≠ y) : ∀ {L : List Nat}, x ∈ L → y ∈ L → f x + f y ≤ (L.map f).sum
  | z :: L, hx, hy => by
    rw [List.map_cons, List.sum_cons]
    rcases List.mem_cons.1 hx with e1 | h1
    · rcases List.mem_cons.1 hy with e2 | h2
      · exact absurd (e1.trans e2.symm) hne
      · have := sum_mem (f := f) h2; rw [e1]; omega
    · rcases List.mem_cons.1 hy with e2 | h2
      · have := sum_mem (f := f) h1; rw [e2]; omega
      · have := sum_two (f := f) hne h1 h2; omega
theorem lack_zero {H : List Nat} {s v : Nat} (hs : s < 4294967296) (hH : H.getD v 0 < 4294967296) (hv : v < 32) : lackN H s v = 0 ↔ ∀ y, s.testBit y = true → y ≠ v → (H.getD v 0).testBit y = true := by
  unfold lackN
  have h1 : andN s (H.getD v 0) < 4294967296 := Nat.lt_of_le_of_lt (andN_le _ _) hs
  rw [popN_zero (Nat.lt_of_le_of_lt (andN_le _ _) h1), andN_zero_iff h1 (bit_lt hv)]
  constructor
  · intro h y hy hne
    apply Classical.byContradiction
    intro hc
    have := h y (by rw [testBit_andN hs hH, hy]; simpa using hc)
    rw [testBit_bit, decide_eq_true_eq] at this
    exact hne this.symm
  · intro h y hy
    rw [testBit_andN hs hH, Bool.and_eq_true, Bool.not_eq_true'] at hy
    rw [testBit_bit, decide_eq_true_eq]
    apply Classical.byContradiction
    intro hc
    rw [h y hy.1 (fun e => hc e.symm)] at hy
    cases hy.2
/-- Nothing is missing: a clique. -/
def CliqN (H : List Nat) (s : Nat) : Prop := ∀ x y, s.testBit x = true → s.testBit y = true → x ≠ y → (H.getD x 0).testBit y = true
theorem miss_zero {H : List Nat} {s : Nat} (hs : s < 4294967296) (hH : ∀ v, H.getD v 0 < 4294967296) (hsy : ∀ x y, s.testBit x = true → s.testBit y = true → (H.getD x 0).testBit y = true → (H.getD y 0).testBit x = true) : missN H s = 0 ↔ CliqN H s := by
  constructor
  · intro h x y hx hy hne
    apply Classical.byContradiction
    intro hc
    have hx32 := bit_lt_of (n := 32) hs hx
    have hy32 := bit_lt_of (n := 32) hs hy
    have h1 : lackN H s x ≠ 0 := fun e => hc ((lack_zero hs (hH x) hx32).1 e y hy (fun e => hne e.symm))
    have h2 : lackN H s y ≠ 0 := fun e => hc (hsy y x hy hx ((lack_zero hs (hH y) hy32).1 e x hx hne))
    have h3 := sum_two (f := lackN H s) hne ((mem_bitsN hs).2 hx) ((mem_bitsN hs).2 hy)
    unfold missN missTo at h
    omega
  · intro h
    have : ∀ L : List Nat, (∀ x ∈ L, s.testBit x = true) → missTo H s L = 0 := by
      intro L
      induction L with
      | nil => intro _; rfl
      | cons x L ih =>
        intro hL
        have hx := hL x (by simp)
        have h1 := (lack_zero hs (hH x) (bit_lt_of (n := 32) hs hx)).2 (fun y hy hne => h x y hx hy (fun e => hne e.symm))
        have h2 := ih (fun y hy => hL y (by simp [hy]))
        simp only [missTo, List.map_cons, List.sum_cons] at *
        omega
    unfold missN
    rw [this _ (fun x hx => (mem_bitsN hs).1 hx)]
def simpB (H : List Nat) (left v : Nat) : Bool := decide (missN H (H.getD v 0 &&& left) = 0)
/-- The smallest order of elimination. -/
def peoF (H : List Nat) : Nat → Nat → List Nat → Option (List Nat)
  | 0, _, out => some out
  | n + 1, left, out => if left = 0 then some out else match (bitsN left).find? (simpB H left) with
    | none => none
    | some v => peoF H n (andN left (bit v)) (out ++ [v])
def peo (H : List Nat) : Option (List Nat) := peoF H H.length (firstN H.length) []
theorem peoF_zero {H : List Nat} {n : Nat} {out : List Nat} : peoF H n 0 out = some out := by cases n <;> simp [peoF]
theorem peoF_none {H : List Nat} {n left : Nat} {out : List Nat} (h0 : left ≠ 0) (h : ∀ v ∈ bitsN left, simpB H left v = false) : peoF H (n + 1) left out = none := by
  rw [peoF, if_neg h0, List.find?_eq_none.2 (fun v hv => by rw [h v hv]; simp)]
theorem peoF_some {H : List Nat} {n left j : Nat} {out : List Nat} (h0 : left ≠ 0) (hj : j < (bitsN left).length) (h : simpB H left (bitsN left)[j] = true) (hb : ∀ i (hi : i < j), simpB H left ((bitsN left)[i]'(by omega)) = false) :
    peoF H (n + 1) left out = peoF H n (andN left (bit (bitsN left)[j])) (out ++ [(bitsN left)[j]]) := by
  rw [peoF, if_neg h0, List.find?_eq_some_iff_getElem.2 ⟨h, j, hj, rfl, fun i hi => by rw [hb i hi]; rfl⟩]
theorem pop_drop {left v : Nat} (hl : left < 4294967296) (hv : left.testBit v = true) : popN (andN left (bit v)) + 1 = popN left := by
  have hv32 := bit_lt_of (n := 32) hl hv
  have ha := Nat.lt_of_le_of_lt (andN_le left (bit v)) hl
  rw [← popN_add (m := andN left (bit v)) (x := v) ha hv32 (by rw [testBit_andN hl (bit_lt hv32), testBit_bit]; simp)]
  congr 1
  apply nat_ext
  intro i
  rw [Nat.testBit_or, testBit_andN hl (bit_lt hv32), testBit_bit]
  by_cases e : v = i
  · subst e; simp [hv]
  · simp [e]
theorem peoF_len {H : List Nat} : ∀ {n left : Nat} {out r : List Nat}, left < 4294967296 → popN left ≤ n → peoF H n left out = some r → r.length = out.length + popN left
  | 0, left, out, r, hl, hp, h => by
    rw [peoF, Option.some.injEq] at h
    subst h; omega
  | n + 1, left, out, r, hl, hp, h => by
    rw [peoF] at h
    by_cases h0 : left = 0
    · rw [if_pos h0, Option.some.injEq] at h
      subst h; subst h0
      rw [(popN_zero hl).2 rfl]; omega
    · rw [if_neg h0] at h
      cases hf : (bitsN left).find? (simpB H left) with
      | none => rw [hf] at h; cases h
      | some v =>
        rw [hf] at h
        have hv := (mem_bitsN hl).1 (List.mem_of_find?_eq_some hf)
        have hd := pop_drop hl hv
        have := peoF_len (Nat.lt_of_le_of_lt (andN_le _ _) hl) (by omega) h
        rw [List.length_append, List.length_singleton] at this
        omega
/-- Where there is an order, there is no loop without chords. -/
theorem peo_no_chord {H : List Nat} {k : Nat} (hH : ∀ v, H.getD v 0 < 4294967296) (hs : ∀ x y, x < k → y < k → (H.getD x 0).testBit y = true → (H.getD y 0).testBit x = true) {q : List Nat} (hq : ChordN H k q) :
    ∀ {n left : Nat} {out r : List Nat}, left < 4294967296 → (∀ i, left.testBit i = true → i < k) → popN left ≤ n → peoF H n left out = some r → ¬ ∀ x ∈ q, left.testBit x = true
  | 0, left, out, r, hl, hk, hp, h, hin => by
    have h4 := hq.four
    have : left = 0 := (popN_zero hl).1 (by omega)
    have h1 := hin _ (getD_mem (p := q) (i := 0) (by omega))
    rw [this, Nat.zero_testBit] at h1; cases h1
  | n + 1, left, out, r, hl, hk, hp, h, hin => by
    rw [peoF] at h
    by_cases h0 : left = 0
    · have h4 := hq.four
      have h1 := hin _ (getD_mem (p := q) (i := 0) (by omega))
      rw [h0, Nat.zero_testBit] at h1; cases h1
    · rw [if_neg h0] at h
      cases hf : (bitsN left).find? (simpB H left) with
      | none => rw [hf] at h; cases h
      | some v =>
        rw [hf] at h
        have hv := (mem_bitsN hl).1 (List.mem_of_find?_eq_some hf)
        have hsi := List.find?_some hf
        have hv32 := bit_lt_of (n := 32) hl hv
        have hd := pop_drop hl hv
        have hcl : CliqN H (H.getD v 0 &&& left) := (miss_zero (Nat.lt_of_le_of_lt Nat.and_le_right hl) hH (fun x y hx hy => hs x y (hk x (by rw [Nat.testBit_and, Bool.and_eq_true] at hx; exact hx.2)) (hk y (by rw [Nat.testBit_and, Bool.and_eq_true] at hy; exact hy.2)))).1 (by simpa [simpB] using hsi)
        have hout := chord_out (left := bitsN left) (v := v) hs hq (fun x hx => (mem_bitsN hl).2 (hin x hx)) (fun x y hx hy hne h1 h2 => hcl x y (by rw [Nat.testBit_and, h1, (mem_bitsN hl).1 hx]; rfl) (by rw [Nat.testBit_and, h2, (mem_bitsN hl).1 hy]; rfl) hne)
        refine peo_no_chord hH hs hq (Nat.lt_of_le_of_lt (andN_le _ _) hl) (fun i hi => hk i ?_) (by omega) h (fun x hx => ?_)
        · rw [testBit_andN hl (bit_lt hv32), Bool.and_eq_true] at hi; exact hi.1
        · rw [testBit_andN hl (bit_lt hv32), hin x hx, testBit_bit]
          have : ¬ v = x := fun e => hout (by rw [e]; exact hx)
          simp [this]
end Go.Proofs.YtpdlcnpmljfclaaDoor
