/- Searches that put vertices one behind the other: plain facts. -/
import Derived.Test.YtpdlcnpmljfclaaDoorMod3
namespace Go.Proofs.YtpdlcnpmljfclaaDoor
open Go.RowKit

/-- The set of the vertices of a path. -/
def maskN (p : List Nat) : Nat := p.foldl (fun m a => m ||| bit a) 0
theorem testBit_foldN (p : List Nat) (m i : Nat) : (p.foldl (fun m a => m ||| bit a) m).testBit i = (m.testBit i || decide (i ∈ p)) := by
  induction p generalizing m with
  | nil => simp
  | cons a p ih =>
    rw [List.foldl_cons, ih, Nat.testBit_or, testBit_bit, Bool.or_assoc]
    congr 1
    by_cases h1 : a = i
    · subst h1; simp
    · have : ¬ i = a := fun h => h1 h.symm
      simp [h1, this]
theorem testBit_maskN (p : List Nat) (i : Nat) : (maskN p).testBit i = decide (i ∈ p) := by rw [maskN, testBit_foldN]; simp
theorem maskN_snoc (p : List Nat) (v : Nat) : maskN (p ++ [v]) = maskN p ||| bit v := by simp [maskN]
theorem maskN_lt {p : List Nat} {n : Nat} (h : ∀ a ∈ p, a < n) : maskN p < 2 ^ n := by
  apply Nat.lt_pow_two_of_testBit
  intro i hi
  rw [testBit_maskN]
  have : ¬ i ∈ p := fun h2 => by have := h i h2; omega
  simp [this]
theorem maskN_drop {p : List Nat} {v : Nat} (h : ∀ a ∈ p, a < 32) (hv : v < 32) (hn : ¬ v ∈ p) : andN (maskN (p ++ [v])) (bit v) = maskN p := by
  have h1 : maskN (p ++ [v]) < 4294967296 := by
    have := maskN_lt (p := p ++ [v]) (n := 32) (fun a ha => by
      rcases List.mem_append.1 ha with h2 | h2
      · exact h a h2
      · have : a = v := by simpa using h2
        omega)
    simpa using this
  apply Nat.eq_of_testBit_eq
  intro i
  rw [testBit_andN h1 (bit_lt hv), testBit_maskN, testBit_maskN, testBit_bit]
  by_cases e : v = i
  · subst e; simp [hn]
  · have e2 : ¬ i = v := fun h => e h.symm
    simp [e, e2]
/-- Does a vertex fit behind a path: as the pattern's next vertex? -/
def fitTo (H Q : List Nat) (p : List Nat) (v k : Nat) : Bool := (List.range k).all fun j => (H.getD v 0).testBit (p.getD j 0) == (Q.getD p.length 0).testBit j
def okB (H Q : List Nat) (p : List Nat) (v : Nat) : Bool := !decide (v ∈ p) && fitTo H Q p v p.length
theorem fitTo_succ (H Q p : List Nat) (v k : Nat) : fitTo H Q p v (k + 1) = (fitTo H Q p v k && ((H.getD v 0).testBit (p.getD k 0) == (Q.getD p.length 0).testBit k)) := by
  unfold fitTo; rw [List.range_succ, List.all_append]; simp
variable {σ : Type}
def loopS (f : Nat → σ → σ × Bool) : List Nat → σ → σ × Bool
  | [], s => (s, false)
  | v :: vs, s => if (f v s).2 = true then ((f v s).1, true) else loopS f vs (f v s).1
def srchF (H Q : List Nat) (ef : List Nat → σ → σ × Bool) : Nat → List Nat → σ → σ × Bool
  | 0, p, s => ef p s
  | d + 1, p, s => loopS (fun v s => if okB H Q p v = true then srchF H Q ef d (p ++ [v]) s else (s, false)) (List.range H.length) s
def fitEf (p : List Nat) (_ : Option (List Nat)) : Option (List Nat) × Bool := (some p, true)
theorem loopS_step {f : Nat → σ → σ × Bool} {n k : Nat} {s : σ} (hk : k < n) : loopS f (List.range' k (n - k)) s = if (f k s).2 = true then ((f k s).1, true) else loopS f (List.range' (k + 1) (n - (k + 1))) (f k s).1 := by
  obtain ⟨d, hd⟩ : ∃ d, n - k = d + 1 := ⟨n - k - 1, by omega⟩
  have : n - (k + 1) = d := by omega
  rw [hd, this, List.range'_succ, loopS]
theorem loopS_end {f : Nat → σ → σ × Bool} {n : Nat} {s : σ} : loopS f (List.range' n (n - n)) s = (s, false) := by simp [loopS]
theorem loopS_start {f : Nat → σ → σ × Bool} {n : Nat} {s : σ} : loopS f (List.range n) s = loopS f (List.range' 0 (n - 0)) s := by rw [List.range_eq_range']; simp
/-- A path of different vertices. -/
def GP (n : Nat) (p : List Nat) : Prop := (∀ a ∈ p, a < n) ∧ p.Nodup
theorem GP.snoc {n : Nat} {p : List Nat} {v : Nat} (h : GP n p) (hv : v < n) (hn : ¬ v ∈ p) : GP n (p ++ [v]) := by
  refine ⟨fun a ha => ?_, ?_⟩
  · rcases List.mem_append.1 ha with h1 | h1
    · exact h.1 a h1
    · have : a = v := by simpa using h1
      omega
  · rw [List.nodup_append]
    refine ⟨h.2, by simp, fun a ha b hb => ?_⟩
    have : b = v := by simpa using hb
    subst this
    intro e; subst e; exact hn ha
theorem meet2 {α β : Type} {H G : α → β → Prop} {R : Prop} (rest : ∀ a b, H a b → G a b) (orders : (∀ a b, H a b → G a b) → R) : R := orders rest
theorem meet5 {α β γ δ ε : Type} {H G : α → β → γ → δ → ε → Prop} {R : Prop} (rest : ∀ a b c d e, H a b c d e → G a b c d e) (orders : (∀ a b c d e, H a b c d e → G a b c d e) → R) : R := orders rest
theorem meet4 {α β γ δ : Type} {H G : α → β → γ → δ → Prop} {R : Prop} (rest : ∀ a b c d, H a b c d → G a b c d) (orders : (∀ a b c d, H a b c d → G a b c d) → R) : R := orders rest
theorem meet1 {α : Type} {H G : α → Prop} {R : Prop} (rest : ∀ a, H a → G a) (orders : (∀ a, H a → G a) → R) : R := orders rest
def shrN (m v : Nat) : Nat := m / 2 ^ v
def bitOf (m v : Nat) : Nat := shrN m v % 2
theorem bitOf_test (m v : Nat) : (((bitOf m v : Nat) : Int) == 1) = m.testBit v := by
  have h := Nat.testBit_eq_decide_div_mod_eq (x := m) (i := v)
  rw [h]
  unfold bitOf shrN
  by_cases h1 : m / 2 ^ v % 2 = 1
  · simp [h1]
  · have : m / 2 ^ v % 2 = 0 := by omega
    simp [this]
theorem has_any (m v : Nat) (w : World) (hm : m < 4294967296) (hv : v < 32) : Calls Tryd.prog 57 #[.int .u32 (m : Int), .int .i64 (v : Int)] w fun e w' => e = .returned (.bool (m.testBit v)) ∧ w = w' := by
  have he : ((m : Int) / (2 : Int) ^ v) = ((shrN m v : Nat) : Int) := by rw [pow_int]; rfl
  have hs : shrN m v < 4294967296 := Nat.lt_of_le_of_lt (Nat.div_le_self _ _) hm
  have ha := u32_and_nat (shrN m v) 1 hs (by omega)
  rw [Nat.and_one_is_mod, show shrN m v % 2 = bitOf m v from rfl] at ha
  have hb := bitOf_test m v
  have ha' : bits BinOp.and IntKind.u32 (shrN m v : Int) 1 = (bitOf m v : Int) := ha
  clear ha hs
  have HB := Lib.hid hb; clear hb
  go_enter Tryd.func57, Tryd.ntmps57
  go_wp2
  go_ret
  exact ⟨ret_bool HB.out, rfl⟩
end Go.Proofs.YtpdlcnpmljfclaaDoor
