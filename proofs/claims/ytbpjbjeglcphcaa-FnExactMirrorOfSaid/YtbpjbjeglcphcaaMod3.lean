/- ModuleIn and SplitterOf of the program. -/
import Derived.Test.YtbpjbjeglcphcaaMod2
namespace Go.Proofs.Ytbpjbjeglcphcaa
open Go.RowKit

/-- Words as integers. -/
def natsI (l : List Nat) : List Int := l.map fun n : Nat => (n : Int)
theorem natsI_len (l : List Nat) : (natsI l).length = l.length := by simp [natsI]
theorem natsI_get {l : List Nat} {i : Nat} (h : i < (natsI l).length) : (natsI l)[i] = ((l[i]'(by simpa [natsI] using h) : Nat) : Int) := by simp [natsI]
def netsL (g : List (List Int)) : List Nat := g.map maskL
theorem netsI_snoc (l : List (List Int)) (x : List Int) : natsI (netsL (l ++ [x])) = natsI (netsL l) ++ [(maskL x : Int)] := by simp [natsI, netsL]
theorem GOk.ge {g : List (List Int)} (h : GOk g) {v : Nat} (hv : v < g.length) : ∀ x ∈ g[v], 0 ≤ x ∧ x < g.length := by
  intro x hx
  obtain ⟨i, hi, rfl⟩ := List.getElem_of_mem hx
  have := h.rise v hv i hi hi
  omega
theorem GOk.ge32 {g : List (List Int)} (h : GOk g) {v : Nat} (hv : v < g.length) : ∀ x ∈ g[v], 0 ≤ x ∧ x < 32 := by
  intro x hx
  have h1 := h.ge hv x hx
  have h2 := h.hi
  omega
theorem rise_ge {s : List Int} {n : Int} (h : Rise s n) : ∀ x ∈ s, 0 ≤ x ∧ x < n := by
  intro x hx
  obtain ⟨i, hi, rfl⟩ := List.getElem_of_mem hx
  have := h i hi hi
  omega
/-- a &^ b. -/
def andN (a b : Nat) : Nat := a &&& (4294967295 - b)
theorem testBit_andN {a b : Nat} (ha : a < 4294967296) (hb : b < 4294967296) (i : Nat) : (andN a b).testBit i = (a.testBit i && !b.testBit i) := by
  unfold andN
  rw [Nat.testBit_and]
  have e : 4294967295 - b = 2 ^ 32 - (b + 1) := by omega
  rw [e, Nat.testBit_two_pow_sub_succ (by simpa using hb)]
  by_cases h : i < 32
  · simp [h]
  · have : a.testBit i = false := Nat.testBit_lt_two_pow (Nat.lt_of_lt_of_le ha (by
      have := Nat.pow_le_pow_right (n := 2) (by decide) (show 32 ≤ i by omega); simpa using this))
    simp [this]
theorem andN_le (a b : Nat) : andN a b ≤ a := Nat.and_le_left
theorem firstN_lt {n : Nat} (h : n ≤ 16) : firstN n < 65536 := by
  have h1 := pow_le16 h
  have h2 := Nat.two_pow_pos n
  unfold firstN; omega
/-- Which of some vertices split a set of words. -/
def splW (a : List Nat) (s : Nat) (v : Int) : Bool := decide (a.getD v.toNat 0 &&& s ≠ 0) && decide (a.getD v.toNat 0 &&& s ≠ s)
def splN (a : List Nat) (within s : Nat) : Nat := maskL ((bitsI (andN within s)).filter (splW a s))
theorem maskL_filter_take {l : List Int} {p : Int → Bool} {k : Nat} (hk : k < l.length) : maskL ((l.take (k + 1)).filter p) = if p l[k] = true then maskL ((l.take k).filter p) ||| bit (l[k]).toNat else maskL ((l.take k).filter p) := by
  rw [List.take_succ_eq_append_getElem hk, List.filter_append]
  by_cases h : p l[k] = true
  · rw [if_pos h, ← maskL_snoc]; simp [h]
  · rw [if_neg h]; simp [h]
theorem bitsI_lt {m : Nat} {n : Nat} (hm : m < 2 ^ n) (hn : n ≤ 32) : ∀ v ∈ bitsI m, 0 ≤ v ∧ v < n := by
  intro v hv
  have hm32 : m < 4294967296 := Nat.lt_of_lt_of_le hm (by have := Nat.pow_le_pow_right (n := 2) (by decide) hn; simpa using this)
  obtain ⟨h0, h1⟩ := (mem_bitsI hm32).1 hv
  refine ⟨h0, ?_⟩
  apply Int.lt_of_not_ge
  intro hge
  have : m < 2 ^ v.toNat := Nat.lt_of_lt_of_le hm (Nat.pow_le_pow_right (by decide) (by omega))
  rw [Nat.testBit_lt_two_pow this] at h1; cases h1
theorem lt_bits {m n : Nat} (h : ∀ i, m.testBit i = true → i < n) : m < 2 ^ n := Nat.lt_pow_two_of_testBit m fun i hi => by
  by_cases hb : m.testBit i = true
  · have := h i hb; omega
  · simpa using hb

theorem implSetOk_any {S S' : Nat → Prop} (v u : Value) (g : List (List Int)) (s : List Int) (w : World) (hv : SlR S w v g) (hu : SlI S' w .i64 u s) :
    Calls Try.prog 40 #[.agg #[v], u] w fun e w' => e = .returned (.bool (setOkB g s)) ∧ Below w.heap.size w w' := by
  have hb : Below w.heap.size w (w.alloc (.cells #[v] 30)) := (Below.refl _ _).alloc (Nat.le_refl _) _
  obtain ⟨va, vc, rfl⟩ := hv.slice
  by_cases hg : GOk g
  · have hg1 := gokB_true hg
    have hlo := hg.lo
    have hhi := hg.hi
    go_enter Try.func40, Try.ntmps40
    go_wp2_with fail
    refine (implGraphOk_any _ _ _ (hv.below hb (Nat.le_refl _))).mono ?_
    rintro e w' ⟨rfl, hb2⟩
    have c1 : w'.cell? ⟨w.heap.size, 0, none⟩ = some (.slice va g.length vc) := (hb2.cell (p := ⟨w.heap.size, 0, none⟩) (by simp)).trans (by simp [go_sem])
    have hq := hb.trans (hb2.mono hb.size)
    have hs : (riseB s g.length) = setOkB g s := by simp [setOkB, hg1]
    have HS := Lib.hid hs; clear hs
    go_wp2_with (go_at_call 56; refine (increasing_any _ _ _ _ (hu.below hq (Nat.le_refl _)) (by omega) (by omega)).mono ?_; rintro e w' ⟨rfl, rfl⟩)
    go_ret
    exact ⟨ret_bool HS.out, hq⟩
  · have hg1 := gokB_false hg
    go_enter Try.func40, Try.ntmps40
    go_wp2_with (go_at_call 33; refine (implGraphOk_any _ _ _ (hv.below hb (Nat.le_refl _))).mono ?_; rintro e w' ⟨rfl, hb2⟩)
    go_ret
    exact ⟨ret_bool (by simp [setOkB, hg1]), hb.trans (hb2.mono hb.size)⟩
