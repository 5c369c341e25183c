/- ModuleIn and SplitterOf of the program. -/
import Derived.Test.YtbpjbjeglcphcaaGreatDoorMod2
namespace Go.Proofs.YtbpjbjeglcphcaaGreatDoor
open Go.RowKit

/-- Words as integers. -/
def natsI (l : List Nat) : List Int := l.map fun n : Nat => (n : Int)
theorem natsI_len (l : List Nat) : (natsI l).length = l.length := by simp [natsI]
theorem natsI_get {l : List Nat} {i : Nat} (h : i < (natsI l).length) : (natsI l)[i] = ((l[i]'(by simpa [natsI] using h) : Nat) : Int) := by simp [natsI]
def netsL (g : List (List Int)) : List Nat := g.map maskL
theorem netsI_snoc (l : List (List Int)) (x : List Int) : natsI (netsL (l ++ [x])) = natsI (netsL l) ++ [(maskL x : Int)] := by simp [natsI, netsL]
theorem GOk.ge {g : List (List Int)} (h : GOk g) {v : Nat} (hv : v < g.length) : ∀ x ∈ g[v], 0 ≤ x ∧ x < g.length := by
  intro x hx
  obtain ⟨i, hi, rfl⟩ := List.getElem_of_mem hx
  have := h.rise v hv i hi hi
  omega
theorem GOk.ge32 {g : List (List Int)} (h : GOk g) {v : Nat} (hv : v < g.length) : ∀ x ∈ g[v], 0 ≤ x ∧ x < 32 := by
  intro x hx
  have h1 := h.ge hv x hx
  have h2 := h.hi
  omega
theorem rise_ge {s : List Int} {n : Int} (h : Rise s n) : ∀ x ∈ s, 0 ≤ x ∧ x < n := by
  intro x hx
  obtain ⟨i, hi, rfl⟩ := List.getElem_of_mem hx
  have := h i hi hi
  omega
/-- a &^ b. -/
def andN (a b : Nat) : Nat := a &&& (4294967295 - b)
theorem testBit_andN {a b : Nat} (ha : a < 4294967296) (hb : b < 4294967296) (i : Nat) : (andN a b).testBit i = (a.testBit i && !b.testBit i) := by
  unfold andN
  rw [Nat.testBit_and]
  have e : 4294967295 - b = 2 ^ 32 - (b + 1) := by omega
  rw [e, Nat.testBit_two_pow_sub_succ (by simpa using hb)]
  by_cases h : i < 32
  · simp [h]
  · have : a.testBit i = false := Nat.testBit_lt_two_pow (Nat.lt_of_lt_of_le ha (by
      have := Nat.pow_le_pow_right (n := 2) (by decide) (show 32 ≤ i by omega); simpa using this))
    simp [this]
theorem andN_le (a b : Nat) : andN a b ≤ a := Nat.and_le_left
theorem firstN_lt {n : Nat} (h : n ≤ 16) : firstN n < 65536 := by
  have h1 := pow_le16 h
  have h2 := Nat.two_pow_pos n
  unfold firstN; omega
/-- Which of some vertices split a set of words. -/
def splW (a : List Nat) (s : Nat) (v : Int) : Bool := decide (a.getD v.toNat 0 &&& s ≠ 0) && decide (a.getD v.toNat 0 &&& s ≠ s)
def splN (a : List Nat) (within s : Nat) : Nat := maskL ((bitsI (andN within s)).filter (splW a s))
theorem maskL_filter_take {l : List Int} {p : Int → Bool} {k : Nat} (hk : k < l.length) : maskL ((l.take (k + 1)).filter p) = if p l[k] = true then maskL ((l.take k).filter p) ||| bit (l[k]).toNat else maskL ((l.take k).filter p) := by
  rw [List.take_succ_eq_append_getElem hk, List.filter_append]
  by_cases h : p l[k] = true
  · rw [if_pos h, ← maskL_snoc]; simp [h]
  · rw [if_neg h]; simp [h]
theorem bitsI_lt {m : Nat} {n : Nat} (hm : m < 2 ^ n) (hn : n ≤ 32) : ∀ v ∈ bitsI m, 0 ≤ v ∧ v < n := by
  intro v hv
  have hm32 : m < 4294967296 := Nat.lt_of_lt_of_le hm (by have := Nat.pow_le_pow_right (n := 2) (by decide) hn; simpa using this)
  obtain ⟨h0, h1⟩ := (mem_bitsI hm32).1 hv
  refine ⟨h0, ?_⟩
  apply Int.lt_of_not_ge
  intro hge
  have : m < 2 ^ v.toNat := Nat.lt_of_lt_of_le hm (Nat.pow_le_pow_right (by decide) (by omega))
  rw [Nat.testBit_lt_two_pow this] at h1; cases h1
theorem lt_bits {m n : Nat} (h : ∀ i, m.testBit i = true → i < n) : m < 2 ^ n := Nat.lt_pow_two_of_testBit m fun i hi => by
  by_cases hb : m.testBit i = true
  · have := h i hb; omega
  · simpa using hb

theorem elNets : Elem Tryz.prog 57 61 1 4 (.int .u32 0) := ⟨Tryz.underlying57, by kernel_rfl, rfl, by omega, by omega⟩
set_option maxHeartbeats 1000000 in
theorem netsOf_any {S : Nat → Prop} (v : Value) (g : List (List Int)) (w : World) (hv : SlR S w v g) (hg : GOk g) :
    Calls Tryz.prog 31 #[.agg #[v]] w fun e w' => ∃ u, e = .returned u ∧ Own w' w.heap.size 61 1 u g.length ((natsI (netsL g)).map (.int .u32)) ∧ Below w.heap.size w w' := by
  obtain ⟨a, b, off, cap, f, rfl, hl, ha, hc0⟩ := hv
  have hhi := hg.hi
  go_enter Tryz.func31, Tryz.ntmps31
  go_wp2
  go_loopw [10, 3] (fun i o wr => ∃ k : Nat, k ≤ g.length ∧ i = .int .i64 k ∧ Own wr w.heap.size 61 1 o k ((natsI (netsL (g.take k))).map (.int .u32)) ∧ Below w.heap.size w wr) (fun i _ _ => g.length - (intOf i).toNat)
  case atStart =>
    refine ⟨0, Nat.zero_le _, rfl, ?_, ((Below.refl _ _).alloc (Nat.le_refl _) _).alloc (by simp) _⟩
    have := World.ownsRow_lit (base := w.heap.size) (e := 61) (size := 1) (w.alloc (.cells #[.slice a g.length cap] 30)) #[] 0 (by simp) (by unfold maxLen; omega) rfl
    simpa [Own, natsI, netsL] using this
  case round =>
    obtain ⟨k, hk, rfl, hown, hq⟩ := hrel
    have hc := hc0.below hq (Nat.le_refl _)
    have hB := hq.size
    by_cases hlt : k < g.length
    · obtain ⟨hcell, hrow⟩ := hc k hlt
      obtain ⟨rfl, hS⟩ := ha (by omega)
      go_wp2_with (first
        | (go_at_call 60; refine (maskOf_any _ _ _ hrow (hg.ge32 hlt)).mono ?_; rintro e w' ⟨rfl, rfl⟩)
        | (at_builtin; refine wpList_append1 elNets rfl _ _ rfl hown rfl rfl rfl (by omega) hB ?_; intro v' w1 hown1 hkept hmv))
      go_roundw
      case rel =>
        refine ⟨k + 1, by omega, by go_num, ?_, hkept.below hq hB hown.ge⟩
        rw [List.take_succ_eq_append_getElem hlt, netsI_snoc, List.map_append]; exact hown1
      case measure => simp [intOf]; omega
    · go_wp2
      go_ret
      obtain rfl : k = g.length := by omega
      rw [List.take_length] at hown
      exact ⟨_, rfl, hown, hq⟩
theorem allOf_any (a : Option Addr) (n c : Nat) (w : World) (hn : n ≤ 16) : Calls Tryz.prog 33 #[.slice a n c] w fun e w' => e = .returned (.int .u32 (firstN n : Int)) ∧ w = w' := by
  go_enter Tryz.func33, Tryz.ntmps33
  go_wp2_with (go_at_call 63; refine (firstOf_any _ _ (by omega) (by omega)).mono ?_; rintro e w' ⟨rfl, rfl⟩)
  go_ret
  exact ⟨rfl, rfl⟩
