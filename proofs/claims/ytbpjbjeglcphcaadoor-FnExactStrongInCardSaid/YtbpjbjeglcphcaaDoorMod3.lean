/- ModuleIn and SplitterOf of the program. -/
import Derived.Test.YtbpjbjeglcphcaaDoorMod2
namespace Go.Proofs.YtbpjbjeglcphcaaDoor
open Go.RowKit

/-- Words as integers. -/
def natsI (l : List Nat) : List Int := l.map fun n : Nat => (n : Int)
theorem natsI_len (l : List Nat) : (natsI l).length = l.length := by simp [natsI]
theorem natsI_get {l : List Nat} {i : Nat} (h : i < (natsI l).length) : (natsI l)[i] = ((l[i]'(by simpa [natsI] using h) : Nat) : Int) := by simp [natsI]
def netsL (g : List (List Int)) : List Nat := g.map maskL
theorem netsI_snoc (l : List (List Int)) (x : List Int) : natsI (netsL (l ++ [x])) = natsI (netsL l) ++ [(maskL x : Int)] := by simp [natsI, netsL]
theorem GOk.ge {g : List (List Int)} (h : GOk g) {v : Nat} (hv : v < g.length) : ∀ x ∈ g[v], 0 ≤ x ∧ x < g.length := by
  intro x hx
  obtain ⟨i, hi, rfl⟩ := List.getElem_of_mem hx
  have := h.rise v hv i hi hi
  omega
theorem GOk.ge32 {g : List (List Int)} (h : GOk g) {v : Nat} (hv : v < g.length) : ∀ x ∈ g[v], 0 ≤ x ∧ x < 32 := by
  intro x hx
  have h1 := h.ge hv x hx
  have h2 := h.hi
  omega
theorem rise_ge {s : List Int} {n : Int} (h : Rise s n) : ∀ x ∈ s, 0 ≤ x ∧ x < n := by
  intro x hx
  obtain ⟨i, hi, rfl⟩ := List.getElem_of_mem hx
  have := h i hi hi
  omega
/-- a &^ b. -/
def andN (a b : Nat) : Nat := a &&& (4294967295 - b)
theorem testBit_andN {a b : Nat} (ha : a < 4294967296) (hb : b < 4294967296) (i : Nat) : (andN a b).testBit i = (a.testBit i && !b.testBit i) := by
  unfold andN
  rw [Nat.testBit_and]
  have e : 4294967295 - b = 2 ^ 32 - (b + 1) := by omega
  rw [e, Nat.testBit_two_pow_sub_succ (by simpa using hb)]
  by_cases h : i < 32
  · simp [h]
  · have : a.testBit i = false := Nat.testBit_lt_two_pow (Nat.lt_of_lt_of_le ha (by
      have := Nat.pow_le_pow_right (n := 2) (by decide) (show 32 ≤ i by omega); simpa using this))
    simp [this]
theorem andN_le (a b : Nat) : andN a b ≤ a := Nat.and_le_left
theorem firstN_lt {n : Nat} (h : n ≤ 16) : firstN n < 65536 := by
  have h1 := pow_le16 h
  have h2 := Nat.two_pow_pos n
  unfold firstN; omega
/-- Which of some vertices split a set of words. -/
def splW (a : List Nat) (s : Nat) (v : Int) : Bool := decide (a.getD v.toNat 0 &&& s ≠ 0) && decide (a.getD v.toNat 0 &&& s ≠ s)
def splN (a : List Nat) (within s : Nat) : Nat := maskL ((bitsI (andN within s)).filter (splW a s))
theorem maskL_filter_take {l : List Int} {p : Int → Bool} {k : Nat} (hk : k < l.length) : maskL ((l.take (k + 1)).filter p) = if p l[k] = true then maskL ((l.take k).filter p) ||| bit (l[k]).toNat else maskL ((l.take k).filter p) := by
  rw [List.take_succ_eq_append_getElem hk, List.filter_append]
  by_cases h : p l[k] = true
  · rw [if_pos h, ← maskL_snoc]; simp [h]
  · rw [if_neg h]; simp [h]
theorem bitsI_lt {m : Nat} {n : Nat} (hm : m < 2 ^ n) (hn : n ≤ 32) : ∀ v ∈ bitsI m, 0 ≤ v ∧ v < n := by
  intro v hv
  have hm32 : m < 4294967296 := Nat.lt_of_lt_of_le hm (by have := Nat.pow_le_pow_right (n := 2) (by decide) hn; simpa using this)
  obtain ⟨h0, h1⟩ := (mem_bitsI hm32).1 hv
  refine ⟨h0, ?_⟩
  apply Int.lt_of_not_ge
  intro hge
  have : m < 2 ^ v.toNat := Nat.lt_of_lt_of_le hm (Nat.pow_le_pow_right (by decide) (by omega))
  rw [Nat.testBit_lt_two_pow this] at h1; cases h1
theorem lt_bits {m n : Nat} (h : ∀ i, m.testBit i = true → i < n) : m < 2 ^ n := Nat.lt_pow_two_of_testBit m fun i hi => by
  by_cases hb : m.testBit i = true
  · have := h i hb; omega
  · simpa using hb

theorem implSetOk_any {S S' : Nat → Prop} (v u : Value) (g : List (List Int)) (s : List Int) (w : World) (hv : SlR S w v g) (hu : SlI S' w .i64 u s) :
    Calls Tryd.prog 34 #[.agg #[v], u] w fun e w' => e = .returned (.bool (setOkB g s)) ∧ Below w.heap.size w w' := by
  have hb : Below w.heap.size w (w.alloc (.cells #[v] 28)) := (Below.refl _ _).alloc (Nat.le_refl _) _
  obtain ⟨va, vc, rfl⟩ := hv.slice
  by_cases hg : GOk g
  · have hg1 := gokB_true hg
    have hlo := hg.lo
    have hhi := hg.hi
    go_enter Tryd.func34, Tryd.ntmps34
    go_wp2_with fail
    refine (implGraphOk_any _ _ _ (hv.below hb (Nat.le_refl _))).mono ?_
    rintro e w' ⟨rfl, hb2⟩
    have c1 : w'.cell? ⟨w.heap.size, 0, none⟩ = some (.slice va g.length vc) := (hb2.cell (p := ⟨w.heap.size, 0, none⟩) (by simp)).trans (by simp [go_sem])
    have hq := hb.trans (hb2.mono hb.size)
    have hs : (riseB s g.length) = setOkB g s := by simp [setOkB, hg1]
    have HS := Lib.hid hs; clear hs
    go_wp2_with (go_at_call 45; refine (increasing_any _ _ _ _ (hu.below hq (Nat.le_refl _)) (by omega) (by omega)).mono ?_; rintro e w' ⟨rfl, rfl⟩)
    go_ret
    exact ⟨ret_bool HS.out, hq⟩
  · have hg1 := gokB_false hg
    go_enter Tryd.func34, Tryd.ntmps34
    go_wp2_with (go_at_call 33; refine (implGraphOk_any _ _ _ (hv.below hb (Nat.le_refl _))).mono ?_; rintro e w' ⟨rfl, hb2⟩)
    go_ret
    exact ⟨ret_bool (by simp [setOkB, hg1]), hb.trans (hb2.mono hb.size)⟩
theorem elNets : Elem Tryd.prog 44 39 1 4 (.int .u32 0) := ⟨Tryd.underlying44, by kernel_rfl, rfl, by omega, by omega⟩
set_option maxHeartbeats 1000000 in
theorem netsOf_any {S : Nat → Prop} (v : Value) (g : List (List Int)) (w : World) (hv : SlR S w v g) (hg : GOk g) :
    Calls Tryd.prog 21 #[.agg #[v]] w fun e w' => ∃ u, e = .returned u ∧ Own w' w.heap.size 39 1 u g.length ((natsI (netsL g)).map (.int .u32)) ∧ Below w.heap.size w w' := by
  obtain ⟨a, b, off, cap, f, rfl, hl, ha, hc0⟩ := hv
  have hhi := hg.hi
  go_enter Tryd.func21, Tryd.ntmps21
  go_wp2
  go_loopw [10, 3] (fun i o wr => ∃ k : Nat, k ≤ g.length ∧ i = .int .i64 k ∧ Own wr w.heap.size 39 1 o k ((natsI (netsL (g.take k))).map (.int .u32)) ∧ Below w.heap.size w wr) (fun i _ _ => g.length - (intOf i).toNat)
  case atStart =>
    refine ⟨0, Nat.zero_le _, rfl, ?_, ((Below.refl _ _).alloc (Nat.le_refl _) _).alloc (by simp) _⟩
    have := World.ownsRow_lit (base := w.heap.size) (e := 39) (size := 1) (w.alloc (.cells #[.slice a g.length cap] 28)) #[] 0 (by simp) (by unfold maxLen; omega) rfl
    simpa [Own, natsI, netsL] using this
  case round =>
    obtain ⟨k, hk, rfl, hown, hq⟩ := hrel
    have hc := hc0.below hq (Nat.le_refl _)
    have hB := hq.size
    by_cases hlt : k < g.length
    · obtain ⟨hcell, hrow⟩ := hc k hlt
      obtain ⟨rfl, hS⟩ := ha (by omega)
      go_wp2_with (first
        | (go_at_call 18; refine (maskOf_any _ _ _ hrow (hg.ge32 hlt)).mono ?_; rintro e w' ⟨rfl, rfl⟩)
        | (at_builtin; refine wpList_append1 elNets rfl _ _ rfl hown rfl rfl rfl (by omega) hB ?_; intro v' w1 hown1 hkept hmv))
      go_roundw
      case rel =>
        refine ⟨k + 1, by omega, by go_num, ?_, hkept.below hq hB hown.ge⟩
        rw [List.take_succ_eq_append_getElem hlt, netsI_snoc, List.map_append]; exact hown1
      case measure => simp [intOf]; omega
    · go_wp2
      go_ret
      obtain rfl : k = g.length := by omega
      rw [List.take_length] at hown
      exact ⟨_, rfl, hown, hq⟩
theorem allOf_any (a : Option Addr) (n c : Nat) (w : World) (hn : n ≤ 16) : Calls Tryd.prog 36 #[.slice a n c] w fun e w' => e = .returned (.int .u32 (firstN n : Int)) ∧ w = w' := by
  go_enter Tryd.func36, Tryd.ntmps36
  go_wp2_with (go_at_call 48; refine (firstOf_any _ _ (by omega) (by omega)).mono ?_; rintro e w' ⟨rfl, rfl⟩)
  go_ret
  exact ⟨rfl, rfl⟩
set_option maxHeartbeats 2000000 in
theorem splitters_any {S : Nat → Prop} (v : Value) (a : List Nat) (wi s : Nat) (w : World) (ht : Tab w) (hv : SlI S w .u32 v (natsI a)) (ha16 : a.length ≤ 16) (hwi : wi < 2 ^ a.length) (hs : s < 4294967296) (hal : ∀ x ∈ a, x < 4294967296) :
    Calls Tryd.prog 35 #[v, .int .u32 wi, .int .u32 s] w fun e w' => e = .returned (.int .u32 (splN a wi s : Int)) ∧ Below w.heap.size w w' := by
  have hw32 : wi < 4294967296 := Nat.lt_of_lt_of_le hwi (by have := pow_le16 ha16; omega)
  have hl32 : andN wi s < 2 ^ a.length := Nat.lt_of_le_of_lt (andN_le _ _) hwi
  have hl4 : andN wi s < 4294967296 := Nat.lt_of_le_of_lt (andN_le _ _) hw32
  have hbl := bitsI_lt hl32 (by omega)
  obtain ⟨va, vb, voff, vcap, rfl, hvl, hva, hvc0⟩ := hv
  have han : bits BinOp.andNot IntKind.u32 (wi : Int) (s : Int) = (andN wi s : Int) := u32_andNot_nat wi s hw32 hs
  have hnl := natsI_len a
  have HNL := Lib.hid hnl; clear hnl
  go_enter Tryd.func35, Tryd.ntmps35
  go_wp2_with (go_at_call 47; refine (list_any _ _ ht hl4).mono ?_; rintro e w' ⟨u, rfl, hu, hq'⟩; obtain ⟨ua, ub, uoff, ucap, rfl, hul, hua, huc0⟩ := hu.ints (by have := bitsI_len (andN wi s); omega))
  clear han
  go_loopw [16, 7] (fun i o wr => ∃ k : Nat, k ≤ (bitsI (andN wi s)).length ∧ i = .int .i64 k ∧ o = .int .u32 (maskL (((bitsI (andN wi s)).take k).filter (splW a s)) : Int) ∧ Drawn w' wr) (fun i _ _ => (bitsI (andN wi s)).length - (intOf i).toNat)
  case atStart => exact ⟨0, Nat.zero_le _, rfl, by simp [maskL], Drawn.refl _⟩
  case round =>
    obtain ⟨k, hk, rfl, rfl, hd⟩ := hrel
    have hvc := (hvc0.below hq' (Nat.le_refl _)).drawn hd
    have huc := huc0.drawn hd
    have hbk := bitsI_len (andN wi s)
    by_cases hlt : k < (bitsI (andN wi s)).length
    · have hxk := hbl (bitsI (andN wi s))[k] (List.getElem_mem _)
      have hcell := huc k hlt
      obtain ⟨rfl, _⟩ := hua (by omega)
      obtain ⟨x, hx⟩ := Int.eq_ofNat_of_zero_le hxk.1
      have hft := maskL_filter_take (p := splW a s) hlt
      rw [hx] at hcell hft hxk
      have hxa : x < a.length := by omega
      have hcell2 := hvc x (by rw [HNL.out]; exact hxa)
      rw [natsI_get] at hcell2
      obtain ⟨rfl, _⟩ := hva (by rw [HNL.out]; omega)
      have hax := hal a[x] (List.getElem_mem _)
      have hand := u32_and_nat a[x] s hax hs
      have hxb : (x : Int) < (natsI a).length := by rw [HNL.out]; omega
      have hml : maskL (((bitsI (andN wi s)).take k).filter (splW a s)) < 4294967296 := by
        have := maskL_lt (xs := ((bitsI (andN wi s)).take k).filter (splW a s)) (n := 32) (fun v hv => by have := hbl v (List.mem_of_mem_take (List.mem_filter.1 hv).1); omega)
        simpa using this
      have hor := u32_or_nat _ (bit x) hml (bit_lt (by omega))
      have hsw : splW a s (x : Int) = (decide (a[x] &&& s ≠ 0) && decide (a[x] &&& s ≠ s)) := by simp [splW, hxa]
      have HFT := Lib.hid hft; have HX := Lib.hid hx; have HSW := Lib.hid hsw; clear hft hx hsw
      have HOR := Lib.hid hor; clear hor
      by_cases h1 : a[x] &&& s = 0
      · have hb1 : (((a[x] &&& s : Nat) : Int) != 0) = false := by rw [h1]; rfl
        go_wp2
        go_roundw
        case rel => exact ⟨k + 1, by omega, by go_num, by rw [HFT.out, HSW.out, if_neg (by simp [h1])], hd⟩
        case measure => simp [intOf]; omega
      · have hb1 : (((a[x] &&& s : Nat) : Int) != 0) = true := by rw [bne_iff_ne]; omega
        by_cases h2 : a[x] &&& s = s
        · have hb2 : (((a[x] &&& s : Nat) : Int) != (s : Int)) = false := by rw [h2]; simp
          go_wp2
          go_roundw
          case rel => exact ⟨k + 1, by omega, by go_num, by rw [HFT.out, HSW.out, if_neg (by simp [h2])], hd⟩
          case measure => simp [intOf]; omega
        · have hb2 : (((a[x] &&& s : Nat) : Int) != (s : Int)) = true := by rw [bne_iff_ne]; omega
          go_wp2_with (go_at_call 37; refine (one_any _ _ (by omega) (by omega)).mono ?_; rintro e w2 ⟨rfl, rfl⟩)
          go_roundw
          case rel => exact ⟨k + 1, by omega, by go_num, by rw [HFT.out, HSW.out, if_pos (by simp [h1, h2])]; exact congrArg (Value.int .u32) HOR.out, hd⟩
          case measure => simp [intOf]; omega
    · go_wp2
      go_ret
      refine ⟨ret_int ?_, hq'.trans (hd.below _ |>.mono hq'.size)⟩
      rw [List.take_of_length_le (by omega)]; rfl
end Go.Proofs.YtbpjbjeglcphcaaDoor
