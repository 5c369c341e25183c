/- What a slice of integers holds in memory, and small facts on worlds that the walks share. -/
import Derived.Test.YtdbanndcdbikmaaGreatDoorRows
import Derived.WalkKit
import Derived.WalkSpells
import Derived.WalkLawsBesides
import Derived.Deep.QuietTactic
import Derived.BigQuiet
import Derived.Lib.Hide
import Derived.Handy
import Derived.Deep.OwnRows
import Derived.Deep.RegionWith
import Derived.Deep.RegionHeld3
namespace Go.Proofs.YtdbanndcdbikmaaGreatDoor
open Go.RowKit

/-- The cells from ⟨b, off⟩ on hold the integers xs. -/
def IntsAt (w : World) (k : IntKind) (b off : Nat) (xs : List Int) : Prop := ∀ i (h : i < xs.length), w.cell? ⟨b, off + i, none⟩ = some (.int k xs[i])

/-- v is a slice that holds the integers xs, in a block of S. -/
def SlI (S : Nat → Prop) (w : World) (k : IntKind) (v : Value) (xs : List Int) : Prop :=
  ∃ a b off cap, v = .slice a xs.length cap ∧ (xs.length ≤ cap ∧ cap ≤ 9223372036854775807) ∧ (0 < xs.length → a = some ⟨b, off, none⟩ ∧ S b) ∧ IntsAt w k b off xs

theorem cell_heap {w w' : World} {a : Addr} (h : w'.heap[a.block]? = w.heap[a.block]?) : w'.cell? a = w.cell? a := by
  unfold World.cell?; rw [h]

theorem SlI.keep {S : Nat → Prop} {w w' : World} {k : IntKind} {v : Value} {xs : List Int} (h : SlI S w k v xs) (hw : ∀ b, S b → w'.heap[b]? = w.heap[b]?) : SlI S w' k v xs := by
  obtain ⟨a, b, off, cap, rfl, hl, ha, hc⟩ := h
  refine ⟨a, b, off, cap, rfl, hl, ha, fun i hi => ?_⟩
  have := (ha (by omega)).2
  rw [cell_heap (hw b this)]; exact hc i hi
theorem SlI.weak {S S' : Nat → Prop} {w : World} {k : IntKind} {v : Value} {xs : List Int} (h : SlI S w k v xs) (hS : ∀ b, S b → S' b) : SlI S' w k v xs := by
  obtain ⟨a, b, off, cap, rfl, hl, ha, hc⟩ := h
  exact ⟨a, b, off, cap, rfl, hl, fun h => ⟨(ha h).1, hS _ (ha h).2⟩, hc⟩
theorem SlI.drewN {S : Nat → Prop} {w : World} {k : IntKind} {v : Value} {xs : List Int} (h : SlI S w k v xs) (n : Nat) : SlI S (w.drewN n) k v xs := h.keep fun _ _ => rfl

theorem ret_bool {a b : Bool} (h : a = b) : Ending.returned (.bool a) = .returned (.bool b) := by rw [h]
theorem ret_int {k : IntKind} {a b : Int} (h : a = b) : Ending.returned (.int k a) = .returned (.int k b) := by rw [h]

/-- The same world, but for draws. -/
def Drawn (w w' : World) : Prop := ∃ m, w' = w.drewN m
theorem Drawn.refl (w : World) : Drawn w w := ⟨0, rfl⟩
theorem Drawn.drewN {w w' : World} (h : Drawn w w') (n : Nat) : Drawn w (w'.drewN n) := by
  obtain ⟨m, rfl⟩ := h; exact ⟨m + n, by rw [World.drewN_drewN]⟩
theorem Drawn.drew {w w' : World} (h : Drawn w w') : Drawn w w'.drew := h.drewN 1
theorem Drawn.trans {a b c : World} (h : Drawn a b) (k : Drawn b c) : Drawn a c := by
  obtain ⟨m, rfl⟩ := k; exact h.drewN m
theorem Drawn.heap {w w' : World} (h : Drawn w w') : w'.heap = w.heap := by obtain ⟨m, rfl⟩ := h; rfl
theorem Drawn.cell {w w' : World} (h : Drawn w w') (a : Addr) : w'.cell? a = w.cell? a := by obtain ⟨m, rfl⟩ := h; rfl
theorem Drawn.below {w w' : World} (h : Drawn w w') (B : Nat) : Below B w w' := by
  obtain ⟨m, rfl⟩ := h; exact ⟨rfl, rfl, rfl, Nat.le_refl _, fun _ _ => rfl⟩
theorem IntsAt.drawn {w w' : World} {k : IntKind} {b off : Nat} {xs : List Int} (h : IntsAt w k b off xs) (hw : Drawn w w') : IntsAt w' k b off xs :=
  fun i hi => (hw.cell _).trans (h i hi)
theorem SlI.drawn {S : Nat → Prop} {w w' : World} {k : IntKind} {v : Value} {xs : List Int} (h : SlI S w k v xs) (hw : Drawn w w') : SlI S w' k v xs :=
  h.keep fun _ _ => by rw [hw.heap]
theorem quiet_same {P : Program} {f : FuncId} {args : Array Value} {w : World} {n : Nat} {v : Value}
    (h : Calls P f args (w.drewN n) fun e w' => e = .returned v ∧ w.drewN n = w') : Calls P f args (w.drewN n) fun e w'' => e = .returned v ∧ ∃ m, w'' = w.drewN m :=
  h.mono fun _ _ ⟨he, hm⟩ => ⟨he, n, hm.symm⟩

theorem cell_lt {w : World} {a : Addr} {v : Value} (h : w.cell? a = some v) : a.block < w.heap.size := World.block_lt_of_cell? w a h
theorem IntsAt.below {w w' : World} {B : Nat} {k : IntKind} {b off : Nat} {xs : List Int} (h : IntsAt w k b off xs) (hb : Below B w w') (hB : w.heap.size ≤ B) : IntsAt w' k b off xs :=
  fun i hi => by
    have hl := cell_lt (h i hi)
    exact (hb.cell (p := ⟨b, off + i, none⟩) (by simp at hl ⊢; omega)).trans (h i hi)
theorem SlI.below {S : Nat → Prop} {w w' : World} {B : Nat} {k : IntKind} {v : Value} {xs : List Int} (h : SlI S w k v xs) (hb : Below B w w') (hB : w.heap.size ≤ B) : SlI S w' k v xs := by
  obtain ⟨a, b, off, cap, rfl, hl, ha, hc⟩ := h
  exact ⟨a, b, off, cap, rfl, hl, ha, hc.below hb hB⟩

/-- The cells from ⟨b, off⟩ on hold slices of integers: the i-th is f i, and holds the i-th list. -/
def RowsAt (S : Nat → Prop) (w : World) (b off : Nat) (f : Nat → Value) (g : List (List Int)) : Prop :=
  ∀ i (h : i < g.length), w.cell? ⟨b, off + i, none⟩ = some (f i) ∧ SlI S w .i64 (f i) g[i]
/-- v is a slice of slices of integers that holds g. -/
def SlR (S : Nat → Prop) (w : World) (v : Value) (g : List (List Int)) : Prop :=
  ∃ a b off cap f, v = .slice a g.length cap ∧ (g.length ≤ cap ∧ cap ≤ 9223372036854775807) ∧ (0 < g.length → a = some ⟨b, off, none⟩ ∧ S b) ∧ RowsAt S w b off f g
theorem RowsAt.keep {S : Nat → Prop} {w w' : World} {b off : Nat} {f : Nat → Value} {g : List (List Int)} (h : RowsAt S w b off f g) (hS : 0 < g.length → S b) (hw : ∀ b, S b → w'.heap[b]? = w.heap[b]?) : RowsAt S w' b off f g :=
  fun i hi => ⟨by rw [cell_heap (hw b (hS (by omega)))]; exact (h i hi).1, (h i hi).2.keep hw⟩
theorem RowsAt.below {S : Nat → Prop} {w w' : World} {B b off : Nat} {f : Nat → Value} {g : List (List Int)} (h : RowsAt S w b off f g) (hb : Below B w w') (hB : w.heap.size ≤ B) : RowsAt S w' b off f g :=
  fun i hi => by
    have hl := cell_lt (h i hi).1
    exact ⟨(hb.cell (p := ⟨b, off + i, none⟩) (by simp at hl ⊢; omega)).trans (h i hi).1, (h i hi).2.below hb hB⟩
theorem SlR.keep {S : Nat → Prop} {w w' : World} {v : Value} {g : List (List Int)} (h : SlR S w v g) (hw : ∀ b, S b → w'.heap[b]? = w.heap[b]?) : SlR S w' v g := by
  obtain ⟨a, b, off, cap, f, rfl, hl, ha, hc⟩ := h
  exact ⟨a, b, off, cap, f, rfl, hl, ha, hc.keep (fun h => (ha h).2) hw⟩
theorem SlR.below {S : Nat → Prop} {w w' : World} {B : Nat} {v : Value} {g : List (List Int)} (h : SlR S w v g) (hb : Below B w w') (hB : w.heap.size ≤ B) : SlR S w' v g := by
  obtain ⟨a, b, off, cap, f, rfl, hl, ha, hc⟩ := h
  exact ⟨a, b, off, cap, f, rfl, hl, ha, hc.below hb hB⟩
theorem SlR.weak {S S' : Nat → Prop} {w : World} {v : Value} {g : List (List Int)} (h : SlR S w v g) (hS : ∀ b, S b → S' b) : SlR S' w v g := by
  obtain ⟨a, b, off, cap, f, rfl, hl, ha, hc⟩ := h
  exact ⟨a, b, off, cap, f, rfl, hl, fun h => ⟨(ha h).1, hS _ (ha h).2⟩, fun i hi => ⟨(hc i hi).1, (hc i hi).2.weak hS⟩⟩

def inB (n lo hi : Int) : Bool := decide (lo ≤ n) && decide (n ≤ hi)
theorem inB_true {n lo hi : Int} (h : lo ≤ n ∧ n ≤ hi) : inB n lo hi = true := by simp [inB, h]
theorem inB_false {n lo hi : Int} (h : ¬ (lo ≤ n ∧ n ≤ hi)) : inB n lo hi = false := by
  unfold inB; by_cases h1 : lo ≤ n
  · have : ¬ n ≤ hi := fun h2 => h ⟨h1, h2⟩
    simp [this]
  · simp [h1]

def NotIn (xs : List Int) (n : Int) (k : Nat) : Prop := n ∉ xs.take k
theorem notIn_zero (xs : List Int) (n : Int) : NotIn xs n 0 := by simp [NotIn]
theorem notIn_succ {xs : List Int} {n : Int} {k : Nat} (hk : k < xs.length) (h : NotIn xs n k) (hne : ¬ xs[k] = n) : NotIn xs n (k + 1) := by
  unfold NotIn at *
  rw [List.take_succ_eq_append_getElem hk]
  simp only [List.mem_append, List.mem_singleton, not_or]
  exact ⟨h, fun e => hne e.symm⟩
theorem notIn_all {xs : List Int} {n : Int} {k : Nat} (hk : xs.length ≤ k) (h : NotIn xs n k) : decide (n ∈ xs) = false := by
  unfold NotIn at h; rw [List.take_of_length_le hk] at h; simpa using h
theorem isIn_get {xs : List Int} {n : Int} {k : Nat} (hk : k < xs.length) (h : xs[k] = n) : decide (n ∈ xs) = true := by
  subst h; simp

theorem SlI.slice {S : Nat → Prop} {w : World} {k : IntKind} {v : Value} {xs : List Int} (h : SlI S w k v xs) : ∃ a c, v = .slice a xs.length c := by
  obtain ⟨a, b, off, cap, rfl, _⟩ := h; exact ⟨a, cap, rfl⟩
theorem SlR.slice {S : Nat → Prop} {w : World} {v : Value} {g : List (List Int)} (h : SlR S w v g) : ∃ a c, v = .slice a g.length c := by
  obtain ⟨a, b, off, cap, f, rfl, _⟩ := h; exact ⟨a, cap, rfl⟩
theorem SlI.len {S : Nat → Prop} {w : World} {k : IntKind} {v : Value} {xs : List Int} (h : SlI S w k v xs) : xs.length ≤ 9223372036854775807 := by
  obtain ⟨a, b, off, cap, rfl, hl, _⟩ := h; omega
theorem SlR.len {S : Nat → Prop} {w : World} {v : Value} {g : List (List Int)} (h : SlR S w v g) : g.length ≤ 9223372036854775807 := by
  obtain ⟨a, b, off, cap, f, rfl, hl, _⟩ := h; omega


/-- Rising numbers from 0 below n. -/
def RiseTo (xs : List Int) (n : Int) (k : Nat) : Prop := ∀ i (h : i < xs.length), i < k → 0 ≤ xs[i] ∧ xs[i] ≤ n - 1 ∧ ∀ j (hj : j < i), xs[j] < xs[i]
def Rise (xs : List Int) (n : Int) : Prop := RiseTo xs n xs.length
theorem riseTo_zero (xs : List Int) (n : Int) : RiseTo xs n 0 := fun _ _ h => by omega
theorem riseTo_succ {xs : List Int} {n : Int} {k : Nat} (hk : k < xs.length) (h : RiseTo xs n k) (h0 : 0 ≤ xs[k]) (h1 : xs[k] ≤ n - 1)
    (h2 : ∀ (_ : 0 < k), xs[k - 1] < xs[k]) : RiseTo xs n (k + 1) := by
  intro i hi hik
  by_cases e : i = k
  · subst e
    refine ⟨h0, h1, fun j hj => ?_⟩
    have h3 := h2 (by omega)
    by_cases e : j = i - 1
    · subst e; exact h3
    · have := (h (i - 1) (by omega) (by omega)).2.2 j (by omega)
      omega
  · exact h i hi (by omega)
theorem rise_bad_range {xs : List Int} {n : Int} {k : Nat} (hk : k < xs.length) (h : ¬ (0 ≤ xs[k] ∧ xs[k] ≤ n - 1)) : ¬ Rise xs n :=
  fun hr => h ⟨(hr k hk hk).1, (hr k hk hk).2.1⟩
theorem rise_bad_step {xs : List Int} {n : Int} {k : Nat} (hk : k < xs.length) (h0 : 0 < k) (h : xs[k] ≤ xs[k - 1]) : ¬ Rise xs n :=
  fun hr => by have := (hr k hk hk).2.2 (k - 1) (by omega); omega
theorem rise_len_aux {xs : List Int} {n : Int} (hr : Rise xs n) (k : Nat) (hk : k < xs.length) : (k : Int) ≤ xs[k] := by
  induction k with
  | zero => exact (hr 0 hk hk).1
  | succ k ih =>
    have h1 := ih (by omega)
    have h2 := (hr (k + 1) hk hk).2.2 k (by omega)
    omega
theorem rise_len {xs : List Int} {n : Int} (hr : Rise xs n) (hn : 0 ≤ n) : (xs.length : Int) ≤ n := by
  by_cases h : xs.length = 0
  · omega
  · have h1 := rise_len_aux hr (xs.length - 1) (by omega)
    have h2 := (hr (xs.length - 1) (by omega) (by omega)).2.1
    omega
open Classical in
noncomputable def riseB (xs : List Int) (n : Int) : Bool := decide (Rise xs n)
theorem riseB_true {xs : List Int} {n : Int} (h : Rise xs n) : riseB xs n = true := by simp [riseB, h]
theorem riseB_false {xs : List Int} {n : Int} (h : ¬ Rise xs n) : riseB xs n = false := by simp [riseB, h]

set_option maxHeartbeats 400000 in
theorem l1Has_any {S : Nat → Prop} (v : Value) (xs : List Int) (n : Int) (w : World) (hv : SlI S w .i64 v xs) :
    Calls Tryz.prog 41 #[v, .int .i64 n] w fun e w' => e = .returned (.bool (decide (n ∈ xs))) ∧ w = w' := by
  obtain ⟨a, b, off, cap, rfl, hl, ha, hc⟩ := hv
  go_enter Tryz.func41, Tryz.ntmps41
  go_wp2
  go_loop [5] (fun i => ∃ k : Nat, k ≤ xs.length ∧ i = .int .i64 k ∧ NotIn xs n k) (fun i => xs.length - (intOf i).toNat)
  case atStart => exact ⟨0, Nat.zero_le _, rfl, notIn_zero _ _⟩
  case round =>
    obtain ⟨k, hk, rfl, hn⟩ := hrel
    by_cases hlt : k < xs.length
    · have hcell := hc k hlt
      obtain ⟨rfl, hS⟩ := ha (by omega)
      by_cases he : xs[k] = n
      · go_wp2
        go_ret
        exact ⟨ret_bool (isIn_get hlt he).symm, rfl⟩
      · go_wp2
        go_round
        case rel => exact ⟨k + 1, by omega, by go_num, notIn_succ hlt hn he⟩
        case measure => simp [intOf]; omega
    · go_wp2
      go_ret
      exact ⟨ret_bool (notIn_all (by omega) hn).symm, rfl⟩
theorem l1In_any (n lo hi : Int) (w : World) : Calls Tryz.prog 83 #[.int .i64 n, .int .i64 lo, .int .i64 hi] w fun e w' => e = .returned (.bool (inB n lo hi)) ∧ w = w' := by
  by_cases h1 : lo ≤ n
  · by_cases h2 : n ≤ hi
    · go_enter Tryz.func83, Tryz.ntmps83
      go_wp2
      go_ret
      exact ⟨ret_bool (by simp [inB, h1, h2]), rfl⟩
    · go_enter Tryz.func83, Tryz.ntmps83
      go_wp2
      go_ret
      exact ⟨ret_bool (by simp [inB, h1, h2]), rfl⟩
  · go_enter Tryz.func83, Tryz.ntmps83
    go_wp2
    go_ret
    exact ⟨ret_bool (by have : decide (lo ≤ n) = false := by simpa using h1
                        simp [inB, this]), rfl⟩
set_option maxHeartbeats 400000 in
theorem l1Set_any {S : Nat → Prop} (v : Value) (xs : List Int) (n : Int) (w : World) (hv : SlI S w .i64 v xs) (hn1 : 0 ≤ n) (hn2 : n ≤ 1000000) :
    Calls Tryz.prog 84 #[v, .int .i64 n] w fun e w' => e = .returned (.bool (riseB xs n)) ∧ Drawn w w' := by
  obtain ⟨a, b, off, cap, rfl, hl, ha, hc0⟩ := hv
  by_cases hbig : n < xs.length
  · go_enter Tryz.func84, Tryz.ntmps84
    go_wp2
    go_ret
    exact ⟨ret_bool (riseB_false fun h => by have := rise_len h hn1; omega).symm, Drawn.refl _⟩
  go_enter Tryz.func84, Tryz.ntmps84
  go_wp2
  go_loopw [5] (fun i wr => ∃ k : Nat, k ≤ xs.length ∧ i = .int .i64 k ∧ RiseTo xs n k ∧ Drawn w wr) (fun i _ => xs.length - (intOf i).toNat)
  case atStart => exact ⟨0, Nat.zero_le _, rfl, riseTo_zero _ _, Drawn.refl _⟩
  case round =>
    obtain ⟨k, hk, rfl, hr, hq⟩ := hrel
    have hc := hc0.drawn hq
    by_cases hlt : k < xs.length
    · have hcell := hc k hlt
      obtain ⟨rfl, hS⟩ := ha (by omega)
      have hw1 : IntKind.i64.wrap (n - 1) = n - 1 := IntWalk.i64_in _ (by omega)
      have hw2 : IntKind.i64.wrap ((k : Int) - 1) = (k : Int) - 1 := IntWalk.i64_in _ (by omega)
      by_cases hin : 0 ≤ xs[k] ∧ xs[k] ≤ n - 1
      · have hb := inB_true hin
        by_cases h0 : 0 < k
        · have hcell1 := hc (k - 1) (by omega)
          have hg : decide ((0 : Int) < k) = true := by simp; omega
          have hw3 : ((k : Int) - 1).toNat = k - 1 := by omega
          have hw4 : (0 : Int) ≤ (k : Int) - 1 := by omega
          have hw5 : (k : Int) - 1 < xs.length := by omega
          by_cases hcmp : xs[k] ≤ xs[k - 1]
          · have hcb : decide (xs[k] ≤ xs[k - 1]) = true := by simpa using hcmp
            go_wp2
            go_quiet ((go_at_call 83; exact quiet_same (l1In_any _ _ _ _)))
            go_wp2
            go_ret
            exact ⟨ret_bool (riseB_false (rise_bad_step hlt h0 hcmp)).symm, hq.drewN _⟩
          · have hcb : decide (xs[k] ≤ xs[k - 1]) = false := by simpa using hcmp
            go_wp2
            go_quiet ((go_at_call 83; exact quiet_same (l1In_any _ _ _ _)))
            go_wp2
            go_roundw
            case rel => exact ⟨k + 1, by omega, by go_num, riseTo_succ hlt hr hin.1 hin.2 (fun _ => by omega), hq.drewN _⟩
            case measure => simp [intOf]; omega
        · have hg : decide ((0 : Int) < k) = false := by simp; omega
          go_wp2
          go_quiet ((go_at_call 83; exact quiet_same (l1In_any _ _ _ _)))
          go_wp2
          go_roundw
          case rel => exact ⟨k + 1, by omega, by go_num, riseTo_succ hlt hr hin.1 hin.2 (fun _ => by omega), hq.drewN _⟩
          case measure => simp [intOf]; omega
      · have hb := inB_false hin
        go_wp2
        go_quiet ((go_at_call 83; exact quiet_same (l1In_any _ _ _ _)))
        go_wp2
        go_ret
        exact ⟨ret_bool (riseB_false (rise_bad_range hlt hin)).symm, hq.drewN _⟩
    · go_wp2
      go_ret
      obtain rfl : k = xs.length := by omega
      exact ⟨ret_bool (riseB_true hr).symm, hq⟩
/-- What a right graph is. -/
def OkTo1 (g : List (List Int)) (k : Nat) : Prop := ∀ v (h : v < g.length), v < k → Rise g[v] g.length ∧ (v : Int) ∉ g[v]
def OkTo2 (g : List (List Int)) (k : Nat) : Prop := ∀ v (h : v < g.length), v < k → ∀ u ∈ g[v], (v : Int) ∈ g.getD u.toNat []
def OkTo3 (g : List (List Int)) (v : Nat) (row : List Int) (k : Nat) : Prop := ∀ u ∈ row.take k, (v : Int) ∈ g.getD u.toNat []
structure GOk (g : List (List Int)) : Prop where
  lo : 1 ≤ g.length
  hi : g.length ≤ 16
  rise : ∀ v (h : v < g.length), Rise g[v] g.length
  irrefl : ∀ v (h : v < g.length), (v : Int) ∉ g[v]
  symm : ∀ v (h : v < g.length), ∀ u ∈ g[v], (v : Int) ∈ g.getD u.toNat []
open Classical in
noncomputable def gokB (g : List (List Int)) : Bool := decide (GOk g)
theorem gokB_true {g : List (List Int)} (h : GOk g) : gokB g = true := by simp [gokB, h]
theorem gokB_false {g : List (List Int)} (h : ¬ GOk g) : gokB g = false := by simp [gokB, h]
theorem gokB_iff {g : List (List Int)} : gokB g = true ↔ GOk g := by simp [gokB]
theorem okTo1_succ {g : List (List Int)} {k : Nat} (hk : k < g.length) (h : OkTo1 g k) (h1 : Rise g[k] g.length) (h2 : (k : Int) ∉ g[k]) : OkTo1 g (k + 1) := by
  intro v hv hvk
  by_cases e : v = k
  · subst e; exact ⟨h1, h2⟩
  · exact h v hv (by omega)
theorem okTo2_succ {g : List (List Int)} {k : Nat} (hk : k < g.length) (h : OkTo2 g k) (h1 : OkTo3 g k g[k] g[k].length) : OkTo2 g (k + 1) := by
  intro v hv hvk u hu
  by_cases e : v = k
  · subst e; exact h1 u (by rw [List.take_length]; exact hu)
  · exact h v hv (by omega) u hu
theorem okTo3_succ {g : List (List Int)} {v k : Nat} {row : List Int} (hk : k < row.length) (h : OkTo3 g v row k) (h1 : (v : Int) ∈ g.getD (row[k]).toNat []) : OkTo3 g v row (k + 1) := by
  intro u hu
  rw [List.take_succ_eq_append_getElem hk] at hu
  simp only [List.mem_append, List.mem_singleton] at hu
  rcases hu with hu | rfl
  · exact h u hu
  · exact h1
theorem gok_of {g : List (List Int)} {k1 k2 : Nat} (h0 : 1 ≤ g.length ∧ g.length ≤ 16) (h1 : OkTo1 g k1) (e1 : g.length ≤ k1) (h2 : OkTo2 g k2) (e2 : g.length ≤ k2) : GOk g :=
  ⟨h0.1, h0.2, fun v hv => (h1 v hv (by omega)).1, fun v hv => (h1 v hv (by omega)).2, fun v hv u hu => h2 v hv (by omega) u hu⟩
end Go.Proofs.YtdbanndcdbikmaaGreatDoor
