/- The reference's search for a pattern. -/
import Derived.Test.YtdbanndcdbikmaaGreatDoorDistM
import Derived.Test.YtdbanndcdbikmaaGreatDoorHeld
import Derived.Test.YtdbanndcdbikmaaGreatDoorLoopL
import Derived.Lib.SliceRun
import Derived.Test.YtdbanndcdbikmaaGreatDoorMod3
namespace Go.Proofs.YtdbanndcdbikmaaGreatDoor
open Go.RowKit

/-- Blocks outside F are as they were. -/
structure Keeps (F : Nat → Prop) (w w' : World) : Prop where
  os : w'.os = w.os
  tape : w'.tape = w.tape
  output : w'.output = w.output
  size : w.heap.size ≤ w'.heap.size
  block : ∀ b, b < w.heap.size → ¬ F b → w'.heap[b]? = w.heap[b]?
variable {σ : Type}
/-- What is called at the end of a path: a function value with one captured variable. -/
structure EachC (P : Program) (N cb B : Nat) (E : TypeId) (St : (Nat → Prop) → σ → World → Prop) (ef : List Nat → σ → σ × Bool) (K : List Nat → Prop := fun _ => True) : Prop where
  call : ∀ (F : Nat → Prop) (s : σ) (pv : Value) (p : List Nat) (w : World), St F s w → Own w B E 1 pv p.length ((natsI p).map (.int .i64)) → (∀ b, pv.ownBlock = some b → ¬ F b) → (∀ b, F b → b < w.heap.size) → B ≤ w.heap.size → p.length ≤ 16 → K p →
    Calls P N #[pv, .pointer (some ⟨cb, 0, none⟩)] w fun e w' => ∃ F' : Nat → Prop, e = .returned (.bool (ef p s).2) ∧ St F' (ef p s).1 w' ∧ (∀ b, F' b → F b ∨ w.heap.size ≤ b) ∧ (∀ b, F' b → b < w'.heap.size) ∧ Keeps F w w'
  ent : ∀ (args : Array Value) (w : World), (callFunc N args).run P w = .ok (.enter N args) w
  keep : ∀ (F : Nat → Prop) (s : σ) (w w' : World), St F s w → (∀ b, F b → w'.heap[b]? = w.heap[b]?) → St F s w'
/-- The search's own memory. -/
def GSt (E FS : TypeId) (St : (Nat → Prop) → σ → World → Prop) (w : World) (B sb : Nat) (hv qv ev : Value) (p : List Nat) (s : σ) : Prop :=
  ∃ (pv : Value) (F : Nat → Prop), Own w B FS 5 (.slice (some ⟨sb, 0, none⟩) 1 1) 1 [hv, qv, pv, .int .u32 (maskN p : Int), ev] ∧ Own w B E 1 pv p.length ((natsI p).map (.int .i64)) ∧ (∀ b, pv.ownBlock = some b → b ≠ sb ∧ ¬ F b) ∧ ¬ F sb ∧ (∀ b, F b → B ≤ b ∧ b < w.heap.size) ∧ St F s w
def GPost (E FS : TypeId) (St : (Nat → Prop) → σ → World → Prop) (w : World) (B sb : Nat) (hv qv ev : Value) (p : List Nat) (r : σ × Bool) (e : Ending) (w' : World) : Prop :=
  e = .returned (.bool r.2) ∧ GSt E FS St w' B sb hv qv ev p r.1 ∧ Below B w w'
theorem natsI_append (a b : List Nat) : natsI (a ++ b) = natsI a ++ natsI b := by simp [natsI]

theorem own_cell {w : World} {B : Nat} {E : TypeId} {b : Nat} {v : Value} (h : Own w B E 1 (.slice (some ⟨b, 0, none⟩) 1 1) 1 [v]) : w.cell? ⟨b, 0, none⟩ = some v ∧ w.frozen? ⟨b, 0, none⟩ = false ∧ B ≤ b ∧ b < w.heap.size :=
  ⟨World.ownsRow.cellAt h 0 (by omega), World.ownsRow.frozenAt h 0, (h.lt b rfl).1, (h.lt b rfl).2⟩
theorem own_new (w : World) (B : Nat) (E : TypeId) (v : Value) (hB : B ≤ w.heap.size) : Own (w.alloc (.cells #[v] E)) B E 1 (.slice (some ⟨w.heap.size, 0, none⟩) 1 1) 1 [v] :=
  World.ownsRow_lit (base := B) (e := E) (size := 1) w #[v] 1 hB (by unfold maxLen; omega) rfl
theorem own_set {w : World} {B : Nat} {E : TypeId} {b : Nat} {v : Value} (h : Own w B E 1 (.slice (some ⟨b, 0, none⟩) 1 1) 1 [v]) (u : Value) : Own (w.setCell ⟨b, 0, none⟩ u) B E 1 (.slice (some ⟨b, 0, none⟩) 1 1) 1 [u] := by
  have := h.stored 0 u; simpa using this
/-- A found path as an own slice of the call. -/
def FoundP (E : TypeId) (f : Option (List Nat)) (w : World) (e : Ending) (w' : World) : Prop := ∃ u, e = .returned u ∧ (f = none → u = .slice none 0 0) ∧ Own w' w.heap.size E 1 u (f.getD []).length ((natsI (f.getD [])).map (.int .i64)) ∧ Below w.heap.size w w'
def fitO (H Q : List Nat) : Option (List Nat) := (srchF H Q fitEf Q.length [] none).1
noncomputable def smallB (g : List (List Int)) : Bool := gokB g && decide (g.length ≤ 8)
theorem Own.made0 (w : World) (B : Nat) (E : TypeId) (z : Value) (n : Nat) (hB : B ≤ w.heap.size) (hn : n ≤ 1099511627) : Own (w.alloc (.cells (madeCells #[z] n) E)) B E 1 (.slice (some ⟨w.heap.size, 0, none⟩) 0 n) 0 [] := by
  have h := Own.reslice (Own.made w B E z n hB hn) (m := 0) (Nat.zero_le _)
  simpa using h
theorem make_cap (n : Nat) (hn : n ≤ 1048576) (w : World) : (Instr.makeSlice 36 (.int .i64 0) (.int .i64 (n : Int))).run Tryz.prog w = .ok (.slice (some ⟨w.heap.size, 0, none⟩) 0 n) (w.alloc (.cells (madeCells #[.int .i64 0] n) 2)) := by
  obtain ⟨i, hi, hzz⟩ := Option.map_eq_some_iff.1 elI64.hi
  simp only [Prod.mk.injEq] at hzz
  obtain ⟨hz, hs, hb⟩ := hzz
  have := run_make (P := Tryz.prog) (w := w) 36 2 i (.int .i64 0) elI64.ht hi hz .i64 .i64 0 n (by omega) (by omega) (by rw [hb]; omega) (by omega)
  simpa [hs, Value.cells] using this
set_option maxHeartbeats 1000000 in
theorem wide_any {S : Nat → Prop} {v : Value} {xs : List Int} {w : World} (hv : SlI S w .i64 v xs) (hn : xs.length ≤ 1048576) :
    Calls Tryz.prog 30 #[v] w fun e w' => ∃ u, e = .returned u ∧ Own w' w.heap.size 2 1 u xs.length (xs.map (.int .i64)) ∧ Below w.heap.size w w' := by
  obtain ⟨va, vc, rfl⟩ := hv.slice
  have hmk := make_cap xs.length hn
  go_enter Tryz.func30, Tryz.ntmps30
  go_wp2
  clear hmk
  go_loopw [11, 3] (fun i o wr => ∃ k : Nat, k ≤ xs.length ∧ i = .int .i64 k ∧ Own wr w.heap.size 2 1 o k ((xs.take k).map (.int .i64)) ∧ Below w.heap.size w wr) (fun i _ _ => xs.length - (intOf i).toNat)
  case atStart => exact ⟨0, Nat.zero_le _, rfl, by simpa using Own.made0 w w.heap.size 2 (.int .i64 0) xs.length (Nat.le_refl _) (by omega), (Below.refl _ _).alloc (Nat.le_refl _) _⟩
  case round =>
    obtain ⟨k, hk, rfl, hown, hq⟩ := hrel
    have hB := hq.size
    by_cases hlt : k < xs.length
    · obtain ⟨b, off, cap, he, hc⟩ := (hv.below hq (Nat.le_refl _)).at_
      have he := he (by omega)
      simp only [Value.slice.injEq, true_and] at he
      obtain ⟨rfl, rfl⟩ := he
      have hcell := hc k hlt
      clear hc
      have HT := Lib.hid (List.take_succ_eq_append_getElem hlt)
      go_wp2_with (at_builtin; refine wpList_append1 elI64 rfl _ _ rfl hown rfl rfl rfl (by omega) hB ?_; intro v' w1 hown1 hkept hmv)
      go_roundw
      case rel => exact ⟨k + 1, by omega, by go_num, by rw [HT.out, List.map_append]; exact hown1, hkept.below hq hB hown.ge⟩
      case measure => simp [intOf]; omega
    · obtain rfl : k = xs.length := by omega
      rw [List.take_length] at hown
      go_wp2
      go_ret
      exact ⟨_, rfl, hown, hq⟩
/-- Does a vertex fit behind a list: by the lists of neighbours. -/
def okGTo (g p : List (List Int)) (q : List Nat) (v k : Nat) : Bool := (List.range k).all fun j => decide ((q.length : Int) ∈ p.getD j []) == decide ((v : Int) ∈ g.getD (q.getD j 0) [])
/-- What the search finds, as a list. -/
def embL (g p : List (List Int)) (d : Nat) (q : List Nat) : List Nat := ((srchF (netsL g) (netsL p) fitEf d q none).1).getD []
