/- Two vertices joined in an own slice of sets; the path of four as a graph. -/
import Derived.Test.YtpdlcnpmljfclaaDoorFitM
import Derived.Test.YtpdlcnpmljfclaaDoorHeld
namespace Go.Proofs.YtpdlcnpmljfclaaDoor
open Go.RowKit
def orAt (a : List Nat) (u x : Nat) : List Nat := a.set u (a.getD u 0 ||| bit x)
def joinN (a : List Nat) (u x : Nat) : List Nat := orAt (orAt a u x) x u
theorem orAt_len (a : List Nat) (u x : Nat) : (orAt a u x).length = a.length := by simp [orAt]
theorem joinN_len (a : List Nat) (u x : Nat) : (joinN a u x).length = a.length := by simp [joinN, orAt_len]
theorem natsI_set (a : List Nat) (u m : Nat) : (natsI a).set u (m : Int) = natsI (a.set u m) := by simp [natsI, List.map_set]
theorem own_nat {w : World} {B g n c u : Nat} {E : TypeId} {k : IntKind} {a : List Nat} (h : Own w B E 1 (.slice (some ⟨g, 0, none⟩) n c) n ((natsI a).map (.int k))) (hu : u < a.length) (hn : a.length = n) :
    w.cell? ⟨g, u, none⟩ = some (.int k ((a.getD u 0 : Nat) : Int)) :=
  (World.ownsRow.cellAt h u (by omega)).trans (by simp [natsI, hu])
theorem own_nat_set {w : World} {B g n c : Nat} {E : TypeId} {k : IntKind} {a : List Nat} (h : Own w B E 1 (.slice (some ⟨g, 0, none⟩) n c) n ((natsI a).map (.int k))) (u m : Nat) :
    Own (w.setCell ⟨g, u, none⟩ (.int k (m : Int))) B E 1 (.slice (some ⟨g, 0, none⟩) n c) n ((natsI (a.set u m)).map (.int k)) := by
  have := h.stored u (.int k (m : Int))
  rw [← List.map_set, natsI_set] at this; exact this
theorem own_some {w : World} {B : Nat} {E : TypeId} {size : Nat} {v : Value} {n : Nat} {xs : List Value} (h : Own w B E size v n xs) (hn : 0 < n) : ∃ g c, v = .slice (some ⟨g, 0, none⟩) n c := by
  rcases h.2 with ⟨rfl, rfl⟩ | ⟨g, cap, cur, rfl, _⟩
  · omega
  · exact ⟨g, cap, rfl⟩
theorem KeptBut.refl (w : World) (r : Option Nat) : KeptBut w w r := ⟨rfl, rfl, rfl, Nat.le_refl _, fun _ _ _ => rfl⟩
theorem KeptBut.trans {a b c : World} {r : Option Nat} (h : KeptBut a b r) (k : KeptBut b c r) : KeptBut a c r :=
  ⟨k.1.trans h.1, k.2.1.trans h.2.1, k.2.2.1.trans h.2.2.1, Nat.le_trans h.2.2.2.1 k.2.2.2.1, fun i hi hr => (k.2.2.2.2 i (Nat.lt_of_lt_of_le hi h.2.2.2.1) hr).trans (h.2.2.2.2 i hi hr)⟩
theorem KeptBut.ofDrawn {a b : World} (h : Drawn a b) (r : Option Nat) : KeptBut a b r := by obtain ⟨m, rfl⟩ := h; exact ⟨rfl, rfl, rfl, Nat.le_refl _, fun _ _ _ => rfl⟩
theorem KeptBut.set (w : World) (g j : Nat) (u : Value) : KeptBut w (w.setCell ⟨g, j, none⟩ u) (some g) :=
  ⟨rfl, rfl, rfl, by simp, fun k _ hk => Below.heap_setCell _ _ _ _ (fun e => hk (by simp at e; rw [e]))⟩
theorem nat_all {a : List Nat} {u m : Nat} (h : ∀ x ∈ a, x < 4294967296) (hm : m < 4294967296) : ∀ x ∈ a.set u m, x < 4294967296 := fun x hx => by
  rcases List.mem_or_eq_of_mem_set hx with h1 | h1
  · exact h x h1
  · omega
theorem nat_getD {a : List Nat} (h : ∀ x ∈ a, x < 4294967296) (u : Nat) : a.getD u 0 < 4294967296 := by
  by_cases hu : u < a.length
  · have : a.getD u 0 = a[u] := by simp [hu]
    rw [this]; exact h _ (List.getElem_mem _)
  · have : a.getD u 0 = 0 := by simp [List.getElem?_eq_none (show a.length ≤ u by omega)]
    omega
theorem or_lt32 {a b : Nat} (ha : a < 4294967296) (hb : b < 4294967296) : a ||| b < 4294967296 := Nat.or_lt_two_pow (n := 32) ha hb
theorem joinN_lt {a : List Nat} {u x : Nat} (h : ∀ m ∈ a, m < 4294967296) (hu : u < 32) (hx : x < 32) : ∀ m ∈ joinN a u x, m < 4294967296 := by
  have h1 : ∀ m ∈ orAt a u x, m < 4294967296 := nat_all h (or_lt32 (nat_getD h u) (bit_lt hx))
  exact nat_all h1 (or_lt32 (nat_getD h1 x) (bit_lt hu))
def p4 : Nat → List Nat | 0 => [0, 0, 0, 0] | 1 => [0, 0, 0, 0] | 2 => [2, 1, 0, 0] | 3 => [2, 5, 2, 0] | _ => [2, 5, 10, 4]
theorem p4_len (k : Nat) : (p4 k).length = 4 := by
  match k with
  | 0 => rfl
  | 1 => rfl
  | 2 => rfl
  | 3 => rfl
  | _ + 4 => rfl
theorem p4_lt (k : Nat) : ∀ m ∈ p4 k, m < 4294967296 := by
  match k with
  | 0 => decide
  | 1 => decide
  | 2 => decide
  | 3 => decide
  | _ + 4 => show ∀ m ∈ [2, 5, 10, 4], m < 4294967296; decide
theorem p4_join {k : Nat} (h1 : 1 ≤ k) (h2 : k < 4) : joinN (p4 k) (k - 1) k = p4 (k + 1) := by
  match k with
  | 0 => omega
  | 1 => decide
  | 2 => decide
  | 3 => decide
  | _ + 4 => omega
