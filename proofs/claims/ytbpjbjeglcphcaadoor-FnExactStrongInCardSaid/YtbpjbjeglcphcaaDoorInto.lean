/- A list copied; a list with one more. -/
import Derived.Test.YtbpjbjeglcphcaaDoorPrimeM
namespace Go.Proofs.YtbpjbjeglcphcaaDoor
open Go.RowKit

def HoldP (p : Prop) : Prop := p
theorem hold_in {p : Prop} (h : HoldP p) : p := h
theorem SlI.take {S : Nat → Prop} {w : World} {k : IntKind} {a : Option Addr} {n c m : Nat} {xs : List Int} (h : SlI S w k (.slice a n c) xs) (hm : m ≤ n) : SlI S w k (.slice a m c) (xs.take m) := by
  obtain ⟨a', b, off, cap, hv, hl, ha, hc⟩ := h
  simp only [Value.slice.injEq] at hv
  obtain ⟨rfl, rfl, rfl⟩ := hv
  have hlen : (xs.take m).length = m := by simp; omega
  refine ⟨a, b, off, c, by rw [hlen], ⟨by omega, hl.2⟩, fun h => ha (by omega), fun i hi => ?_⟩
  have := hc i (by omega)
  simpa using this
theorem SlI.drop {S : Nat → Prop} {w : World} {k : IntKind} {b off n c m : Nat} {xs : List Int} (h : SlI S w k (.slice (some ⟨b, off, none⟩) n c) xs) (hm : m < n) : SlI S w k (.slice (some ⟨b, off + m, none⟩) (n - m) (c - m)) (xs.drop m) := by
  obtain ⟨a', b', off', cap, hv, hl, ha, hc⟩ := h
  simp only [Value.slice.injEq] at hv
  obtain ⟨rfl, rfl, rfl⟩ := hv
  have ha2 := ha (by omega)
  simp only [Option.some.injEq, Addr.mk.injEq, and_true] at ha2
  obtain ⟨⟨rfl, rfl⟩, hS⟩ := ha2
  refine ⟨_, b, off + m, c - m, by rw [List.length_drop], ⟨by rw [List.length_drop]; omega, by omega⟩, fun _ => ⟨rfl, hS⟩, fun i hi => ?_⟩
  rw [List.length_drop] at hi
  have := hc (m + i) (by omega)
  simp only [List.getElem_drop]
  rw [Nat.add_assoc]; exact this
theorem IntsAt.news {w : World} {k : IntKind} {b off : Nat} {xs : List Int} (h : IntsAt w k b off xs) : ∀ (j : Nat) u, (xs.map (Value.int k))[j]? = some u → w.cell? ((⟨b, off, none⟩ : Addr).add j) = some u := by
  intro j u hj
  rw [List.getElem?_map] at hj
  obtain ⟨x, hx, rfl⟩ := Option.map_eq_some_iff.1 hj
  obtain ⟨hlt, rfl⟩ := List.getElem?_eq_some_iff.1 hx
  have := h j hlt
  by_cases h0 : j = 0
  · subst h0; simpa [Addr.add] using this
  · simpa [Addr.add, h0] using this
theorem ints_one {k : IntKind} {xs : List Int} : ∀ u ∈ xs.map (Value.int k), u.oneCell' = true := by
  intro u hu
  obtain ⟨x, _, rfl⟩ := List.mem_map.1 hu
  rfl
