/- Pairs of numbers, and lists of them in memory. -/
import Derived.Test.YtdbanndcdbikmaaGreatDoorOwn
namespace Go.Proofs.YtdbanndcdbikmaaGreatDoor
open Go.RowKit
abbrev NP := Nat × Nat
def rowP (s : NP) : List Int := [(s.1 : Int), (s.2 : Int)]
def rowsP (L : List NP) : List (List Int) := L.map rowP
theorem rowsP_len (L : List NP) : (rowsP L).length = L.length := by simp [rowsP]
theorem rowsP_get {L : List NP} {i : Nat} (h : i < (rowsP L).length) (h2 : i < L.length) : (rowsP L)[i] = rowP L[i] := by simp [rowsP]
theorem SlR.pairS {S : Nat → Prop} {w : World} {v : Value} {L : List NP} (h : SlR S w v (rowsP L)) {i : Nat} (hi : i < L.length) : ∃ b off cap rb ro rc, v = .slice (some ⟨b, off, none⟩) L.length cap ∧ w.cell? ⟨b, off + i, none⟩ = some (.slice (some ⟨rb, ro, none⟩) 2 rc) ∧
    w.cell? ⟨rb, ro, none⟩ = some (.int .i64 ((L[i].1 : Nat) : Int)) ∧ w.cell? ⟨rb, ro + 1, none⟩ = some (.int .i64 ((L[i].2 : Nat) : Int)) ∧ S b ∧ S rb := by
  obtain ⟨a, b, off, cap, f, rfl, hl, ha, hc⟩ := h
  rw [rowsP_len] at *
  obtain ⟨h1, h2⟩ := hc i (by rw [rowsP_len]; exact hi)
  rw [rowsP_get _ hi] at h2
  obtain ⟨ra, rb, ro, rc, h3, -, h4, h5⟩ := h2
  obtain ⟨rfl, hS⟩ := h4 (by simp [rowP])
  rw [h3] at h1
  have h6 := h5 0 (by simp [rowP])
  have h7 := h5 1 (by simp [rowP])
  obtain ⟨rfl, hSb⟩ := ha (by omega)
  exact ⟨b, off, cap, rb, ro, rc, rfl, h1, h6, h7, hSb, hS⟩
end Go.Proofs.YtdbanndcdbikmaaGreatDoor
