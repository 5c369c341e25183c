/- Ears of the reference: l19Steps, l19Has, l19Ends. -/
import Derived.Test.YtplohdnakllbiaaOwnS
import Derived.Test.YtplohdnakllbiaaEarN
namespace Go.Proofs.Ytplohdnakllbiaa
open Go.RowKit
def rowP (s : NP) : List Int := [(s.1 : Int), (s.2 : Int)]
def rowsP (L : List NP) : List (List Int) := L.map rowP
theorem rowsP_len (L : List NP) : (rowsP L).length = L.length := by simp [rowsP]
theorem rowsP_get {L : List NP} {i : Nat} (h : i < (rowsP L).length) (h2 : i < L.length) : (rowsP L)[i] = rowP L[i] := by simp [rowsP]
theorem rowsP_app (L M : List NP) : rowsP (L ++ M) = rowsP L ++ rowsP M := by simp [rowsP]
/-- The two numbers of a row. -/
theorem SlR.pair {S : Nat → Prop} {w : World} {v : Value} {L : List NP} (h : SlR S w v (rowsP L)) {i : Nat} (hi : i < L.length) : ∃ b off cap rb ro rc, v = .slice (some ⟨b, off, none⟩) L.length cap ∧ w.cell? ⟨b, off + i, none⟩ = some (.slice (some ⟨rb, ro, none⟩) 2 rc) ∧
    w.cell? ⟨rb, ro, none⟩ = some (.int .i64 ((L[i].1 : Nat) : Int)) ∧ w.cell? ⟨rb, ro + 1, none⟩ = some (.int .i64 ((L[i].2 : Nat) : Int)) := by
  obtain ⟨a, b, off, cap, f, rfl, hl, ha, hc⟩ := h
  rw [rowsP_len] at *
  obtain ⟨h1, h2⟩ := hc i (by rw [rowsP_len]; exact hi)
  rw [rowsP_get _ hi] at h2
  obtain ⟨rb, ro, rc, h3, h4⟩ := h2.at_
  have h3 := h3 (by simp [rowP])
  rw [h3] at h1
  have h5 := h4 0 (by simp [rowP])
  have h6 := h4 1 (by simp [rowP])
  obtain ⟨rfl, -⟩ := ha (by omega)
  exact ⟨b, off, cap, rb, ro, rc, rfl, h1, h5, h6⟩
theorem SlR.pairS {S : Nat → Prop} {w : World} {v : Value} {L : List NP} (h : SlR S w v (rowsP L)) {i : Nat} (hi : i < L.length) : ∃ b off cap rb ro rc, v = .slice (some ⟨b, off, none⟩) L.length cap ∧ w.cell? ⟨b, off + i, none⟩ = some (.slice (some ⟨rb, ro, none⟩) 2 rc) ∧
    w.cell? ⟨rb, ro, none⟩ = some (.int .i64 ((L[i].1 : Nat) : Int)) ∧ w.cell? ⟨rb, ro + 1, none⟩ = some (.int .i64 ((L[i].2 : Nat) : Int)) ∧ S b ∧ S rb := by
  obtain ⟨a, b, off, cap, f, rfl, hl, ha, hc⟩ := h
  rw [rowsP_len] at *
  obtain ⟨h1, h2⟩ := hc i (by rw [rowsP_len]; exact hi)
  rw [rowsP_get _ hi] at h2
  obtain ⟨ra, rb, ro, rc, h3, -, h4, h5⟩ := h2
  obtain ⟨rfl, hS⟩ := h4 (by simp [rowP])
  rw [h3] at h1
  have h6 := h5 0 (by simp [rowP])
  have h7 := h5 1 (by simp [rowP])
  obtain ⟨rfl, hSb⟩ := ha (by omega)
  exact ⟨b, off, cap, rb, ro, rc, rfl, h1, h6, h7, hSb, hS⟩
def endsTo (g : List (List Int)) (k : Nat) : Nat := ((g.take k).map List.length).sum
theorem endsTo_succ {g : List (List Int)} {k : Nat} (hk : k < g.length) : endsTo g (k + 1) = endsTo g k + g[k].length := by
  unfold endsTo
  rw [List.take_succ_eq_append_getElem hk, List.map_append, List.sum_append]; simp
theorem endsTo_all (g : List (List Int)) : endsTo g g.length = endsN g := by unfold endsTo endsN; rw [List.take_length]
theorem endsTo_le {g : List (List Int)} (hg : GOk g) : ∀ k, k ≤ g.length → endsTo g k ≤ 32 * k
  | 0, _ => by simp [endsTo]
  | k + 1, hk => by
    have := endsTo_le hg k (by omega)
    have h2 := hg.rowlenS (x := k) (by omega)
    rw [endsTo_succ (by omega)]; omega
theorem endsN_le {g : List (List Int)} (hg : GOk g) : endsN g ≤ 512 := by
  have := endsTo_le hg g.length (Nat.le_refl _)
  rw [endsTo_all] at this
  have := hg.hi; omega
end Go.Proofs.Ytplohdnakllbiaa
