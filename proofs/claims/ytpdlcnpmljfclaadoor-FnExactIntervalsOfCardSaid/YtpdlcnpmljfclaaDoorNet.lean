/- The words of a right graph: which bits they have. -/
import Derived.Test.YtpdlcnpmljfclaaDoorReachM
namespace Go.Proofs.YtpdlcnpmljfclaaDoor
open Go.RowKit
theorem net_bit {g : List (List Int)} (hg : GOk g) {u v : Nat} : ((netsL g).getD u 0).testBit v = true ↔ u < g.length ∧ (v : Int) ∈ g.getD u [] := by
  by_cases hu : u < g.length
  · have e : (netsL g).getD u 0 = maskL g[u] := by simp [netsL, hu]
    have e2 : g.getD u [] = g[u] := by simp [hu]
    rw [e, e2, testBit_maskL (fun x hx => (hg.ge32 hu x hx).1), decide_eq_true_eq]
    exact ⟨fun h => ⟨hu, h⟩, fun h => h.2⟩
  · have e : (netsL g).getD u 0 = 0 := by simp [netsL, hu]
    rw [e, Nat.zero_testBit]
    exact ⟨(fun h => by cases h), fun h => absurd h.1 hu⟩
theorem net_sym {g : List (List Int)} (hg : GOk g) {u v : Nat} (h : ((netsL g).getD u 0).testBit v = true) : u < g.length ∧ v < g.length ∧ u ≠ v ∧ ((netsL g).getD v 0).testBit u = true := by
  obtain ⟨hu, hm⟩ := (net_bit hg).1 h
  have e2 : g.getD u [] = g[u] := by simp [hu]
  have hm' := hm
  rw [e2] at hm'
  obtain ⟨i, hi, e⟩ := List.getElem_of_mem hm'
  have hr := hg.rise u hu i hi hi
  have hv : v < g.length := by omega
  have hs := hg.symm u hu v hm'
  rw [Int.toNat_natCast] at hs
  refine ⟨hu, hv, fun e3 => ?_, (net_bit hg).2 ⟨hv, hs⟩⟩
  subst e3
  exact hg.irrefl u hu hm'
theorem net_lt {g : List (List Int)} (hg : GOk g) (u : Nat) : (netsL g).getD u 0 < 2 ^ g.length := lt_bits fun i hi => (net_sym hg hi).2.1
theorem net_lt32 {g : List (List Int)} (hg : GOk g) (u : Nat) : (netsL g).getD u 0 < 4294967296 := Nat.lt_of_lt_of_le (net_lt hg u) (Nat.le_trans (Nat.pow_le_pow_right (by omega) hg.hi) (by decide))
theorem net_irr {g : List (List Int)} (hg : GOk g) (u : Nat) : ((netsL g).getD u 0).testBit u = false := by
  cases h : ((netsL g).getD u 0).testBit u with
  | false => rfl
  | true => exact absurd rfl (net_sym hg h).2.2.1
theorem row_bits {g : List (List Int)} (hg : GOk g) {k : Nat} (hk : k < g.length) : g[k] = bitsI ((netsL g).getD k 0) := by
  have e : (netsL g).getD k 0 = maskL g[k] := by simp [netsL, hk]
  rw [e, bitsI_maskL (rise_sorted (hg.rise k hk)) (hg.ge32 hk)]
theorem bits_nats (m : Nat) : bitsI m = natsI (bitsN m) := by simp [bitsI, natsI]
end Go.Proofs.YtpdlcnpmljfclaaDoor
