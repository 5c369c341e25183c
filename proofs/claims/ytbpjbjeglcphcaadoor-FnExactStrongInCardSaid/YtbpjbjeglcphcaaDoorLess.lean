/- Lists compared as the reference does. -/
import Derived.Test.YtbpjbjeglcphcaaDoorLoopL
namespace Go.Proofs.YtbpjbjeglcphcaaDoor
open Go.RowKit
theorem ltN_step {p q : List Nat} {k : Nat} (h1 : k < p.length) (h2 : k < q.length) : ltN (p.drop k) (q.drop k) = if p[k] = q[k] then ltN (p.drop (k + 1)) (q.drop (k + 1)) else decide (p[k] < q[k]) := by
  rw [List.drop_eq_getElem_cons h1, List.drop_eq_getElem_cons h2, ltN]
set_option maxHeartbeats 2000000 in
theorem l1Less_any {S S' : Nat → Prop} {u v : Value} {p q : List Nat} {w : World} (hu : SlI S w .i64 u (natsI p)) (hv : SlI S' w .i64 v (natsI q)) :
    Calls Tryd.prog 30 #[u, v] w fun e w' => e = .returned (.bool (lessN p q)) ∧ Drawn w w' := by
  obtain ⟨ua, ub, uo, uc, rfl, hul, hua, huc⟩ := hu
  obtain ⟨va, vb, vo, vc, rfl, hvl, hva, hvc⟩ := hv
  rw [natsI_len] at hul hua hvl hva
  simp only [natsI_len]
  by_cases hl : p.length = q.length
  case neg =>
    have h1 : ((p.length : Int) == (q.length : Int)) = false := by rw [beq_eq_false_iff_ne]; omega
    have h2 : (p.length == q.length) = false := by rw [beq_eq_false_iff_ne]; exact hl
    have HR := Lib.hid (show lessN p q = decide ((p.length : Int) < (q.length : Int)) by
      rw [lessN, if_neg hl, decide_eq_decide]; omega)
    clear hl
    go_enter Tryd.func30, Tryd.ntmps30
    go_wp2
    go_ret
    exact ⟨ret_bool (by first | exact HR.out.symm | (rw [HR.out]; simp)), Drawn.refl _⟩
  have HR := Lib.hid (show lessN p q = ltN (p.drop 0) (q.drop 0) by rw [lessN, if_pos hl]; rfl)
  have h1 : ((p.length : Int) == (q.length : Int)) = true := by rw [beq_iff_eq]; omega
  have HL := Lib.hid hl
  clear hl
  rw [← HL.out]
  have h2 : (p.length == p.length) = true := by simp
  clear h1
  go_enter Tryd.func30, Tryd.ntmps30
  go_wp2
  go_loopw [5] (fun iv wr => ∃ k : Nat, k ≤ p.length ∧ iv = .int .i64 k ∧ RowKit.Hid (lessN p q = ltN (p.drop k) (q.drop k)) ∧ Drawn w wr) (fun iv _ => p.length - (RowKit.intOf iv).toNat)
  case atStart => exact ⟨0, Nat.zero_le _, rfl, HR, Drawn.refl _⟩
  case round =>
    clear HR
    obtain ⟨k, hk, rfl, HR, hq⟩ := hrel
    by_cases hlt : k < p.length
    case neg =>
      obtain rfl : k = p.length := by omega
      have HE := Lib.hid (show lessN p q = false by rw [HR.out, List.drop_of_length_le (Nat.le_refl _)]; rfl)
      go_wp2
      go_ret
      exact ⟨ret_bool HE.out.symm, hq⟩
    have hlq : k < q.length := by have := HL.out; omega
    have d1 : wr.cell? ⟨ub, uo + k, none⟩ = some (.int .i64 (p[k] : Int)) := by
      rw [hq.cell, huc k (by rw [natsI_len]; exact hlt), natsI_get]
    have d2 : wr.cell? ⟨vb, vo + k, none⟩ = some (.int .i64 (q[k] : Int)) := by
      rw [hq.cell, hvc k (by rw [natsI_len]; exact hlq), natsI_get]
    obtain ⟨rfl, -⟩ := hua (by omega)
    obtain ⟨rfl, -⟩ := hva (by omega)
    have hst := ltN_step hlt hlq
    rw [← HR.out] at hst
    have HST := Lib.hid hst
    clear hst
    generalize p[k] = x at *
    generalize q[k] = y at *
    by_cases he : x = y
    · subst he
      have HE := Lib.hid (HST.out.trans (if_pos rfl))
      have h3 : ((x : Int) == (x : Int)) = true := by simp
      go_wp2
      go_quiet (fail)
      go_wp2
      go_roundw
      case rel => exact ⟨k + 1, by omega, by go_num, HE, hq.drewN _⟩
      case measure => simp [RowKit.intOf]; omega
    · have HE := Lib.hid (HST.out.trans (if_neg he))
      have h3 : ((x : Int) == (y : Int)) = false := by rw [beq_eq_false_iff_ne]; omega
      have h4 : (x == y) = false := by rw [beq_eq_false_iff_ne]; exact he
      clear he
      go_wp2
      go_quiet (fail)
      go_wp2
      go_quiet (fail)
      go_wp2
      go_ret
      exact ⟨ret_bool (by first | exact HE.out.symm | (rw [HE.out]; simp)), by repeat (first | exact hq | refine Drawn.drewN ?_ _)⟩
end Go.Proofs.YtbpjbjeglcphcaaDoor
