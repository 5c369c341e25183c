/- Does an automorphism take v to u? The reference's test. -/
import Derived.Test.YtplohdnakllbiaaOrb4
import Derived.Test.YtplohdnakllbiaaFit6
namespace Go.Proofs.Ytplohdnakllbiaa
open Go.RowKit
theorem rise_sortedR {xs : List Int} {n : Int} (hs : xs.Pairwise (· < ·)) (hb : ∀ x ∈ xs, 0 ≤ x ∧ x < n) : Rise xs n := fun i h _ => by
  have := hb _ (List.getElem_mem h)
  exact ⟨this.1, by omega, fun j hj => List.pairwise_iff_getElem.1 hs j i (by omega) h hj⟩
/-- The order of the reference: v, then the others. -/
def ordL (v n : Nat) : List Nat := v :: (List.range n).filter fun x => decide (x ≠ v)
def skipV (v i : Nat) : Nat := if i < v then i else i + 1
theorem filt_skip (v : Nat) : ∀ m, ((List.range m).filter fun x => decide (x ≠ v)) = (List.range (if v < m then m - 1 else m)).map (skipV v)
  | 0 => by simp
  | m + 1 => by
    rw [List.range_succ, List.filter_append, filt_skip v m]
    by_cases h1 : v < m
    · rw [if_pos h1, if_pos (by omega)]
      have e : m + 1 - 1 = (m - 1) + 1 := by omega
      have h2 : m ≠ v := by omega
      rw [e, List.range_succ, List.map_append]
      simp [h2, skipV]; split <;> omega
    · rw [if_neg h1]
      by_cases h2 : m = v
      · subst h2
        rw [if_pos (by omega)]
        simp
      · rw [if_neg (by omega), List.range_succ, List.map_append]
        simp [h2, skipV]; omega
theorem ordL_len {v n : Nat} (hv : v < n) : (ordL v n).length = n := by
  rw [ordL, List.length_cons, filt_skip, if_pos hv]; simp; omega
theorem ordL_get {v n i : Nat} (hv : v < n) (hi : i < n) : (ordL v n).getD i 0 = ordV v i := by
  cases i with
  | zero => simp [ordL, ordV]
  | succ i =>
    rw [ordL, List.getD_cons_succ, filt_skip, if_pos hv]
    have : i < n - 1 := by omega
    simp [this, skipV, ordV]
    split <;> split <;> omega
theorem ordL_lt {v n : Nat} (hv : v < n) : ∀ x ∈ ordL v n, x < n := by
  intro x hx
  rcases List.mem_cons.1 hx with rfl | hx
  · exact hv
  · have := (List.mem_filter.1 hx).1
    exact List.mem_range.1 this
theorem ordL_nats (v n : Nat) : natsI (ordL v n) = [(v : Int)] ++ wout (natsI (List.range n)) (v : Int) := by
  rw [ordL, natsI, List.map_cons, wout, natsI, List.filter_map]
  simp only [List.singleton_append, List.cons.injEq, true_and]
  congr 1
  apply List.filter_congr
  intro x _
  simp only [Function.comp, decide_eq_decide, ne_eq]
  omega
theorem maskL_bitsO {m : Nat} (hm : m < 4294967296) : maskL (bitsI m) = m := by
  apply nat_ext
  intro i
  rw [testBit_maskL (fun x hx => ((mem_bitsI hm).1 hx).1), Bool.eq_iff_iff, decide_eq_true_eq, mem_bitsI hm]
  simp
theorem nets_bits {M : List Nat} (h : ∀ m ∈ M, m < 4294967296) : netsL (M.map bitsI) = M := by
  rw [netsL, List.map_map]
  conv => rhs; rw [← List.map_id M]
  apply List.map_congr_left
  intro m hm
  exact maskL_bitsO (h m hm)
theorem lk_gok {E : Nat → Nat → Bool} {n : Nat} {M : List Nat} (h : LkG E n n 0 M) (h1 : 1 ≤ n) (h16 : n ≤ 16) : GOk (M.map bitsI) := by
  have hlt := h.lt (.inr ⟨Nat.le_refl _, rfl⟩)
  have h32 : ∀ m ∈ M, m < 4294967296 := fun m hm => Nat.lt_trans (hlt m hm) (pow16_lt h16)
  have hl : (M.map bitsI).length = n := by rw [List.length_map]; exact h.1
  have hmem : ∀ x (hx : x < (M.map bitsI).length) (y : Int), y ∈ (M.map bitsI)[x] → 0 ≤ y ∧ y.toNat < n ∧ (M.getD x 0).testBit y.toNat = true := fun x hx y hy => by
    have hx2 : x < M.length := by rw [h.1, ← hl]; exact hx
    rw [List.getElem_map, mem_bitsI (h32 _ (List.getElem_mem hx2))] at hy
    have hb : (M.getD x 0).testBit y.toNat = true := by simpa [hx2] using hy.2
    have hxn : x < n := by rw [← h.1]; exact hx2
    have := (h.2 x hxn y.toNat).1 hb
    exact ⟨hy.1, by omega, hb⟩
  refine ⟨by omega, by omega, fun x hx => ?_, fun x hx hm => ?_, fun x hx y hy => ?_⟩
  · refine rise_sortedR ?_ fun y hy => ?_
    · rw [List.getElem_map]; exact bitsI_sorted _
    · have := hmem x hx y hy; omega
  · have := hmem x hx _ hm
    rw [Int.toNat_natCast] at this
    have h5 := (h.2 x (by omega) x).1 this.2.2
    omega
  · have h4 := hmem x hx y hy
    have h5 := (h.2 x (by omega) y.toNat).1 h4.2.2
    have hy2 : y.toNat < M.length := by rw [h.1]; exact h4.2.1
    have h6 : (M.getD y.toNat 0).testBit x = true := by
      rw [h.2 y.toNat h4.2.1 x]
      rcases h5 with ⟨a, b, c⟩ | ⟨a, b, c⟩
      · exact .inr ⟨a, by omega, c⟩
      · exact .inl ⟨a, by omega, c⟩
    have e : (M.map bitsI).getD y.toNat [] = bitsI M[y.toNat] := by simp [hy2]
    rw [e, mem_bitsI (h32 _ (List.getElem_mem hy2))]
    exact ⟨by omega, by simpa [hy2] using h6⟩
theorem emb_moves {g : List (List Int)} {M : List Nat} {u v d : Nat} (hg : GOk g) (hn : g.length = d + 1) (hu : u < g.length) (hv : v < g.length) (hM : LkG (ordE g (ordL v g.length)) g.length g.length 0 M) : decide (0 < (embL g (M.map bitsI) d [u]).length) = movesB (netsL g) u v := by
  have hlt := hM.lt (.inr ⟨Nat.le_refl _, rfl⟩)
  have h32 : ∀ m ∈ M, m < 4294967296 := fun m hm => Nat.lt_trans (hlt m hm) (pow16_lt hg.hi)
  have hnl := netsL_len g
  have key := moves_iff (H := netsL g) (Q := M) (u := u) (v := v) (d := d) (sym_nets hg) (by rw [hnl]; exact hn) (by rw [hnl]; exact hu) (by rw [hnl]; exact hv) (fun i j hi hj => by
    rw [hnl] at hi
    have hj2 : j < g.length := by omega
    have h1 := hM.2 i hi j
    have h2 : (M.getD i 0).testBit j = true ↔ ordE g (ordL v g.length) i j = true := by
      rw [h1]
      constructor
      · rintro (⟨a, b, c⟩ | ⟨a, b, c⟩)
        · exact c
        · omega
      · intro c; exact .inl ⟨hj, .inl hi, c⟩
    have ho := ord_lt hv hi
    rw [netsL_get ho, testBit_maskL (fun z hz => (hg.ge ho z hz).1)]
    rw [ordE, ordL_get hv hi, ordL_get hv hj2, show g.getD (ordV v i) [] = g[ordV v i] by simp [ho]] at h2
    rw [Bool.eq_iff_iff]; exact h2)
  rw [embL, nets_bits h32, srch_head]
  cases hA : allF (netsL g) M d [u] with
  | nil =>
    rw [hA] at key
    have : movesB (netsL g) u v = false := by simpa using key.symm
    rw [this]; simp
  | cons q t =>
    rw [hA] at key
    have hm : movesB (netsL g) u v = true := by simpa using key.symm
    have hq : q ∈ allF (netsL g) M d [u] := by rw [hA]; simp
    have hl := ((all1 (by rw [hnl]; exact hu)).1 hq).1
    rw [hm]; simp [hl]
end Go.Proofs.Ytplohdnakllbiaa
