/- Planar systems of a right graph: how many, and the least; plain facts. -/
import Derived.Test.YtdbanndcdbikmaaGreatDoorGroM
import Derived.Test.YtdbanndcdbikmaaGreatDoorLoopL
import Derived.Test.YtdbanndcdbikmaaGreatDoorDistM
import Derived.Test.YtdbanndcdbikmaaGreatDoorEdge
namespace Go.Proofs.YtdbanndcdbikmaaGreatDoor
open Go.RowKit
/-! The number of what is found. -/
def facN : Nat → Nat
  | 0 => 1
  | k + 1 => facN k * max 1 k
def prodN : List (List Nat) → Nat
  | [] => 1
  | l :: t => facN l.length * prodN t
theorem facN_pos : ∀ k, 0 < facN k
  | 0 => by simp [facN]
  | k + 1 => Nat.mul_pos (facN_pos k) (by omega)
theorem prodN_pos : ∀ t, 0 < prodN t
  | [] => by simp [prodN]
  | l :: t => Nat.mul_pos (facN_pos _) (prodN_pos t)
theorem prodN_set : ∀ (t : List (List Nat)) (u : Nat) (l : List Nat), u < t.length → l.length = (t.getD u []).length + 1 → prodN (t.set u l) = prodN t * max 1 (t.getD u []).length
  | [], _, _, h, _ => by simp at h
  | r :: t, 0, l, _, h => by
    have h : l.length = r.length + 1 := by simpa using h
    rw [List.set_cons_zero, prodN, prodN, h, facN, show (r :: t).getD 0 [] = r from rfl, Nat.mul_right_comm]
  | r :: t, u + 1, l, hu, h => by
    rw [List.set_cons_succ, prodN, prodN, prodN_set t u l (by simpa using hu) (by simpa using h), show (r :: t).getD (u + 1) [] = t.getD u [] by simp, Nat.mul_assoc]
theorem prodN_step {t : List (List Nat)} {u v : Nat} (hu : u < t.length) (hv : v < t.length) (hne : u ≠ v) (i k : Nat) : prodN (stepE t u v i k) = prodN t * max 1 (t.getD u []).length * max 1 (t.getD v []).length := by
  unfold stepE
  have e : (t.set u (insN (t.getD u []) i v)).getD v [] = t.getD v [] := by rw [getD_set _ _ _ hu, if_neg (fun h => hne h.symm)]
  rw [prodN_set _ v _ (by simpa using hv) (by rw [insN_len, e]), prodN_set t u _ hu (insN_len _ _ _), e]
theorem flatMap_le {α β : Type} (f : α → List β) (b : Nat) : ∀ l : List α, (∀ a ∈ l, (f a).length ≤ b) → (l.flatMap f).length ≤ l.length * b
  | [], _ => by simp
  | a :: l, h => by
    rw [List.flatMap_cons, List.length_append, List.length_cons, Nat.succ_mul]
    have := h a (by simp)
    have := flatMap_le f b l (fun x hx => h x (by simp [hx]))
    omega
theorem srchS_len {n M : Nat} : ∀ (es L : List (Nat × Nat)) (t : List (List Nat)), EdgeL n (L ++ es) → HasE n t L → (∀ t', HasE n t' (L ++ es) → prodN t' ≤ M) → (srchS es t).length * prodN t ≤ M
  | [], L, t, hE, h, hM => by
    rw [List.append_nil] at hM
    have := hM t h
    rw [srchS]
    split
    · simpa using this
    · simp
  | e :: es, L, t, hE, h, hM => by
    obtain ⟨h1, h2, h3⟩ := hE.lt e (by simp)
    have hu : e.1 < t.length := by rw [h.len]; exact h1
    have hv : e.2 < t.length := by rw [h.len]; exact h2
    rw [srchS]
    split
    · have hp := prodN_pos t
      have ea : L ++ e :: es = (L ++ [(e.1, e.2)]) ++ es := by simp
      have key : ∀ i k, (srchS es (stepE t e.1 e.2 i k)).length ≤ M / (prodN t * max 1 (t.getD e.1 []).length * max 1 (t.getD e.2 []).length) := fun i k => by
        have := srchS_len es _ _ hE.next (h.step hE i k) (fun t' ht' => hM t' (by rw [ea]; exact ht'))
        rw [prodN_step hu hv h3] at this
        exact (Nat.le_div_iff_mul_le (Nat.mul_pos (Nat.mul_pos hp (by omega)) (by omega))).2 this
      generalize max 1 (t.getD e.1 []).length = a at *
      generalize max 1 (t.getD e.2 []).length = b at *
      have hle := flatMap_le (fun i => (List.range b).flatMap fun k => srchS es (stepE t e.1 e.2 i k)) (b * (M / (prodN t * a * b))) (List.range a) (fun i _ => by
        have := flatMap_le (fun k => srchS es (stepE t e.1 e.2 i k)) (M / (prodN t * a * b)) (List.range b) (fun k _ => key i k)
        rw [List.length_range] at this
        exact this)
      rw [List.length_range] at hle
      refine Nat.le_trans (Nat.mul_le_mul_right _ hle) ?_
      have e2 : a * (b * (M / (prodN t * a * b))) * prodN t = M / (prodN t * a * b) * (prodN t * a * b) := by
        generalize M / (prodN t * a * b) = q
        rw [Nat.mul_comm (a * (b * q)), Nat.mul_comm q]
        simp only [Nat.mul_assoc]
      rw [e2]
      exact Nat.div_mul_le_self _ _
    · simp
theorem facN_le : ∀ {d : Nat}, d ≤ 7 → facN d ≤ 3 ^ d := fun {d} h => by
  match d, h with
  | 0, _ => decide
  | 1, _ => decide
  | 2, _ => decide
  | 3, _ => decide
  | 4, _ => decide
  | 5, _ => decide
  | 6, _ => decide
  | 7, _ => decide
  | d + 8, h => omega
theorem prodN_le : ∀ t : List (List Nat), (∀ l ∈ t, l.length ≤ 7) → prodN t ≤ 3 ^ (sidesN t)
  | [], _ => by simp [prodN, sidesN]
  | l :: t, h => by
    have h1 := facN_le (h l (by simp))
    have h2 := prodN_le t (fun x hx => h x (by simp [hx]))
    have e : sidesN (l :: t) = l.length + sidesN t := by simp [sidesN]
    rw [prodN, e, Nat.pow_add]
    exact Nat.mul_le_mul h1 h2
/-- What is found can be counted in a machine's word. -/
theorem srchS_small {n : Nat} {E : List (Nat × Nat)} (hE : EdgeL n E) (hn : n ≤ 8) : (srchS E (List.replicate n [])).length < 9223372036854775808 := by
  by_cases hm : 3 ≤ n ∧ 3 * n < E.length + 6
  · rw [srchS_many hE hm.1 hm.2]; simp
  · have hlen : ∀ t', HasE n t' E → sidesN t' ≤ 36 ∧ ∀ l ∈ t', l.length ≤ 7 := fun t' ht => by
      have hrow : ∀ a, (t'.getD a []).length ≤ n - 1 := fun a => by
        by_cases ha : a < n
        · have hnd : (a :: t'.getD a []).Nodup := List.nodup_cons.2 ⟨fun hc => by
            have := (ht.mem a a).1 hc
            unfold putB at this
            rw [decide_eq_true_eq] at this
            exact (hE.lt _ (this.elim id id)).2.2 rfl, ht.rot.nd a⟩
          have := nodup_lenA hnd (E := List.range n) (fun x hx => by
            rcases List.mem_cons.1 hx with rfl | hx
            · exact List.mem_range.2 ha
            · exact List.mem_range.2 (by rw [← ht.len]; exact (ht.rot.sym _ _ hx).1))
          rw [List.length_cons, List.length_range] at this; omega
        · have e : t'.getD a [] = [] := by simp [show t'.length ≤ a by rw [ht.len]; omega]
          rw [e]; simp
      refine ⟨?_, fun l hl => ?_⟩
      · have hd := darts_sides ht.rot
        have hle : (dartsN t').length ≤ 2 * E.length := by
          have := nodup_lenA (darts_nodup t') (E := E ++ E.map fun e => (e.2, e.1)) (fun x hx => by
            have := (ht.mem x.1 x.2).1 ((mem_dartsN ht.rot).1 hx)
            unfold putB at this
            rw [decide_eq_true_eq] at this
            rw [List.mem_append, List.mem_map]
            rcases this with h1 | h1
            · exact .inl h1
            · exact .inr ⟨(x.2, x.1), h1, rfl⟩)
          rw [List.length_append, List.length_map] at this
          omega
        by_cases h3 : 3 ≤ n
        · have : ¬ 3 * n < E.length + 6 := fun h => hm ⟨h3, h⟩
          omega
        · -- at most two vertices
          have hs : sidesN t' ≤ n * (n - 1) := by
            rw [← sum_rows (fun a => (t'.getD a []).length) (fun u _ => rfl), ht.len]
            have : ∀ k, ((List.range k).map fun a => (t'.getD a []).length).sum ≤ k * (n - 1) := fun k => by
              induction k with
              | zero => simp
              | succ k ih =>
                rw [List.range_succ, List.map_append, List.sum_append, Nat.succ_mul]
                have := hrow k
                simp only [List.map_cons, List.map_nil, List.sum_cons, List.sum_nil]
                omega
            exact this n
          have : n * (n - 1) ≤ 36 := by
            have : n = 0 ∨ n = 1 ∨ n = 2 := by omega
            rcases this with rfl | rfl | rfl <;> decide
          omega
      · obtain ⟨i, hi, rfl⟩ := List.getElem_of_mem hl
        have := hrow i
        rw [show t'.getD i [] = t'[i] by simp [hi]] at this
        omega
    have h := srchS_len (M := 3 ^ 36) E [] (List.replicate n []) (by simpa using hE) (hasE_start hE.le) (fun t' ht => by
      rw [List.nil_append] at ht
      obtain ⟨h1, h2⟩ := hlen t' ht
      exact Nat.le_trans (prodN_le t' h2) (Nat.pow_le_pow_right (by omega) h1))
    have hp := prodN_pos (List.replicate n [])
    have h2 : (srchS E (List.replicate n [])).length ≤ 3 ^ 36 := Nat.le_trans (Nat.le_mul_of_pos_right _ hp) h
    have e : (3 : Nat) ^ 36 = 150094635296999121 := by decide
    omega
/-! The state of both searches. -/
def stepW (p : Int × List (List Nat)) (R : List (List Nat)) : Int × List (List Nat) := (wrap64 (p.1 + 1), bestStepR p.2 R)
theorem stepW_fold (m : Int) (b : List (List Nat)) : ∀ l : List (List (List Nat)), l.foldl stepW (m, b) = (l.foldl (fun m _ => wrap64 (m + 1)) m, l.foldl bestStepR b)
  | [] => rfl
  | R :: l => by rw [List.foldl_cons, List.foldl_cons, List.foldl_cons]; exact stepW_fold _ _ l
theorem count_fold : ∀ (l : List (List (List Nat))) (k : Nat), k + l.length < 9223372036854775808 → l.foldl (fun m _ => wrap64 (m + 1)) (k : Int) = ((k + l.length : Nat) : Int)
  | [], k, _ => by simp
  | R :: l, k, h => by
    rw [List.length_cons] at h
    rw [List.foldl_cons]
    have e : wrap64 ((k : Int) + 1) = ((k + 1 : Nat) : Int) := by
      unfold wrap64; omega
    rw [e, count_fold l (k + 1) (by omega), List.length_cons]
    congr 1; omega
end Go.Proofs.YtdbanndcdbikmaaGreatDoor
