/- Faces of a rotation system: plain facts. -/
import Derived.Test.YtdbanndcdbikmaaGreatDoorDistM
import Derived.Test.YtdbanndcdbikmaaGreatDoorMod3
import Derived.Sort.Statements
namespace Go.Proofs.YtdbanndcdbikmaaGreatDoor
open Go.RowKit
/-- A side of an edge. -/
abbrev Dart := Nat × Nat
/-- A rotation system: a list of neighbours around each vertex, each once, either way. -/
structure RotN (t : List (List Nat)) : Prop where
  le : t.length ≤ 16
  nd : ∀ u, (t.getD u []).Nodup
  sym : ∀ u v, v ∈ t.getD u [] → v < t.length ∧ u ∈ t.getD v []
theorem RotN.lt {t : List (List Nat)} (h : RotN t) {u v : Nat} (hv : v ∈ t.getD u []) : u < t.length := (h.sym v u (h.sym u v hv).2).1
theorem step_mod {i n : Nat} (h : i < n) : (i + 1) % n = if i + 1 = n then 0 else i + 1 := by
  by_cases e : i + 1 = n
  · rw [if_pos e, e, Nat.mod_self]
  · rw [if_neg e, Nat.mod_eq_of_lt (by omega)]
/-- What stands behind u. -/
def nextIn (l : List Nat) (u : Nat) : Nat := l.getD ((l.idxOf u + 1) % l.length) 0
theorem nextIn_mem {l : List Nat} {u : Nat} (h : u ∈ l) : nextIn l u ∈ l := by
  have hp := List.length_pos_of_mem h
  have : (l.idxOf u + 1) % l.length < l.length := Nat.mod_lt _ hp
  unfold nextIn
  rw [List.getD_eq_getElem?_getD, List.getElem?_eq_getElem this]
  exact List.getElem_mem this
theorem nextIn_at {l : List Nat} (hn : l.Nodup) {i : Nat} (hi : i < l.length) : nextIn l l[i] = l.getD ((i + 1) % l.length) 0 := by
  unfold nextIn
  rw [hn.idxOf_getElem i hi]
theorem getD_inj {l : List Nat} (hn : l.Nodup) {i j : Nat} (hi : i < l.length) (hj : j < l.length) (h : l.getD i 0 = l.getD j 0) : i = j := by
  have e1 : l.getD i 0 = l[i] := by simp [hi]
  have e2 : l.getD j 0 = l[j] := by simp [hj]
  rw [e1, e2] at h
  rw [List.Nodup, List.pairwise_iff_getElem] at hn
  rcases Nat.lt_trichotomy i j with c | c | c
  · exact absurd h (hn i j hi hj c)
  · exact c
  · exact absurd h.symm (hn j i hj hi c)
theorem nextIn_inj {l : List Nat} (hn : l.Nodup) {u v : Nat} (hu : u ∈ l) (hv : v ∈ l) (h : nextIn l u = nextIn l v) : u = v := by
  obtain ⟨i, hi, rfl⟩ := List.getElem_of_mem hu
  obtain ⟨j, hj, rfl⟩ := List.getElem_of_mem hv
  rw [nextIn_at hn hi, nextIn_at hn hj] at h
  have hp : 0 < l.length := by omega
  have := getD_inj hn (Nat.mod_lt _ hp) (Nat.mod_lt _ hp) h
  rw [step_mod hi, step_mod hj] at this
  have e : i = j := by split at this <;> split at this <;> omega
  subst e; rfl
def succD (t : List (List Nat)) (x : Dart) : Dart := (x.2, nextIn (t.getD x.2 []) x.1)
def IsD (t : List (List Nat)) (x : Dart) : Prop := x.2 ∈ t.getD x.1 []
theorem IsD.lt {t : List (List Nat)} (h : RotN t) {x : Dart} (hx : IsD t x) : x.1 < t.length ∧ x.2 < t.length := ⟨h.lt hx, (h.sym _ _ hx).1⟩
theorem succ_isD {t : List (List Nat)} (h : RotN t) {x : Dart} (hx : IsD t x) : IsD t (succD t x) := nextIn_mem (h.sym _ _ hx).2
theorem succ_inj {t : List (List Nat)} (h : RotN t) {x y : Dart} (hx : IsD t x) (hy : IsD t y) (e : succD t x = succD t y) : x = y := by
  obtain ⟨x1, x2⟩ := x
  obtain ⟨y1, y2⟩ := y
  simp only [succD, Prod.mk.injEq] at e
  obtain ⟨rfl, e⟩ := e
  exact congrArg (·, x2) (nextIn_inj (h.nd _) (h.sym _ _ hx).2 (h.sym _ _ hy).2 e)
/-- All sides, in order. -/
def rowD (t : List (List Nat)) (u : Nat) : List Nat := (List.range t.length).filter fun v => decide (v ∈ t.getD u [])
def dartsN (t : List (List Nat)) : List Dart := (List.range t.length).flatMap fun u => (rowD t u).map fun v => (u, v)
theorem mem_rowD {t : List (List Nat)} (h : RotN t) {u v : Nat} : v ∈ rowD t u ↔ v ∈ t.getD u [] := by
  unfold rowD
  rw [List.mem_filter, List.mem_range, decide_eq_true_eq]
  exact ⟨fun h => h.2, fun hv => ⟨(h.sym _ _ hv).1, hv⟩⟩
theorem mem_dartsN {t : List (List Nat)} (h : RotN t) {x : Dart} : x ∈ dartsN t ↔ IsD t x := by
  unfold dartsN
  rw [List.mem_flatMap]
  constructor
  · rintro ⟨u, hu, hx⟩
    obtain ⟨v, hv, rfl⟩ := List.mem_map.1 hx
    exact (mem_rowD h).1 hv
  · intro hx
    exact ⟨x.1, List.mem_range.2 (hx.lt h).1, List.mem_map.2 ⟨x.2, (mem_rowD h).2 hx, rfl⟩⟩
theorem rot_row {t : List (List Nat)} (h : RotN t) (u : Nat) : (t.getD u []).length ≤ 16 := by
  have h1 := nodup_lenA (l := t.getD u []) (E := List.range t.length) (h.nd u) (fun x hx => List.mem_range.2 (h.sym _ _ hx).1)
  have h2 := h.le
  rw [List.length_range] at h1; omega
theorem row_len {t : List (List Nat)} (h : RotN t) (u : Nat) : (rowD t u).length = (t.getD u []).length := by
  have hn : (rowD t u).Nodup := by
    unfold rowD
    exact (List.pairwise_lt_range.filter _).imp (fun h => by omega)
  exact Nat.le_antisymm (nodup_lenA hn fun x hx => (mem_rowD h).1 hx) (nodup_lenA (h.nd u) fun x hx => (mem_rowD h).2 hx)
/-- How many sides are not met yet. -/
def restD (t : List (List Nat)) (D : List Dart) : Nat := ((dartsN t).filter fun x => !decide (x ∈ D)).length
theorem filter_lt {α : Type} {p q : α → Bool} : ∀ {l : List α} {x : α}, (∀ y, q y = true → p y = true) → x ∈ l → p x = true → q x = false → (l.filter q).length < (l.filter p).length
  | y :: l, x, himp, hx, hp, hq => by
    have hle : (l.filter q).length ≤ (l.filter p).length := by
      have : ∀ l : List α, (l.filter q).length ≤ (l.filter p).length := fun l => by
        induction l with
        | nil => simp
        | cons z l ih =>
          rw [List.filter_cons, List.filter_cons]
          by_cases h1 : q z = true
          · rw [if_pos h1, if_pos (himp _ h1)]; simpa using ih
          · rw [if_neg h1]
            split
            · simp; omega
            · exact ih
      exact this l
    rw [List.filter_cons, List.filter_cons]
    rcases List.mem_cons.1 hx with rfl | hx
    · rw [if_neg (by rw [hq]; simp), if_pos hp]; simp; omega
    · have ih := filter_lt himp hx hp hq
      by_cases h1 : q y = true
      · rw [if_pos h1, if_pos (himp _ h1)]; simpa using ih
      · rw [if_neg h1]
        split
        · simp; omega
        · exact ih
theorem rest_snoc {t : List (List Nat)} (h : RotN t) {D : List Dart} {x : Dart} (hx : IsD t x) (hn : x ∉ D) : restD t (D ++ [x]) < restD t D := by
  unfold restD
  refine filter_lt (x := x) (fun y hy => ?_) ((mem_dartsN h).2 hx) (by simp [hn]) (by simp)
  simp only [Bool.not_eq_true', decide_eq_false_iff_not, List.mem_append, not_or] at hy ⊢
  exact hy.1
/-- Along a face. -/
def trF (t : List (List Nat)) : Nat → List Dart → Dart → List Nat → List Nat × List Dart
  | 0, D, _, f => (f, D)
  | k + 1, D, x, f => if x ∈ D then (f, D) else trF t k (D ++ [x]) (succD t x) (f ++ [x.1])
theorem trF_enough {t : List (List Nat)} (h : RotN t) : ∀ (k m : Nat) (D : List Dart) (x : Dart) (f : List Nat), IsD t x → restD t D < k → restD t D < m → trF t k D x f = trF t m D x f
  | 0, _, _, _, _, _, hk, _ => by omega
  | _ + 1, 0, _, _, _, _, _, hm => by omega
  | k + 1, m + 1, D, x, f, hx, hk, hm => by
    rw [trF, trF]
    by_cases hD : x ∈ D
    · rw [if_pos hD, if_pos hD]
    · rw [if_neg hD, if_neg hD]
      have := rest_snoc h hx hD
      exact trF_enough h k m _ _ _ (succ_isD h hx) (by omega) (by omega)
def trW (t : List (List Nat)) (D : List Dart) (x : Dart) (f : List Nat) : List Nat × List Dart := trF t (restD t D + 1) D x f
theorem trW_in {t : List (List Nat)} {D : List Dart} {x : Dart} {f : List Nat} (h : x ∈ D) : trW t D x f = (f, D) := by rw [trW, trF, if_pos h]
theorem trW_step {t : List (List Nat)} (h : RotN t) {D : List Dart} {x : Dart} {f : List Nat} (hx : IsD t x) (hn : x ∉ D) : trW t D x f = trW t (D ++ [x]) (succD t x) (f ++ [x.1]) := by
  have := rest_snoc h hx hn
  rw [trW, trW, trF, if_neg hn]
  exact trF_enough h _ _ _ _ _ (succ_isD h hx) (by omega) (by omega)
/-- The faces, as far as some sides lead. -/
def fstep (t : List (List Nat)) (st : List (List Nat) × List Dart) (x : Dart) : List (List Nat) × List Dart :=
  if x ∈ st.2 then st else (st.1 ++ [(trW t st.2 x []).1], (trW t st.2 x []).2)
def facesTo (t : List (List Nat)) (L : List Dart) : List (List Nat) × List Dart := L.foldl (fstep t) ([], [])
def facesN (t : List (List Nat)) : List (List Nat) := (facesTo t (dartsN t)).1
theorem facesTo_snoc (t : List (List Nat)) (L : List Dart) (x : Dart) : facesTo t (L ++ [x]) = fstep t (facesTo t L) x := by simp [facesTo]
/-- Induction along a face. -/
theorem trW_ind {t : List (List Nat)} (h : RotN t) (M : List Dart → Dart → List Nat → Prop) (Z : List Nat → List Dart → Prop) (hin : ∀ D x f, M D x f → x ∈ D → Z f D)
    (hstep : ∀ D x f, M D x f → IsD t x → x ∉ D → M (D ++ [x]) (succD t x) (f ++ [x.1])) : ∀ (n : Nat) (D : List Dart) (x : Dart) (f : List Nat), restD t D ≤ n → IsD t x → M D x f → Z (trW t D x f).1 (trW t D x f).2
  | n, D, x, f, hn, hx, hM => by
    by_cases hD : x ∈ D
    · rw [trW_in hD]; exact hin _ _ _ hM hD
    · rw [trW_step h hx hD]
      have := rest_snoc h hx hD
      match n, hn with
      | 0, hn => omega
      | n + 1, hn => exact trW_ind h M Z hin hstep n _ _ _ (by omega) (succ_isD h hx) (hstep _ _ _ hM hx hD)
/-- What is met are sides, each once; the faces hold as many. -/
structure FInv (t : List (List Nat)) (F : List (List Nat)) (D : List Dart) : Prop where
  all : ∀ x ∈ D, IsD t x
  nd : D.Nodup
  sum : (F.map List.length).sum = D.length
  small : ∀ f ∈ F, f.length ≤ 256 ∧ ∀ v ∈ f, v < t.length
theorem len_le_sq {t : List (List Nat)} (h : RotN t) {D : List Dart} (ha : ∀ x ∈ D, IsD t x) (hn : D.Nodup) : D.length ≤ 256 := by
  have h1 := nodup_lenA (l := D) (E := dartsN t) hn (fun x hx => (mem_dartsN h).2 (ha x hx))
  have h2 : (dartsN t).length ≤ t.length * t.length := by
    have key : ∀ (L : List Nat), (L.flatMap fun u => (rowD t u).map fun v => (u, v)).length ≤ L.length * t.length := fun L => by
      induction L with
      | nil => simp
      | cons u L ih =>
        rw [List.flatMap_cons, List.length_append, List.length_map, List.length_cons]
        have : (rowD t u).length ≤ t.length := by
          have := List.length_filter_le (fun v => decide (v ∈ t.getD u [])) (List.range t.length)
          simpa [rowD] using this
        rw [Nat.succ_mul]; omega
    have := key (List.range t.length)
    simpa [dartsN] using this
  have h3 := Nat.mul_le_mul h.le h.le
  omega
theorem FInv.step {t : List (List Nat)} (h : RotN t) {F : List (List Nat)} {D : List Dart} (hi : FInv t F D) {x : Dart} (hx : IsD t x) : FInv t (fstep t (F, D) x).1 (fstep t (F, D) x).2 := by
  unfold fstep
  by_cases hD : x ∈ D
  · simp only [if_pos hD]; exact hi
  · simp only [if_neg hD]
    refine trW_ind h (fun D' y f => (∀ x ∈ D', IsD t x) ∧ D'.Nodup ∧ D'.length = D.length + f.length ∧ ∀ v ∈ f, v < t.length) (fun f D' => FInv t (F ++ [f]) D') ?_ ?_ _ D x [] (Nat.le_refl _) hx ⟨hi.all, hi.nd, by simp, by simp⟩
    · rintro D' y f ⟨h1, h2, h3, h4⟩ _
      have := len_le_sq h h1 h2
      refine ⟨h1, h2, ?_, fun f' hf => ?_⟩
      · rw [List.map_append, List.sum_append, hi.sum]; simp; omega
      · rcases List.mem_append.1 hf with hf | hf
        · exact hi.small f' hf
        · simp only [List.mem_singleton] at hf
          subst hf
          exact ⟨by omega, h4⟩
    · rintro D' y f ⟨h1, h2, h3, h4⟩ hy hn
      refine ⟨fun z hz => ?_, ?_, by simp; omega, fun v hv => ?_⟩
      · rcases List.mem_append.1 hz with hz | hz
        · exact h1 z hz
        · simp at hz; rw [hz]; exact hy
      · rw [List.nodup_append]
        exact ⟨h2, by simp, fun a ha b hb => by simp at hb; subst hb; exact fun e => hn (e ▸ ha)⟩
      · rcases List.mem_append.1 hv with hv | hv
        · exact h4 v hv
        · simp at hv; rw [hv]; exact (hy.lt h).1
theorem FInv.to {t : List (List Nat)} (h : RotN t) : ∀ (L : List Dart), (∀ x ∈ L, IsD t x) → ∀ (F : List (List Nat)) (D : List Dart), FInv t F D → FInv t (L.foldl (fstep t) (F, D)).1 (L.foldl (fstep t) (F, D)).2
  | [], _, F, D, hi => hi
  | x :: L, hL, F, D, hi => by
    rw [List.foldl_cons]
    exact FInv.to h L (fun y hy => hL y (by simp [hy])) _ _ (hi.step h (hL x (by simp)))
theorem FInv.start (t : List (List Nat)) : FInv t [] [] := ⟨by simp, by simp, by simp, by simp⟩
theorem facesTo_inv {t : List (List Nat)} (h : RotN t) {L : List Dart} (hL : ∀ x ∈ L, IsD t x) : FInv t (facesTo t L).1 (facesTo t L).2 := FInv.to h L hL _ _ (FInv.start t)
/-- The sides ahead of (u, v). -/
def dartsTo (t : List (List Nat)) (u v : Nat) : List Dart := ((List.range u).flatMap fun u => (rowD t u).map fun v => (u, v)) ++ ((List.range v).filter fun v => decide (v ∈ t.getD u [])).map fun v => (u, v)
theorem dartsTo_zero (t : List (List Nat)) : dartsTo t 0 0 = [] := by simp [dartsTo]
theorem dartsTo_row (t : List (List Nat)) (u : Nat) : dartsTo t (u + 1) 0 = dartsTo t u t.length := by simp [dartsTo, List.range_succ, rowD]
theorem dartsTo_yes {t : List (List Nat)} {u v : Nat} (h : v ∈ t.getD u []) : dartsTo t u (v + 1) = dartsTo t u v ++ [(u, v)] := by simp [dartsTo, List.range_succ, List.filter_append, -List.getD_eq_getElem?_getD, h]
theorem dartsTo_no {t : List (List Nat)} {u v : Nat} (h : v ∉ t.getD u []) : dartsTo t u (v + 1) = dartsTo t u v := by simp [dartsTo, List.range_succ, List.filter_append, -List.getD_eq_getElem?_getD, h]
theorem dartsTo_all (t : List (List Nat)) : dartsTo t t.length 0 = dartsN t := by simp [dartsTo, dartsN]
theorem dartsTo_isD {t : List (List Nat)} (h : RotN t) {u v : Nat} : ∀ x ∈ dartsTo t u v, IsD t x := fun x hx => by
  rcases List.mem_append.1 hx with hx | hx
  · obtain ⟨u, hu, hx⟩ := List.mem_flatMap.1 hx
    obtain ⟨v, hv, rfl⟩ := List.mem_map.1 hx
    exact (mem_rowD h).1 hv
  · obtain ⟨v, hv, rfl⟩ := List.mem_map.1 hx
    exact of_decide_eq_true (p := v ∈ t.getD u []) (List.mem_filter.1 hv).2
/-- The same, with the row by its number. -/
def dartsAt (t : List (List Nat)) (u k : Nat) : List Dart := ((List.range u).flatMap fun u => (rowD t u).map fun v => (u, v)) ++ ((rowD t u).take k).map fun v => (u, v)
theorem dartsAt_row (t : List (List Nat)) {u k : Nat} (hk : (rowD t u).length ≤ k) : dartsAt t u k = dartsAt t (u + 1) 0 := by simp [dartsAt, List.range_succ, List.take_of_length_le hk]
theorem dartsAt_snoc (t : List (List Nat)) {u k : Nat} (hk : k < (rowD t u).length) : dartsAt t u (k + 1) = dartsAt t u k ++ [(u, (rowD t u)[k])] := by
  unfold dartsAt
  rw [List.take_succ_eq_append_getElem hk, List.map_append, List.append_assoc]
  rfl
theorem dartsAt_all (t : List (List Nat)) : dartsAt t t.length 0 = dartsN t := by simp [dartsAt, dartsN]
theorem dartsAt_zero (t : List (List Nat)) : dartsAt t 0 0 = [] := by simp [dartsAt]
theorem dartsAt_isD {t : List (List Nat)} (h : RotN t) {u k : Nat} : ∀ x ∈ dartsAt t u k, IsD t x := fun x hx => by
  rcases List.mem_append.1 hx with hx | hx
  · obtain ⟨u, hu, hx⟩ := List.mem_flatMap.1 hx
    obtain ⟨v, hv, rfl⟩ := List.mem_map.1 hx
    exact (mem_rowD h).1 hv
  · obtain ⟨v, hv, rfl⟩ := List.mem_map.1 hx
    exact (mem_rowD h).1 (List.mem_of_mem_take hv)
theorem rows_len (t : List (List Nat)) (L : List Nat) : (L.flatMap fun u => (rowD t u).map fun v => (u, v)).length ≤ L.length * t.length := by
  induction L with
  | nil => simp
  | cons u L ih =>
    rw [List.flatMap_cons, List.length_append, List.length_map, List.length_cons]
    have : (rowD t u).length ≤ t.length := by
      have := List.length_filter_le (fun v => decide (v ∈ t.getD u [])) (List.range t.length)
      simpa [rowD] using this
    rw [Nat.succ_mul]; omega
theorem faces_le (t : List (List Nat)) : ∀ (L : List Dart) (F : List (List Nat)) (D : List Dart), (L.foldl (fstep t) (F, D)).1.length ≤ F.length + L.length
  | [], F, D => by simp
  | x :: L, F, D => by
    rw [List.foldl_cons]
    have h := faces_le t L (fstep t (F, D) x).1 (fstep t (F, D) x).2
    have h2 : (fstep t (F, D) x).1.length ≤ F.length + 1 := by
      unfold fstep
      split <;> simp
    have e : ((fstep t (F, D) x).1, (fstep t (F, D) x).2) = fstep t (F, D) x := rfl
    rw [e] at h
    simp only [List.length_cons]
    omega
theorem facesAt_le {t : List (List Nat)} (h : RotN t) {u k : Nat} (hu : u ≤ t.length) : (facesTo t (dartsAt t u k)).1.length ≤ 256 + k := by
  have h1 := faces_le t (dartsAt t u k) [] []
  have h2 := rows_len t (List.range u)
  have h3 : (List.range u).length * t.length ≤ 256 := by
    rw [List.length_range]
    have := Nat.mul_le_mul hu (Nat.le_refl t.length)
    have := Nat.mul_le_mul h.le h.le
    omega
  have h4 : (dartsAt t u k).length ≤ 256 + k := by
    unfold dartsAt
    rw [List.length_append, List.length_map, List.length_take]
    omega
  unfold facesTo
  simp only [List.length_nil] at h1
  omega
theorem facesTo_le {t : List (List Nat)} (h : RotN t) {u v : Nat} (hu : u ≤ t.length) : (facesTo t (dartsTo t u v)).1.length ≤ 256 + v := by
  have h1 := faces_le t (dartsTo t u v) [] []
  have h2 := rows_len t (List.range u)
  have h3 : (List.range u).length * t.length ≤ 256 := by
    rw [List.length_range]
    have := Nat.mul_le_mul hu (Nat.le_refl t.length)
    have := Nat.mul_le_mul h.le h.le
    omega
  have h4 : (dartsTo t u v).length ≤ 256 + v := by
    unfold dartsTo
    have := List.length_filter_le (fun v => decide (v ∈ t.getD u [])) (List.range v)
    rw [List.length_range] at this
    rw [List.length_append, List.length_map]
    omega
  unfold facesTo
  simp only [List.length_nil] at h1
  omega
def itD (t : List (List Nat)) : Nat → Dart → Dart
  | 0, x => x
  | k + 1, x => itD t k (succD t x)
theorem itD_succ (t : List (List Nat)) : ∀ (k : Nat) (x : Dart), itD t (k + 1) x = succD t (itD t k x)
  | 0, _ => rfl
  | k + 1, x => by rw [itD, itD_succ t k]; rfl
theorem itD_add (t : List (List Nat)) : ∀ (k m : Nat) (x : Dart), itD t (k + m) x = itD t m (itD t k x)
  | k, 0, x => rfl
  | k, m + 1, x => by rw [← Nat.add_assoc, itD_succ, itD_add t k m, itD_succ]
theorem itD_isD {t : List (List Nat)} (h : RotN t) {x : Dart} (hx : IsD t x) : ∀ k, IsD t (itD t k x)
  | 0 => hx
  | k + 1 => by rw [itD_succ]; exact succ_isD h (itD_isD h hx k)
theorem itD_inj {t : List (List Nat)} (h : RotN t) : ∀ (k : Nat) {x y : Dart}, IsD t x → IsD t y → itD t k x = itD t k y → x = y
  | 0, _, _, _, _, e => e
  | k + 1, _, _, hx, hy, e => succ_inj h hx hy (itD_inj h k (succ_isD h hx) (succ_isD h hy) e)
/-- Every side comes back. -/
theorem itD_period {t : List (List Nat)} (h : RotN t) {x : Dart} (hx : IsD t x) : ∃ p, 0 < p ∧ itD t p x = x := by
  apply Classical.byContradiction
  intro hno
  have hnd : ((List.range 257).map fun i => itD t i x).Nodup := by
    rw [List.Nodup, List.pairwise_map]
    refine List.Pairwise.imp_of_mem ?_ List.pairwise_lt_range
    intro i j _ _ hij e
    obtain ⟨d, rfl⟩ : ∃ d, j = i + d := ⟨j - i, by omega⟩
    rw [Nat.add_comm, itD_add] at e
    exact hno ⟨d, by omega, (itD_inj h i hx (itD_isD h hx d) e).symm⟩
  have := len_le_sq h (D := (List.range 257).map fun i => itD t i x) (fun y hy => by obtain ⟨i, -, rfl⟩ := List.mem_map.1 hy; exact itD_isD h hx i) hnd
  simp at this
def Leads (t : List (List Nat)) (x y : Dart) : Prop := ∃ k, itD t k x = y
theorem Leads.trans {t : List (List Nat)} {x y z : Dart} (h : Leads t x y) (k : Leads t y z) : Leads t x z := by
  obtain ⟨i, rfl⟩ := h; obtain ⟨j, rfl⟩ := k
  exact ⟨i + j, itD_add t i j x⟩
theorem itD_mul {t : List (List Nat)} {p : Nat} {x : Dart} (h : itD t p x = x) : ∀ k, itD t (k * p) x = x
  | 0 => by rw [Nat.zero_mul]; rfl
  | k + 1 => by rw [Nat.succ_mul, itD_add, itD_mul h k, h]
theorem Leads.symm {t : List (List Nat)} (h : RotN t) {x y : Dart} (hx : IsD t x) (hl : Leads t x y) : Leads t y x := by
  obtain ⟨k, rfl⟩ := hl
  obtain ⟨p, hp, e⟩ := itD_period h hx
  have h1 : k ≤ k * p := Nat.le_mul_of_pos_right k hp
  refine ⟨k * p - k, ?_⟩
  rw [← itD_add, Nat.add_sub_cancel' h1]
  exact itD_mul e k
/-- One side of each face. -/
structure Reps (t : List (List Nat)) (S : List Dart) : Prop where
  all : ∀ s ∈ S, IsD t s
  apart : S.Pairwise fun a b => ¬ Leads t a b
  cover : ∀ y, IsD t y → ∃ s ∈ S, Leads t s y
structure RInv (t : List (List Nat)) (S D : List Dart) : Prop where
  sub : ∀ s ∈ S, s ∈ D
  apart : S.Pairwise fun a b => ¬ Leads t a b
  cover : ∀ y ∈ D, ∃ s ∈ S, Leads t s y
  closed : ∀ y ∈ D, succD t y ∈ D
  isD : ∀ y ∈ D, IsD t y
theorem RInv.leads {t : List (List Nat)} {S D : List Dart} (h : RInv t S D) {x y : Dart} (hx : x ∈ D) (hl : Leads t x y) : y ∈ D := by
  obtain ⟨k, rfl⟩ := hl
  have : ∀ k, itD t k x ∈ D := fun k => by
    induction k with
    | zero => exact hx
    | succ k ih => rw [itD_succ]; exact h.closed _ ih
  exact this k
theorem RInv.step {t : List (List Nat)} (h : RotN t) {S D : List Dart} {F : List (List Nat)} (hi : RInv t S D) (hl : S.length = F.length) {x : Dart} (hx : IsD t x) :
    ∃ S', RInv t S' (fstep t (F, D) x).2 ∧ S'.length = (fstep t (F, D) x).1.length ∧ x ∈ (fstep t (F, D) x).2 ∧ ∀ y ∈ D, y ∈ (fstep t (F, D) x).2 := by
  unfold fstep
  by_cases hD : x ∈ D
  · simp only [if_pos hD]; exact ⟨S, hi, hl, hD, fun _ h => h⟩
  · simp only [if_neg hD]
    refine trW_ind h (fun D' y f => (∃ k, y = itD t k x) ∧ (D' = D ∧ y = x ∨ x ∈ D') ∧ (∀ z ∈ D', z ∈ D ∨ Leads t x z) ∧ (∀ z ∈ D, z ∈ D') ∧ (∀ z ∈ D', succD t z ∈ D' ∨ succD t z = y) ∧ ∀ z ∈ D', IsD t z)
      (fun f D' => ∃ S', RInv t S' D' ∧ S'.length = (F ++ [f]).length ∧ x ∈ D' ∧ ∀ y ∈ D, y ∈ D') ?_ ?_ _ D x [] (Nat.le_refl _) hx
      ⟨⟨0, rfl⟩, .inl ⟨rfl, rfl⟩, fun z hz => .inl hz, fun z hz => hz, fun z hz => .inl (hi.closed z hz), hi.isD⟩
    · rintro D' y f ⟨⟨k, rfl⟩, h2, h3, h4, h5, h6⟩ hin
      have hxD : x ∈ D' := by
        rcases h2 with ⟨rfl, e⟩ | h2
        · rw [e] at hin; exact absurd hin hD
        · exact h2
      refine ⟨S ++ [x], ⟨fun s hs => ?_, ?_, fun z hz => ?_, fun z hz => ?_, h6⟩, by simp [hl], hxD, h4⟩
      · rcases List.mem_append.1 hs with hs | hs
        · exact h4 s (hi.sub s hs)
        · simp at hs; rw [hs]; exact hxD
      · rw [List.pairwise_append]
        refine ⟨hi.apart, by simp, fun a ha b hb hab => ?_⟩
        simp at hb; subst hb
        exact hD (hi.leads (hi.sub a ha) hab)
      · rcases h3 z hz with h | h
        · obtain ⟨s, hs, hl⟩ := hi.cover z h
          exact ⟨s, by simp [hs], hl⟩
        · exact ⟨x, by simp, h⟩
      · rcases h5 z hz with h | h
        · exact h
        · rw [h]; exact hin
    · rintro D' y f ⟨⟨k, rfl⟩, h2, h3, h4, h5, h6⟩ hy hn
      refine ⟨⟨k + 1, (itD_succ t k x).symm⟩, ?_, fun z hz => ?_, fun z hz => by simp [h4 z hz], fun z hz => ?_, fun z hz => ?_⟩
      · right
        rcases h2 with ⟨-, e⟩ | h2
        · rw [e]; simp
        · simp [h2]
      · rcases List.mem_append.1 hz with hz | hz
        · exact h3 z hz
        · simp at hz; right; exact ⟨k, hz.symm⟩
      · rcases List.mem_append.1 hz with hz | hz
        · left
          rcases h5 z hz with h | h
          · simp [h]
          · rw [h]; simp
        · simp at hz; subst hz
          right; rfl
      · rcases List.mem_append.1 hz with hz | hz
        · exact h6 z hz
        · simp at hz; rw [hz]; exact hy
theorem RInv.to {t : List (List Nat)} (h : RotN t) : ∀ (L : List Dart), (∀ x ∈ L, IsD t x) → ∀ (F : List (List Nat)) (S D : List Dart), RInv t S D → S.length = F.length →
    ∃ S', RInv t S' (L.foldl (fstep t) (F, D)).2 ∧ S'.length = (L.foldl (fstep t) (F, D)).1.length ∧ (∀ x ∈ L, x ∈ (L.foldl (fstep t) (F, D)).2) ∧ ∀ x ∈ D, x ∈ (L.foldl (fstep t) (F, D)).2
  | [], _, F, S, D, hi, hl => ⟨S, hi, hl, by simp, fun _ h => h⟩
  | x :: L, hL, F, S, D, hi, hl => by
    rw [List.foldl_cons]
    obtain ⟨S1, h1, h2, h3, h4⟩ := hi.step h hl (hL x (by simp))
    obtain ⟨S2, k1, k2, k3, k4⟩ := RInv.to h L (fun y hy => hL y (by simp [hy])) _ S1 _ h1 h2
    refine ⟨S2, k1, k2, fun y hy => ?_, fun y hy => k4 y (h4 y hy)⟩
    rcases List.mem_cons.1 hy with rfl | hy
    · exact k4 _ h3
    · exact k3 y hy
theorem faces_reps {t : List (List Nat)} (h : RotN t) : ∃ S, Reps t S ∧ S.length = (facesN t).length := by
  obtain ⟨S, h1, h2, h3, -⟩ := RInv.to h (dartsN t) (fun x hx => (mem_dartsN h).1 hx) [] [] [] ⟨by simp, by simp, by simp, by simp, by simp⟩ rfl
  exact ⟨S, ⟨fun s hs => h1.isD s (h1.sub s hs), h1.apart, fun y hy => h1.cover y (h3 y ((mem_dartsN h).2 hy))⟩, h2⟩
theorem faces_darts {t : List (List Nat)} (h : RotN t) : ((facesN t).map List.length).sum = (dartsN t).length := by
  have hL : ∀ x ∈ dartsN t, IsD t x := fun x hx => (mem_dartsN h).1 hx
  have hi := facesTo_inv h hL
  obtain ⟨S, h1, h2, h3, -⟩ := RInv.to h (dartsN t) hL [] [] [] ⟨by simp, by simp, by simp, by simp, by simp⟩ rfl
  have e : (facesTo t (dartsN t)).2.length = (dartsN t).length := by
    apply Nat.le_antisymm
    · exact nodup_lenA hi.nd (fun x hx => (mem_dartsN h).2 (hi.all x hx))
    · refine nodup_lenA ?_ (fun x hx => h3 x hx)
      unfold dartsN
      rw [List.Nodup, List.pairwise_flatMap]
      refine ⟨fun u _ => ?_, ?_⟩
      · rw [List.pairwise_map]
        refine List.Pairwise.imp ?_ ((List.pairwise_lt_range (n := t.length)).filter _)
        intro a b hab e
        simp at e; omega
      · refine List.Pairwise.imp ?_ (List.pairwise_lt_range (n := t.length))
        intro a b hab x hx y hy e
        obtain ⟨_, _, rfl⟩ := List.mem_map.1 hx
        obtain ⟨_, _, rfl⟩ := List.mem_map.1 hy
        simp at e; omega
  rw [← e]; exact hi.sum
/-- Where sides go to sides and faces to faces, there are no more of the first. -/
theorem reps_le {t t' : List (List Nat)} (h' : RotN t') {S S' : List Dart} (hS : Reps t S) (hS' : Reps t' S') (r : Dart → Dart) (hr : ∀ x, IsD t x → IsD t' (r x)) (hb : ∀ x y, IsD t x → IsD t y → Leads t' (r x) (r y) → Leads t x y) : S.length ≤ S'.length := by
  have key : ∀ x, ∃ y, IsD t x → y ∈ S' ∧ Leads t' y (r x) := fun x => by
    by_cases hx : IsD t x
    · obtain ⟨s, h1, h2⟩ := hS'.cover (r x) (hr x hx)
      exact ⟨s, fun _ => ⟨h1, h2⟩⟩
    · exact ⟨x, fun h => absurd h hx⟩
  obtain ⟨c, hc⟩ := Classical.axiomOfChoice key
  have hnd : (S.map c).Nodup := by
    rw [List.Nodup, List.pairwise_map]
    refine List.Pairwise.imp_of_mem ?_ hS.apart
    intro a b ha hb' hab e
    obtain ⟨h1, h2⟩ := hc a (hS.all a ha)
    obtain ⟨h3, h4⟩ := hc b (hS.all b hb')
    rw [← e] at h4
    exact hab (hb a b (hS.all a ha) (hS.all b hb') ((h2.symm h' (hS'.all _ h1)).trans h4))
  have := nodup_lenA hnd (E := S') (fun y hy => by obtain ⟨x, hx, rfl⟩ := List.mem_map.1 hy; exact (hc x (hS.all x hx)).1)
  simpa using this
/-! The mirror. -/
theorem next_rot1 {a : Nat} {l : List Nat} (hn : (a :: l).Nodup) {u : Nat} (hu : u ∈ a :: l) : nextIn (l ++ [a]) u = nextIn (a :: l) u := by
  have hn2 : (l ++ [a]).Nodup := by
    rw [List.nodup_append]
    obtain ⟨h1, h2⟩ := List.nodup_cons.1 hn
    exact ⟨h2, by simp, fun x hx y hy => by simp at hy; subst hy; exact fun e => h1 (e ▸ hx)⟩
  obtain ⟨i, hi, rfl⟩ := List.getElem_of_mem hu
  rw [nextIn_at hn hi, step_mod hi]
  cases i with
  | zero =>
    have e : (a :: l)[0] = (l ++ [a])[l.length]'(by simp) := by simp
    rw [e, nextIn_at hn2 (by simp), step_mod (by simp)]
    cases l with
    | nil => simp
    | cons b l => simp
  | succ i =>
    simp only [List.length_cons] at hi
    have hil : i < l.length := by omega
    have e : (a :: l)[i + 1] = (l ++ [a])[i]'(by simp; omega) := by simp [List.getElem_append_left hil]
    rw [e, nextIn_at hn2 (by simp; omega), step_mod (by simp; omega)]
    rw [if_neg (by simp; omega)]
    by_cases h : i + 1 = l.length
    · rw [if_pos (by simp; omega)]
      simp [h]
    · rw [if_neg (by simp; omega)]
      have : i + 1 < l.length := by omega
      simp [List.getElem?_append_left this]
theorem next_rot {l : List Nat} (hn : l.Nodup) {u : Nat} (hu : u ∈ l) : ∀ i, i ≤ l.length → nextIn (l.drop i ++ l.take i) u = nextIn l u
  | 0, _ => by simp
  | i + 1, hi => by
    have ih := next_rot hn hu i (by omega)
    rw [← ih]
    have e : l.drop i = l[i] :: l.drop (i + 1) := List.drop_eq_getElem_cons (by omega)
    have hp : (l.drop i ++ l.take i).Perm l := List.perm_append_comm.trans (by rw [List.take_append_drop])
    rw [e, List.cons_append]
    rw [List.take_succ_eq_append_getElem (by omega), ← List.append_assoc]
    refine next_rot1 ?_ ?_
    · rw [← List.cons_append, ← e]; exact hp.nodup_iff.2 hn
    · rw [← List.cons_append, ← e]; exact hp.mem_iff.2 hu
theorem next_rev {l : List Nat} (hn : l.Nodup) {u : Nat} (hu : u ∈ l) : nextIn l.reverse (nextIn l u) = u := by
  obtain ⟨i, hi, rfl⟩ := List.getElem_of_mem hu
  have hn2 : l.reverse.Nodup := (List.reverse_perm l).nodup_iff.2 hn
  have hp : 0 < l.length := by omega
  have hk : (i + 1) % l.length < l.length := Nat.mod_lt _ hp
  rw [nextIn_at hn hi]
  have e1 : l.getD ((i + 1) % l.length) 0 = l.reverse[l.length - 1 - (i + 1) % l.length]'(by simp; omega) := by
    rw [List.getElem_reverse]
    simp only [List.getD_eq_getElem?_getD, List.getElem?_eq_getElem hk, Option.getD_some]
    congr 1
    omega
  rw [e1, nextIn_at hn2 (by simp; omega), step_mod (by simp; omega)]
  rw [step_mod hi]
  by_cases h : i + 1 = l.length
  · rw [if_pos h, if_pos (by simp; omega)]
    have : 0 < l.reverse.length := by simpa using hp
    simp only [List.getD_eq_getElem?_getD, List.getElem?_eq_getElem this, Option.getD_some, List.getElem_reverse]
    congr 1
    omega
  · rw [if_neg h, if_neg (by simp; omega)]
    have : l.length - 1 - (i + 1) + 1 < l.reverse.length := by simp; omega
    simp only [List.getD_eq_getElem?_getD, List.getElem?_eq_getElem this, Option.getD_some, List.getElem_reverse]
    congr 1
    omega
def revD (x : Dart) : Dart := (x.2, x.1)
/-- Two systems that turn the other way round. -/
def Mir (t t' : List (List Nat)) : Prop := ∀ q p, p ∈ t.getD q [] → p ∈ t'.getD q [] ∧ nextIn (t'.getD q []) (nextIn (t.getD q []) p) = p
theorem mir_step {t t' : List (List Nat)} (h : RotN t) (hM : Mir t t') {x : Dart} (hx : IsD t x) : succD t' (revD (succD t x)) = revD x := by
  obtain ⟨p, q⟩ := x
  have := (hM q p (h.sym _ _ hx).2).2
  simp only [succD, revD, this]
theorem mir_leads {t t' : List (List Nat)} (h : RotN t) (hM : Mir t t') {x y : Dart} (hx : IsD t x) (hl : Leads t x y) : Leads t' (revD y) (revD x) := by
  obtain ⟨k, rfl⟩ := hl
  refine ⟨k, ?_⟩
  have : ∀ k x, IsD t x → itD t' k (revD (itD t k x)) = revD x := fun k => by
    induction k with
    | zero => intro x _; rfl
    | succ k ih =>
      intro x hx
      rw [itD_succ t', itD, ih _ (succ_isD h hx), mir_step h hM hx]
  exact this k x hx
theorem mir_isD {t t' : List (List Nat)} (h : RotN t) (hM : Mir t t') (x : Dart) (hx : IsD t x) : IsD t' (revD x) := (hM x.2 x.1 (h.sym _ _ hx).2).1
theorem mir_count {t t' : List (List Nat)} (h : RotN t) (h' : RotN t') (hM : Mir t t') (hM' : Mir t' t) : (facesN t).length = (facesN t').length := by
  obtain ⟨S, hS, e⟩ := faces_reps h
  obtain ⟨S', hS', e'⟩ := faces_reps h'
  rw [← e, ← e']
  apply Nat.le_antisymm
  · exact reps_le h' hS hS' revD (mir_isD h hM) (fun x y hx hy hl => mir_leads h' hM' (mir_isD h hM x hx) hl |> Leads.symm h (show IsD t (revD (revD y)) from hy))
  · exact reps_le h hS' hS revD (mir_isD h' hM') (fun x y hx hy hl => mir_leads h hM (mir_isD h' hM' x hx) hl |> Leads.symm h' (show IsD t' (revD (revD y)) from hy))
/-- The least one first. -/
def leastN (l : List Nat) : Nat := l.foldl min (l.headD 0)
def atN (l : List Nat) : Nat := l.idxOf (leastN l)
def rotL (l : List Nat) : List Nat := l.drop (atN l) ++ l.take (atN l)
theorem fold_min : ∀ (l : List Nat) (a : Nat), l.foldl min a ≤ a ∧ (∀ x ∈ l, l.foldl min a ≤ x) ∧ (l.foldl min a = a ∨ l.foldl min a ∈ l)
  | [], a => by simp
  | x :: l, a => by
    obtain ⟨h1, h2, h3⟩ := fold_min l (min a x)
    rw [List.foldl_cons]
    refine ⟨by omega, fun y hy => ?_, ?_⟩
    · rcases List.mem_cons.1 hy with rfl | hy
      · omega
      · exact h2 y hy
    · rcases h3 with h3 | h3
      · by_cases e : a ≤ x
        · left; rw [h3]; omega
        · right; rw [h3, show min a x = x by omega]; simp
      · right; simp [h3]
theorem least_mem {l : List Nat} (h : l ≠ []) : leastN l ∈ l := by
  cases l with
  | nil => exact absurd rfl h
  | cons a l =>
    unfold leastN
    rcases (fold_min (a :: l) a).2.2 with h | h
    · rw [List.headD_cons, h]; simp
    · exact h
theorem least_le {l : List Nat} {x : Nat} (h : x ∈ l) : leastN l ≤ x := (fold_min l _).2.1 x h
theorem least_eq {l : List Nat} {a : Nat} (h : a ∈ l) (h2 : ∀ x ∈ l, a ≤ x) : leastN l = a := Nat.le_antisymm (least_le h) (h2 _ (least_mem (List.ne_nil_of_mem h)))
theorem at_le (l : List Nat) : atN l ≤ l.length := List.idxOf_le_length
theorem rotL_perm (l : List Nat) : (rotL l).Perm l := List.perm_append_comm.trans (by rw [List.take_append_drop])
theorem rotL_mem {l : List Nat} {x : Nat} : x ∈ rotL l ↔ x ∈ l := (rotL_perm l).mem_iff
def mirN (t : List (List Nat)) : List (List Nat) := t.map fun l => rotL l.reverse
theorem mirN_len (t : List (List Nat)) : (mirN t).length = t.length := by simp [mirN]
theorem mirN_get (t : List (List Nat)) (u : Nat) : (mirN t).getD u [] = rotL (t.getD u []).reverse := by
  unfold mirN
  by_cases h : u < t.length
  · simp [h]
  · have : t.length ≤ u := by omega
    simp [this, rotL]
theorem mirN_mem {t : List (List Nat)} {u v : Nat} : v ∈ (mirN t).getD u [] ↔ v ∈ t.getD u [] := by rw [mirN_get, rotL_mem, List.mem_reverse]
theorem mirN_rot {t : List (List Nat)} (h : RotN t) : RotN (mirN t) :=
  ⟨by rw [mirN_len]; exact h.le, fun u => by rw [mirN_get]; exact (rotL_perm _).nodup_iff.2 ((List.reverse_perm _).nodup_iff.2 (h.nd u)), fun u v hv => by
    rw [mirN_mem] at hv ⊢; rw [mirN_len]; exact h.sym u v hv⟩
theorem mirN_mir {t : List (List Nat)} (h : RotN t) : Mir t (mirN t) := fun q p hp => ⟨mirN_mem.2 hp, by
  rw [mirN_get]
  have hr : nextIn (t.getD q []) p ∈ (t.getD q []).reverse := List.mem_reverse.2 (nextIn_mem hp)
  have := next_rot ((List.reverse_perm _).nodup_iff.2 (h.nd q)) hr _ (at_le _)
  rw [show rotL (t.getD q []).reverse = (t.getD q []).reverse.drop (atN (t.getD q []).reverse) ++ (t.getD q []).reverse.take (atN (t.getD q []).reverse) from rfl, this]
  exact next_rev (h.nd q) hp⟩
theorem mirN_mir2 {t : List (List Nat)} (h : RotN t) : Mir (mirN t) t := fun q p hp => ⟨mirN_mem.1 hp, by
  have hp' := mirN_mem.1 hp
  have hr : p ∈ (t.getD q []).reverse := List.mem_reverse.2 hp'
  rw [mirN_get]
  have := next_rot ((List.reverse_perm _).nodup_iff.2 (h.nd q)) hr _ (at_le _)
  rw [show rotL (t.getD q []).reverse = (t.getD q []).reverse.drop (atN (t.getD q []).reverse) ++ (t.getD q []).reverse.take (atN (t.getD q []).reverse) from rfl, this]
  have e := next_rev ((List.reverse_perm _).nodup_iff.2 (h.nd q)) hr
  rw [List.reverse_reverse] at e
  exact e⟩
theorem mirN_faces {t : List (List Nat)} (h : RotN t) : (facesN (mirN t)).length = (facesN t).length := (mir_count h (mirN_rot h) (mirN_mir h) (mirN_mir2 h)).symm
/-- A list that begins with its least one comes back. -/
theorem rotL_back {a : Nat} {l : List Nat} (hn : (a :: l).Nodup) (hm : ∀ x ∈ l, a ≤ x) (j : Nat) (hj : j ≤ (a :: l).length) : rotL ((a :: l).drop j ++ (a :: l).take j) = a :: l := by
  cases j with
  | zero =>
    have e1 : leastN (a :: l) = a := least_eq (by simp) (fun x hx => by rcases List.mem_cons.1 hx with rfl | hx; exact Nat.le_refl _; exact hm x hx)
    simp [rotL, atN, e1]
  | succ j =>
    obtain ⟨h1, h2⟩ := List.nodup_cons.1 hn
    simp only [List.drop_succ_cons, List.take_succ_cons]
    have e1 : leastN (l.drop j ++ a :: l.take j) = a := least_eq (by simp) (fun x hx => by
      rcases List.mem_append.1 hx with hx | hx
      · exact hm x (List.mem_of_mem_drop hx)
      · rcases List.mem_cons.1 hx with rfl | hx
        · exact Nat.le_refl _
        · exact hm x (List.mem_of_mem_take hx))
    have e2 : (l.drop j ++ a :: l.take j).idxOf a = (l.drop j).length := by
      rw [List.idxOf_append, if_neg (fun h => h1 (List.mem_of_mem_drop h))]
      simp
    unfold rotL atN
    rw [e1, e2]
    simp
theorem mir_back {a : Nat} {l : List Nat} (hn : (a :: l).Nodup) (hm : ∀ x ∈ l, a ≤ x) : rotL (rotL (a :: l).reverse).reverse = a :: l := by
  obtain ⟨i, hi, e⟩ : ∃ i, i ≤ (a :: l).length ∧ rotL (a :: l).reverse = (a :: l).reverse.drop i ++ (a :: l).reverse.take i := ⟨_, by have := at_le (a :: l).reverse; simpa using this, rfl⟩
  rw [e, List.reverse_append]
  have e2 : ((a :: l).reverse.take i).reverse = (a :: l).drop ((a :: l).length - i) := by rw [List.take_reverse]; simp
  have e3 : ((a :: l).reverse.drop i).reverse = (a :: l).take ((a :: l).length - i) := by rw [List.drop_reverse]; simp
  rw [e2, e3]
  exact rotL_back hn hm _ (by omega)
/-- Sides have one number where they lie in one face. -/
structure NumOk (t : List (List Nat)) (N : Nat) (D : List Dart) (nf : Dart → Nat) : Prop where
  isD : ∀ x ∈ D, IsD t x
  lt : ∀ x ∈ D, nf x < N
  closed : ∀ x ∈ D, succD t x ∈ D
  same : ∀ x ∈ D, ∀ y ∈ D, (nf x = nf y ↔ Leads t x y)
/-- On the way along a face. -/
structure NumP (t : List (List Nat)) (N : Nat) (D : List Dart) (nf : Dart → Nat) (x0 : Dart) (D' : List Dart) (y : Dart) (nf' : Dart → Nat) : Prop where
  old : ∀ z ∈ D, nf' z = nf z
  sub : ∀ z ∈ D, z ∈ D'
  new : ∀ z ∈ D', z ∈ D ∨ Leads t x0 z ∧ nf' z = N
  cur : Leads t x0 y
  next : ∀ z ∈ D', succD t z ∈ D' ∨ succD t z = y
  first : (D' = D ∧ y = x0) ∨ x0 ∈ D'
def updN (nf : Dart → Nat) (y : Dart) (N : Nat) : Dart → Nat := fun z => if z = y then N else nf z
def itF {α : Type} (f : α → α) : Nat → α → α
  | 0, x => x
  | k + 1, x => itF f k (f x)
theorem itF_succ {α : Type} (f : α → α) : ∀ (k : Nat) (x : α), itF f (k + 1) x = f (itF f k x)
  | 0, _ => rfl
  | k + 1, x => by rw [itF, itF_succ f k]; rfl
theorem itF_add {α : Type} (f : α → α) : ∀ (k m : Nat) (x : α), itF f (k + m) x = itF f m (itF f k x)
  | k, 0, x => rfl
  | k, m + 1, x => by rw [← Nat.add_assoc, itF_succ, itF_add f k m, itF_succ]
structure PermF {α : Type} (D : List α) (f : α → α) : Prop where
  maps : ∀ x, x ∈ D → f x ∈ D
  inj : ∀ x y, x ∈ D → y ∈ D → f x = f y → x = y
theorem itF_in {α : Type} {D : List α} {f : α → α} (h : PermF D f) {x : α} (hx : x ∈ D) : ∀ k, itF f k x ∈ D
  | 0 => hx
  | k + 1 => by rw [itF_succ]; exact h.maps _ (itF_in h hx k)
theorem itF_inj {α : Type} {D : List α} {f : α → α} (h : PermF D f) : ∀ (k : Nat) {x y : α}, x ∈ D → y ∈ D → itF f k x = itF f k y → x = y
  | 0, _, _, _, _, e => e
  | k + 1, _, _, hx, hy, e => h.inj _ _ hx hy (itF_inj h k (h.maps _ hx) (h.maps _ hy) e)
theorem itF_period {α : Type} {D : List α} {f : α → α} (h : PermF D f) {x : α} (hx : x ∈ D) : ∃ p, 0 < p ∧ itF f p x = x := by
  classical
  apply Classical.byContradiction
  intro hno
  have hnd : ((List.range (D.length + 1)).map fun i => itF f i x).Nodup := by
    rw [List.Nodup, List.pairwise_map]
    refine List.Pairwise.imp_of_mem ?_ List.pairwise_lt_range
    intro i j _ _ hij e
    obtain ⟨d, rfl⟩ : ∃ d, j = i + d := ⟨j - i, by omega⟩
    rw [Nat.add_comm, itF_add] at e
    exact hno ⟨d, by omega, (itF_inj h i hx (itF_in h hx d) e).symm⟩
  have := nodup_lenA hnd (E := D) (fun y hy => by obtain ⟨i, -, rfl⟩ := List.mem_map.1 hy; exact itF_in h hx i)
  simp at this
  omega
def LeadF {α : Type} (f : α → α) (x y : α) : Prop := ∃ k, itF f k x = y
theorem LeadF.refl {α : Type} (f : α → α) (x : α) : LeadF f x x := ⟨0, rfl⟩
theorem LeadF.step {α : Type} (f : α → α) (x : α) : LeadF f x (f x) := ⟨1, rfl⟩
theorem LeadF.trans {α : Type} {f : α → α} {x y z : α} (h : LeadF f x y) (k : LeadF f y z) : LeadF f x z := by
  obtain ⟨i, rfl⟩ := h; obtain ⟨j, rfl⟩ := k
  exact ⟨i + j, itF_add f i j x⟩
theorem LeadF.isIn {α : Type} {D : List α} {f : α → α} (h : PermF D f) {x y : α} (hx : x ∈ D) (hl : LeadF f x y) : y ∈ D := by
  obtain ⟨k, rfl⟩ := hl; exact itF_in h hx k
theorem itF_mul {α : Type} {f : α → α} {p : Nat} {x : α} (h : itF f p x = x) : ∀ k, itF f (k * p) x = x
  | 0 => by rw [Nat.zero_mul]; rfl
  | k + 1 => by rw [Nat.succ_mul, itF_add, itF_mul h k, h]
theorem LeadF.symm {α : Type} {D : List α} {f : α → α} (h : PermF D f) {x y : α} (hx : x ∈ D) (hl : LeadF f x y) : LeadF f y x := by
  obtain ⟨k, rfl⟩ := hl
  obtain ⟨p, hp, e⟩ := itF_period h hx
  have h1 : k ≤ k * p := Nat.le_mul_of_pos_right k hp
  refine ⟨k * p - k, ?_⟩
  rw [← itF_add, Nat.add_sub_cancel' h1]
  exact itF_mul e k
/-- Closed sets hold what is led to. -/
theorem LeadF.closed {α : Type} {f : α → α} {C : α → Prop} (hC : ∀ x, C x → C (f x)) {x y : α} (hx : C x) (hl : LeadF f x y) : C y := by
  obtain ⟨k, rfl⟩ := hl
  have : ∀ k, C (itF f k x) := fun k => by
    induction k with
    | zero => exact hx
    | succ k ih => rw [itF_succ]; exact hC _ ih
  exact this k
/-- One of each cycle. -/
structure RepF {α : Type} (D : List α) (f : α → α) (S : List α) : Prop where
  all : ∀ s, s ∈ S → s ∈ D
  apart : S.Pairwise fun a b => ¬ LeadF f a b
  cover : ∀ y, y ∈ D → ∃ s, s ∈ S ∧ LeadF f s y
theorem rep_ex {α : Type} {D : List α} {f : α → α} (h : PermF D f) : ∃ S, RepF D f S := by
  have key : ∀ L : List α, (∀ x, x ∈ L → x ∈ D) → ∃ S : List α, (∀ s, s ∈ S → s ∈ D) ∧ (S.Pairwise fun a b => ¬ LeadF f a b) ∧ ∀ y, y ∈ L → ∃ s, s ∈ S ∧ LeadF f s y := fun L => by
    induction L with
    | nil => intro _; exact ⟨[], by simp, by simp, by simp⟩
    | cons x L ih =>
      intro hL
      obtain ⟨S, h1, h2, h3⟩ := ih (fun y hy => hL y (by simp [hy]))
      by_cases hc : ∃ s, s ∈ S ∧ LeadF f s x
      · refine ⟨S, h1, h2, fun y hy => ?_⟩
        rcases List.mem_cons.1 hy with rfl | hy
        · exact hc
        · exact h3 y hy
      · have hx := hL x (by simp)
        refine ⟨x :: S, fun s hs => ?_, ?_, fun y hy => ?_⟩
        · rcases List.mem_cons.1 hs with rfl | hs
          · exact hx
          · exact h1 s hs
        · rw [List.pairwise_cons]
          exact ⟨fun s hs hl => hc ⟨s, hs, hl.symm h hx⟩, h2⟩
        · rcases List.mem_cons.1 hy with rfl | hy
          · exact ⟨y, by simp, LeadF.refl f y⟩
          · obtain ⟨s, hs, hl⟩ := h3 y hy
            exact ⟨s, by simp [hs], hl⟩
  obtain ⟨S, h1, h2, h3⟩ := key D (fun _ h => h)
  exact ⟨S, h1, h2, h3⟩
/-- Where elements go to elements and cycles to cycles, there are no more of the first. -/
theorem rep_le {α β : Type} [DecidableEq β] {D : List α} {f : α → α} {S : List α} {D' : List β} {f' : β → β} {S' : List β} (h' : PermF D' f') (hS : RepF D f S) (hS' : RepF D' f' S') (r : α → β) (hr : ∀ x, x ∈ D → r x ∈ D')
    (hb : ∀ x y, x ∈ D → y ∈ D → LeadF f' (r x) (r y) → LeadF f x y) : S.length ≤ S'.length := by
  by_cases hne : ∃ b : β, b ∈ S'
  case neg =>
    have : S = [] := by
      apply List.eq_nil_iff_forall_not_mem.2
      intro x hx
      obtain ⟨s, hs, -⟩ := hS'.cover _ (hr x (hS.all x hx))
      exact hne ⟨s, hs⟩
    simp [this]
  obtain ⟨b0, -⟩ := hne
  have key : ∀ x, ∃ y, x ∈ D → y ∈ S' ∧ LeadF f' y (r x) := fun x => by
    by_cases hx : x ∈ D
    · obtain ⟨s, h1, h2⟩ := hS'.cover (r x) (hr x hx)
      exact ⟨s, fun _ => ⟨h1, h2⟩⟩
    · exact ⟨b0, fun h => absurd h hx⟩
  obtain ⟨c, hc⟩ := Classical.axiomOfChoice key
  have hnd : (S.map c).Nodup := by
    rw [List.Nodup, List.pairwise_map]
    refine List.Pairwise.imp_of_mem ?_ hS.apart
    intro a b ha hb' hab e
    obtain ⟨h1, h2⟩ := hc a (hS.all a ha)
    obtain ⟨h3, h4⟩ := hc b (hS.all b hb')
    rw [← e] at h4
    exact hab (hb a b (hS.all a ha) (hS.all b hb') ((h2.symm h' (hS'.all _ h1)).trans h4))
  have := nodup_lenA hnd (E := S') (fun y hy => by obtain ⟨x, hx, rfl⟩ := List.mem_map.1 hy; exact (hc x (hS.all x hx)).1)
  simpa using this
theorem rep_len {α : Type} [DecidableEq α] {D : List α} {f : α → α} {S S' : List α} (h : PermF D f) (hS : RepF D f S) (hS' : RepF D f S') : S.length = S'.length :=
  Nat.le_antisymm (rep_le h hS hS' id (fun _ h => h) (fun _ _ _ _ h => h)) (rep_le h hS' hS id (fun _ h => h) (fun _ _ _ _ h => h))
open Classical in
/-- How many cycles. -/
noncomputable def cycF {α : Type} (D : List α) (f : α → α) : Nat := if h : ∃ S, RepF D f S then (Classical.choose h).length else 0
theorem cyc_eq {α : Type} [DecidableEq α] {D : List α} {f : α → α} {S : List α} (h : PermF D f) (hS : RepF D f S) : cycF D f = S.length := by
  have he : ∃ S, RepF D f S := ⟨S, hS⟩
  unfold cycF
  rw [dif_pos he]
  exact rep_len h (Classical.choose_spec he) hS
/-- Two elements exchanged ahead of it. -/
def swapF {α : Type} [DecidableEq α] (a b : α) (f : α → α) (x : α) : α := if x = a then f b else if x = b then f a else f x
theorem swap_a {α : Type} [DecidableEq α] (a b : α) (f : α → α) : swapF a b f a = f b := by rw [swapF, if_pos rfl]
theorem swap_b {α : Type} [DecidableEq α] {a b : α} (f : α → α) : swapF a b f b = f a := by
  unfold swapF
  by_cases h : b = a
  · rw [if_pos h, h]
  · rw [if_neg h, if_pos rfl]
theorem swap_o {α : Type} [DecidableEq α] {a b x : α} (f : α → α) (h1 : x ≠ a) (h2 : x ≠ b) : swapF a b f x = f x := by rw [swapF, if_neg h1, if_neg h2]
theorem swap_swap {α : Type} [DecidableEq α] (a b : α) (f : α → α) : swapF a b (swapF a b f) = f := by
  funext x
  by_cases h1 : x = a
  · subst h1; rw [swap_a, swap_b]
  · by_cases h2 : x = b
    · subst h2; rw [swap_b, swap_a]
    · rw [swap_o _ h1 h2, swap_o _ h1 h2]
theorem swap_perm {α : Type} [DecidableEq α] {D : List α} {f : α → α} (h : PermF D f) {a b : α} (ha : a ∈ D) (hb : b ∈ D) : PermF D (swapF a b f) := by
  refine ⟨fun x hx => ?_, fun x y hx hy e => ?_⟩
  · unfold swapF
    split
    · exact h.maps _ hb
    · split
      · exact h.maps _ ha
      · exact h.maps _ hx
  · have hs : ∀ z, z ∈ D → ∃ z', z' ∈ D ∧ swapF a b f z = f z' ∧ ((z = a ∧ z' = b) ∨ (z = b ∧ z' = a) ∨ (z ≠ a ∧ z ≠ b ∧ z' = z)) := fun z hz => by
      by_cases h1 : z = a
      · exact ⟨b, hb, by rw [h1, swap_a], .inl ⟨h1, rfl⟩⟩
      · by_cases h2 : z = b
        · exact ⟨a, ha, by rw [h2, swap_b], .inr (.inl ⟨h2, rfl⟩)⟩
        · exact ⟨z, hz, swap_o _ h1 h2, .inr (.inr ⟨h1, h2, rfl⟩)⟩
    obtain ⟨x', hx', e1, hcx⟩ := hs x hx
    obtain ⟨y', hy', e2, hcy⟩ := hs y hy
    rw [e1, e2] at e
    have := h.inj _ _ hx' hy' e
    subst this
    rcases hcx with ⟨h1, h2⟩ | ⟨h1, h2⟩ | ⟨h1, h2, h3⟩ <;> rcases hcy with ⟨k1, k2⟩ | ⟨k1, k2⟩ | ⟨k1, k2, k3⟩ <;> simp_all
theorem least_ex {p : Nat → Prop} (h : ∃ k, p k) : ∃ k, p k ∧ ∀ j, j < k → ¬ p j := by
  obtain ⟨k, hk⟩ := h
  induction k using Nat.strongRecOn with
  | _ k ih =>
    by_cases hc : ∃ j, j < k ∧ p j
    · obtain ⟨j, hj, hp⟩ := hc
      exact ih j hj hp
    · exact ⟨k, hk, fun j hj hp => hc ⟨j, hj, hp⟩⟩
/-- A cycle falls apart. -/
theorem cyc_split {α : Type} [DecidableEq α] {D : List α} {f : α → α} (h : PermF D f) {a b : α} (ha : a ∈ D) (hb : b ∈ D) (hab : a ≠ b) (hl : LeadF f a b) :
    cycF D (swapF a b f) = cycF D f + 1 ∧ ¬ LeadF (swapF a b f) a b := by
  have hp := swap_perm h ha hb
  have hback := hl.symm h ha
  -- the way from b to a
  have hleast : ∃ k, 0 < k ∧ itF f k b = a ∧ ∀ j, 0 < j → j < k → itF f j b ≠ a := by
    obtain ⟨k, hk, hm⟩ := least_ex hback
    refine ⟨k, ?_, hk, fun j _ hj => hm j hj⟩
    apply Nat.pos_of_ne_zero
    intro h0
    subst h0
    exact hab hk.symm
  obtain ⟨k, hk, hka, hmin⟩ := hleast
  have hnb : ∀ i, 0 < i → i ≤ k → itF f i b ≠ b := fun i h1 h2 e => by
    by_cases hik : i = k
    · subst hik; exact hab (hka.symm.trans e)
    · have h3 : itF f (k - i) b = a := by
        have := itF_add f i (k - i) b
        rw [e, Nat.add_sub_cancel' h2, hka] at this
        exact this.symm
      exact hmin (k - i) (by omega) (by omega) h3
  have hno : ¬ LeadF (swapF a b f) a b := fun hc => by
    have := LeadF.closed (C := fun x => ∃ i, 0 < i ∧ i ≤ k ∧ itF f i b = x) (fun x hx => by
      obtain ⟨i, h1, h2, rfl⟩ := hx
      by_cases hik : i = k
      · subst hik
        rw [hka, swap_a]
        exact ⟨1, by omega, hk, rfl⟩
      · rw [swap_o _ (hmin i h1 (by omega)) (hnb i h1 h2)]
        exact ⟨i + 1, by omega, by omega, itF_succ f i b⟩) ⟨k, hk, Nat.le_refl _, hka⟩ hc
    obtain ⟨i, h1, h2, e⟩ := this
    exact hnb i h1 h2 e
  refine ⟨?_, hno⟩
  obtain ⟨S, hS⟩ := rep_ex h
  obtain ⟨s0, hs0, hl0⟩ := hS.cover a ha
  -- without the representative of a
  obtain ⟨T, hT1, hT2, hT3⟩ : ∃ T : List α, (∀ t, t ∈ T → t ∈ D ∧ ¬ LeadF f t a) ∧ (T.Pairwise fun a b => ¬ LeadF f a b) ∧ ∀ y, y ∈ D → ¬ LeadF f y a → ∃ t, t ∈ T ∧ LeadF f t y := by
    classical
    refine ⟨S.filter fun s => decide (¬ LeadF f s a), fun t ht => ?_, hS.apart.filter _, fun y hy hn => ?_⟩
    · obtain ⟨h1, h2⟩ := List.mem_filter.1 ht
      exact ⟨hS.all t h1, of_decide_eq_true h2⟩
    · obtain ⟨s, hs, hl2⟩ := hS.cover y hy
      exact ⟨s, List.mem_filter.2 ⟨hs, decide_eq_true (fun hc => hn ((hl2.symm h (hS.all s hs)).trans hc))⟩, hl2⟩
  have hR1 : RepF D f (a :: T) := by
    refine ⟨fun s hs => ?_, ?_, fun y hy => ?_⟩
    · rcases List.mem_cons.1 hs with rfl | hs
      · exact ha
      · exact (hT1 s hs).1
    · rw [List.pairwise_cons]
      exact ⟨fun t ht hc => (hT1 t ht).2 (hc.symm h ha), hT2⟩
    · by_cases hc : LeadF f y a
      · exact ⟨a, by simp, hc.symm h hy⟩
      · obtain ⟨t, ht, h2⟩ := hT3 y hy hc
        exact ⟨t, by simp [ht], h2⟩
  have hoff : ∀ x, x ∈ D → ¬ LeadF f x a → ∀ k, itF (swapF a b f) k x = itF f k x := fun x hx hn k => by
    induction k with
    | zero => rfl
    | succ k ih =>
      rw [itF_succ, itF_succ, ih]
      exact swap_o _ (fun e => hn ⟨k, e⟩) (fun e => hn (LeadF.trans ⟨k, e⟩ hback))
  have hoffL : ∀ x y, x ∈ D → ¬ LeadF f x a → (LeadF (swapF a b f) x y ↔ LeadF f x y) := fun x y hx hn => by
    constructor
    · rintro ⟨k, e⟩; exact ⟨k, by rw [← hoff x hx hn k]; exact e⟩
    · rintro ⟨k, e⟩; exact ⟨k, by rw [hoff x hx hn k]; exact e⟩
  have hcov : ∀ i, LeadF (swapF a b f) a (itF f i a) ∨ LeadF (swapF a b f) b (itF f i a) := fun i => by
    induction i with
    | zero => exact .inl (LeadF.refl _ _)
    | succ i ih =>
      rw [itF_succ]
      by_cases h1 : itF f i a = a
      · rw [h1]; right; exact ⟨1, swap_b f⟩
      · by_cases h2 : itF f i a = b
        · rw [h2]; left; exact ⟨1, swap_a a b f⟩
        · have e : f (itF f i a) = swapF a b f (itF f i a) := (swap_o f h1 h2).symm
          rw [e]
          rcases ih with ih | ih
          · exact .inl (ih.trans (LeadF.step _ _))
          · exact .inr (ih.trans (LeadF.step _ _))
  have hR2 : RepF D (swapF a b f) (a :: b :: T) := by
    refine ⟨fun s hs => ?_, ?_, fun y hy => ?_⟩
    · rcases List.mem_cons.1 hs with rfl | hs
      · exact ha
      · rcases List.mem_cons.1 hs with rfl | hs
        · exact hb
        · exact (hT1 s hs).1
    · rw [List.pairwise_cons, List.pairwise_cons]
      refine ⟨fun t ht => ?_, fun t ht => ?_, ?_⟩
      · rcases List.mem_cons.1 ht with rfl | ht
        · exact hno
        · intro hc
          have := (hoffL t a (hT1 t ht).1 (hT1 t ht).2).1 (hc.symm hp ha)
          exact (hT1 t ht).2 this
      · intro hc
        have := (hoffL t b (hT1 t ht).1 (hT1 t ht).2).1 (hc.symm hp hb)
        exact (hT1 t ht).2 (this.trans hback)
      · refine List.Pairwise.imp_of_mem ?_ hT2
        intro x y hx hy hn hc
        exact hn ((hoffL x y (hT1 x hx).1 (hT1 x hx).2).1 hc)
    · by_cases hc : LeadF f y a
      · obtain ⟨i, rfl⟩ := hc.symm h hy
        rcases hcov i with h1 | h1
        · exact ⟨a, by simp, h1⟩
        · exact ⟨b, by simp, h1⟩
      · obtain ⟨t, ht, h2⟩ := hT3 y hy hc
        exact ⟨t, by simp [ht], (hoffL t y (hT1 t ht).1 (hT1 t ht).2).2 h2⟩
  rw [cyc_eq hp hR2, cyc_eq h hR1]
  simp
/-- Two cycles become one. -/
theorem cyc_join {α : Type} [DecidableEq α] {D : List α} {f : α → α} (h : PermF D f) {a b : α} (ha : a ∈ D) (hb : b ∈ D) (hl : ¬ LeadF f a b) :
    cycF D f = cycF D (swapF a b f) + 1 ∧ LeadF (swapF a b f) a b := by
  have hp := swap_perm h ha hb
  have hab : a ≠ b := fun e => hl (by rw [e]; exact LeadF.refl f b)
  have hlead : LeadF (swapF a b f) a b := by
    obtain ⟨p, hp0, e⟩ := itF_period h hb
    have key : ∀ i, i < p → ∃ j, itF (swapF a b f) j a = itF f (i + 1) b := fun i hi => by
      induction i with
      | zero => exact ⟨1, swap_a a b f⟩
      | succ i ih =>
        obtain ⟨j, hj⟩ := ih (by omega)
        by_cases h2 : itF f (i + 1) b = b
        · exact ⟨1, by rw [itF_succ f (i + 1) b, h2]; exact swap_a a b f⟩
        · refine ⟨j + 1, ?_⟩
          rw [itF_succ, hj, itF_succ f (i + 1)]
          exact swap_o _ (fun e2 => hl (LeadF.symm h hb ⟨i + 1, e2⟩)) h2
    obtain ⟨j, hj⟩ := key (p - 1) (by omega)
    exact ⟨j, by rw [hj, Nat.sub_add_cancel hp0]; exact e⟩
  have := (cyc_split hp ha hb hab hlead).1
  rw [swap_swap] at this
  exact ⟨this, hlead⟩
/-- Lists compared by their first unlike numbers. -/
def cmpL : List Int → List Int → Int
  | [], [] => 0
  | [], _ :: _ => -1
  | _ :: _, [] => 1
  | a :: l, b :: m => if a < b then -1 else if b < a then 1 else cmpL l m
def cmp1 (x y : Int) : Int := if x < y then -1 else if y < x then 1 else 0
/-- Sets by size, then as lists. -/
def sizeC (m k : Nat) : Int := if (bitsI m).length = (bitsI k).length then cmpL (bitsI m) (bitsI k) else ((bitsI m).length : Int) - ((bitsI k).length : Int)
/-- Lists by length, then by their first unlike numbers. -/
def lenC (a b : List Int) : Int := if a.length = b.length then cmpL a b else (a.length : Int) - (b.length : Int)
abbrev Sub16 := {m : Nat // m < 65536}
def subC (x y : Sub16) : Int := sizeC x.1 y.1
/-- The same cyclic order. -/
def RotE {α : Type} (l m : List α) : Prop := ∃ a b, l = a ++ b ∧ m = b ++ a
theorem RotE.refl {α : Type} (l : List α) : RotE l l := ⟨[], l, by simp, by simp⟩
theorem RotE.symm {α : Type} {l m : List α} (h : RotE l m) : RotE m l := by
  obtain ⟨a, b, rfl, rfl⟩ := h; exact ⟨b, a, rfl, rfl⟩
theorem RotE.trans {α : Type} {l m n : List α} (h : RotE l m) (k : RotE m n) : RotE l n := by
  obtain ⟨a, b, rfl, rfl⟩ := h
  obtain ⟨c, d, e, rfl⟩ := k
  rcases List.append_eq_append_iff.1 e with ⟨x, rfl, rfl⟩ | ⟨x, rfl, rfl⟩
  · exact ⟨x, d ++ b, by simp, by simp⟩
  · exact ⟨a ++ c, x, by simp, by simp⟩
theorem RotE.perm {α : Type} {l m : List α} (h : RotE l m) : m.Perm l := by
  obtain ⟨a, b, rfl, rfl⟩ := h; exact List.perm_append_comm
theorem RotE.len {α : Type} {l m : List α} (h : RotE l m) : m.length = l.length := h.perm.length_eq
theorem RotE.mem {α : Type} {l m : List α} (h : RotE l m) {x : α} : x ∈ m ↔ x ∈ l := h.perm.mem_iff
theorem RotE.nodup {α : Type} {l m : List α} (h : RotE l m) (hn : l.Nodup) : m.Nodup := h.perm.nodup_iff.2 hn
theorem RotE.filter {α : Type} {l m : List α} (h : RotE l m) (p : α → Bool) : RotE (l.filter p) (m.filter p) := by
  obtain ⟨a, b, rfl, rfl⟩ := h
  exact ⟨a.filter p, b.filter p, by simp, by simp⟩
theorem RotE.nil {α : Type} {m : List α} (h : RotE [] m) : m = [] := by
  have := h.len; exact List.eq_nil_of_length_eq_zero this
theorem RotE.next {l m : List Nat} (h : RotE l m) (hn : l.Nodup) {u : Nat} (hu : u ∈ l) : nextIn m u = nextIn l u := by
  obtain ⟨a, b, rfl, rfl⟩ := h
  have := next_rot hn hu a.length (by simp)
  simpa using this
theorem rotL_rotE (l : List Nat) : RotE l (rotL l) := ⟨l.take (atN l), l.drop (atN l), by simp, rfl⟩
theorem rotL_head {l : List Nat} (h : l ≠ []) : ∃ c, rotL l = leastN l :: c ∧ ∀ x ∈ c, leastN l ≤ x := by
  have hm := least_mem h
  have hlt : atN l < l.length := List.idxOf_lt_length_iff.2 hm
  have e : l.drop (atN l) = l[atN l] :: l.drop (atN l + 1) := List.drop_eq_getElem_cons hlt
  have e2 : l[atN l] = leastN l := List.getElem_idxOf hlt
  refine ⟨l.drop (atN l + 1) ++ l.take (atN l), by unfold rotL; rw [e, e2]; rfl, fun x hx => least_le ?_⟩
  rcases List.mem_append.1 hx with hx | hx
  · exact List.mem_of_mem_drop hx
  · exact List.mem_of_mem_take hx
/-- The least one first: one list for each cyclic order. -/
theorem RotE.rotL {l m : List Nat} (h : RotE l m) (hn : l.Nodup) : rotL m = rotL l := by
  by_cases h0 : l = []
  · subst h0; rw [h.nil]
  obtain ⟨c, e, hc⟩ := rotL_head h0
  have hn2 := (rotL_rotE l).nodup hn
  obtain ⟨a, b, e1, e2⟩ := (rotL_rotE l).symm.trans h
  rw [e] at e1 hn2 ⊢
  have h3 := rotL_back hn2 hc a.length (by rw [e1]; simp)
  rw [e1] at h3
  simpa [← e2, e1] using h3
theorem rotL_eq {l m : List Nat} (h : Go.Proofs.YtdbanndcdbikmaaGreatDoor.rotL l = Go.Proofs.YtdbanndcdbikmaaGreatDoor.rotL m) : RotE l m := (rotL_rotE l).trans (by rw [h]; exact (rotL_rotE m).symm)
/-- One more, behind a place. -/
def insN (l : List Nat) (i u : Nat) : List Nat := l.take (i + 1) ++ u :: l.drop (i + 1)
theorem insN_mem {l : List Nat} {i u x : Nat} : x ∈ insN l i u ↔ x = u ∨ x ∈ l := by
  unfold insN
  rw [List.mem_append, List.mem_cons]
  constructor
  · rintro (h | h | h)
    · exact .inr (List.mem_of_mem_take h)
    · exact .inl h
    · exact .inr (List.mem_of_mem_drop h)
  · rintro (h | h)
    · exact .inr (.inl h)
    · rw [← List.take_append_drop (i + 1) l, List.mem_append] at h
      rcases h with h | h
      · exact .inl h
      · exact .inr (.inr h)
theorem insN_perm (l : List Nat) (i u : Nat) : (insN l i u).Perm (u :: l) := by
  unfold insN
  exact List.perm_middle.trans (by rw [List.take_append_drop])
theorem insN_len (l : List Nat) (i u : Nat) : (insN l i u).length = l.length + 1 := by rw [(insN_perm l i u).length_eq]; simp
theorem insN_nodup {l : List Nat} {i u : Nat} (hn : l.Nodup) (hu : u ∉ l) : (insN l i u).Nodup := (insN_perm l i u).nodup_iff.2 (List.nodup_cons.2 ⟨hu, hn⟩)
theorem insN_filter {l : List Nat} {i u : Nat} {p : Nat → Bool} (hp : p u = false) (hl : ∀ x ∈ l, p x = true) : (insN l i u).filter p = l := by
  unfold insN
  rw [List.filter_append, List.filter_cons_of_neg (by simp [hp]), ← List.filter_append, List.take_append_drop, List.filter_eq_self]
  exact hl
theorem insN_next {l : List Nat} {i u : Nat} (hn : l.Nodup) (hu : u ∉ l) (hi : i < l.length) : nextIn (insN l i u) l[i] = u := by
  have hn2 := insN_nodup (i := i) hn hu
  have hl : (l.take (i + 1)).length = i + 1 := by simp; omega
  have e : l[i] = (insN l i u)[i]'(by rw [insN_len]; omega) := by
    unfold insN
    rw [List.getElem_append_left (by omega), List.getElem_take]
  rw [e, nextIn_at hn2 (by rw [insN_len]; omega), Nat.mod_eq_of_lt (by rw [insN_len]; omega), List.getD_eq_getElem?_getD]
  unfold insN
  rw [List.getElem?_append_right (by omega), hl]
  simp
theorem insN_next2 {l : List Nat} {i u : Nat} (hn : l.Nodup) (hu : u ∉ l) (hi : i < l.length) : nextIn (insN l i u) u = nextIn l l[i] := by
  have hn2 := insN_nodup (i := i) hn hu
  have hl : (l.take (i + 1)).length = i + 1 := by simp; omega
  have e : u = (insN l i u)[i + 1]'(by rw [insN_len]; omega) := by
    unfold insN
    rw [List.getElem_append_right (by omega)]; simp [hl]
  have e3 : nextIn (insN l i u) u = (insN l i u).getD ((i + 1 + 1) % (insN l i u).length) 0 := by
    have := nextIn_at hn2 (i := i + 1) (by rw [insN_len]; omega)
    rw [← e] at this; exact this
  rw [e3, nextIn_at hn hi, insN_len, step_mod (show i + 1 < l.length + 1 by omega), step_mod hi]
  by_cases h : i + 1 = l.length
  · rw [if_pos (by omega), if_pos h]
    unfold insN
    simp only [List.getD_eq_getElem?_getD]
    rw [List.getElem?_append_left (by omega), List.getElem?_take_of_lt (by omega)]
  · rw [if_neg (by omega), if_neg h]
    unfold insN
    simp only [List.getD_eq_getElem?_getD]
    rw [List.getElem?_append_right (by omega), hl, show i + 1 + 1 - (i + 1) = 1 by omega]
    simp
/-- The others keep what stands behind them. -/
theorem insN_next3 {l : List Nat} {i u x : Nat} (hn : l.Nodup) (hu : u ∉ l) (hi : i < l.length) (hx : x ∈ l) (hne : x ≠ l[i]) : nextIn (insN l i u) x = nextIn l x := by
  have hn2 := insN_nodup (i := i) hn hu
  have hl : (l.take (i + 1)).length = i + 1 := by simp; omega
  obtain ⟨j, hj, rfl⟩ := List.getElem_of_mem hx
  have hji : j ≠ i := fun e => by subst e; exact hne rfl
  rw [nextIn_at hn hj]
  by_cases hlt : j < i
  · have e : l[j] = (insN l i u)[j]'(by rw [insN_len]; omega) := by
      unfold insN
      rw [List.getElem_append_left (by omega), List.getElem_take]
    rw [e, nextIn_at hn2 (by rw [insN_len]; omega), insN_len, Nat.mod_eq_of_lt (by omega), Nat.mod_eq_of_lt (by omega)]
    unfold insN
    simp only [List.getD_eq_getElem?_getD]
    rw [List.getElem?_append_left (by omega), List.getElem?_take_of_lt (by omega)]
  · have e : l[j] = (insN l i u)[j + 1]'(by rw [insN_len]; omega) := by
      unfold insN
      rw [List.getElem_append_right (by omega)]
      simp only [hl, show j + 1 - (i + 1) = (j - i - 1) + 1 by omega, List.getElem_cons_succ, List.getElem_drop]
      congr 1; omega
    have e3 : nextIn (insN l i u) l[j] = (insN l i u).getD ((j + 1 + 1) % (insN l i u).length) 0 := by
      have := nextIn_at hn2 (i := j + 1) (by rw [insN_len]; omega)
      rw [← e] at this; exact this
    rw [e3, insN_len, step_mod (show j + 1 < l.length + 1 by omega), step_mod hj]
    by_cases h : j + 1 = l.length
    · rw [if_pos (by omega), if_pos h]
      unfold insN
      simp only [List.getD_eq_getElem?_getD]
      rw [List.getElem?_append_left (by omega), List.getElem?_take_of_lt (by omega)]
    · rw [if_neg (by omega), if_neg h]
      unfold insN
      simp only [List.getD_eq_getElem?_getD]
      rw [List.getElem?_append_right (by omega), hl, show j + 1 + 1 - (i + 1) = (j + 1 - (i + 1)) + 1 by omega, List.getElem?_cons_succ, List.getElem?_drop]
      congr 2; omega
/-- There is a place for it. -/
theorem ins_ex {l m : List Nat} {u : Nat} {p : Nat → Bool} (hu : u ∈ m) (hm : m.Nodup) (hp : ∀ x ∈ m, p x = !decide (x = u)) (h : RotE l (m.filter p)) : ∃ i, i < max 1 l.length ∧ RotE (insN l i u) m := by
  obtain ⟨a, b, rfl⟩ := List.append_of_mem hu
  have hcu : p u = false := by rw [hp u (by simp)]; simp
  have hn : ∀ x, x ∈ a ∨ x ∈ b → p x = true := fun x hx => by
    rw [hp x (by simp only [List.mem_append, List.mem_cons]; rcases hx with h | h; exact .inl h; exact .inr (.inr h))]
    have : x ≠ u := fun e => by
      subst e
      rw [List.nodup_append] at hm
      obtain ⟨h1, h2, h3⟩ := hm
      rcases hx with h | h
      · exact h3 x h x (by simp) rfl
      · exact (List.nodup_cons.1 h2).1 h
    simp [this]
  have e : (a ++ u :: b).filter p = a ++ b := by
    rw [List.filter_append, List.filter_cons_of_neg (by simp [hcu]), List.filter_eq_self.2 (fun x hx => hn x (.inl hx)), List.filter_eq_self.2 (fun x hx => hn x (.inr hx))]
  rw [e] at h
  have h1 : RotE l (b ++ a) := h.trans ⟨a, b, rfl, rfl⟩
  have h2 : RotE (u :: (b ++ a)) (a ++ u :: b) := ⟨u :: b, a, by simp, rfl⟩
  obtain ⟨c, d, rfl, e2⟩ := h1
  rw [e2] at h2
  by_cases hc : c = []
  · subst hc
    simp only [List.nil_append, List.append_nil] at h2 ⊢
    by_cases hd : d = []
    · subst hd
      exact ⟨0, by simp, by simpa [insN] using h2⟩
    · have hdp := List.length_pos_iff.2 hd
      refine ⟨d.length - 1, by omega, ?_⟩
      unfold insN
      rw [show d.length - 1 + 1 = d.length by omega, List.take_length, List.drop_length]
      exact RotE.trans ⟨d, [u], rfl, rfl⟩ h2
  · have hcp := List.length_pos_iff.2 hc
    refine ⟨c.length - 1, by simp; omega, ?_⟩
    unfold insN
    rw [show c.length - 1 + 1 = c.length by omega, List.take_left, List.drop_left]
    exact RotE.trans ⟨c, u :: d, rfl, by simp⟩ h2
/-- There is one alone. -/
theorem ins_one {l : List Nat} {u i j : Nat} (hn : l.Nodup) (hu : u ∉ l) (hi : i < max 1 l.length) (hj : j < max 1 l.length) (h : RotE (insN l i u) (insN l j u)) : i = j := by
  by_cases h0 : l.length = 0
  · omega
  have hi' : i < l.length := by omega
  have hj' : j < l.length := by omega
  have h1 := insN_next hn hu hi'
  have h2 := insN_next hn hu hj'
  have hn2 := insN_nodup (i := i) hn hu
  have hn3 := insN_nodup (i := j) hn hu
  have h3 := h.next hn2 (u := l[i]) (insN_mem.2 (.inr (List.getElem_mem _)))
  have h4 := nextIn_inj hn3 (insN_mem.2 (.inr (List.getElem_mem hi'))) (insN_mem.2 (.inr (List.getElem_mem hj'))) (by rw [h3, h1, h2])
  exact (List.getElem_inj hn).1 h4
/-- An edge put in. -/
def stepE (t : List (List Nat)) (u v i k : Nat) : List (List Nat) := (t.set u (insN (t.getD u []) i v)).set v (insN (t.getD v []) k u)
theorem step_len (t : List (List Nat)) (u v i k : Nat) : (stepE t u v i k).length = t.length := by simp [stepE]
theorem getD_set (t : List (List Nat)) (u : Nat) (l : List Nat) (hu : u < t.length) (a : Nat) : (t.set u l).getD a [] = if a = u then l else t.getD a [] := by
  simp only [List.getD_eq_getElem?_getD, List.getElem?_set]
  by_cases h : u = a
  · subst h; simp [hu]
  · rw [if_neg h, if_neg (fun e => h e.symm)]
theorem step_get {t : List (List Nat)} {u v : Nat} (hu : u < t.length) (hv : v < t.length) (i k a : Nat) : (stepE t u v i k).getD a [] = if a = v then insN (t.getD v []) k u else if a = u then insN (t.getD u []) i v else t.getD a [] := by
  unfold stepE
  rw [getD_set _ _ _ (by simpa using hv), getD_set _ _ _ hu]
theorem step_u {t : List (List Nat)} {u v : Nat} (hu : u < t.length) (hv : v < t.length) (hne : u ≠ v) (i k : Nat) : (stepE t u v i k).getD u [] = insN (t.getD u []) i v := by rw [step_get hu hv, if_neg hne, if_pos rfl]
theorem step_v {t : List (List Nat)} {u v : Nat} (hu : u < t.length) (hv : v < t.length) (i k : Nat) : (stepE t u v i k).getD v [] = insN (t.getD v []) k u := by rw [step_get hu hv, if_pos rfl]
theorem step_o {t : List (List Nat)} {u v a : Nat} (hu : u < t.length) (hv : v < t.length) (h1 : a ≠ u) (h2 : a ≠ v) (i k : Nat) : (stepE t u v i k).getD a [] = t.getD a [] := by rw [step_get hu hv, if_neg h2, if_neg h1]
theorem step_mem {t : List (List Nat)} {u v : Nat} (hu : u < t.length) (hv : v < t.length) (hne : u ≠ v) {i k a b : Nat} : b ∈ (stepE t u v i k).getD a [] ↔ b ∈ t.getD a [] ∨ (a = u ∧ b = v) ∨ (a = v ∧ b = u) := by
  rw [step_get hu hv]
  by_cases h1 : a = v
  · subst h1
    rw [if_pos rfl, insN_mem]
    constructor
    · rintro (h | h)
      · exact .inr (.inr ⟨rfl, h⟩)
      · exact .inl h
    · rintro (h | ⟨h, _⟩ | ⟨_, h⟩)
      · exact .inr h
      · exact absurd h.symm hne
      · exact .inl h
  · rw [if_neg h1]
    by_cases h2 : a = u
    · subst h2
      rw [if_pos rfl, insN_mem]
      constructor
      · rintro (h | h)
        · exact .inr (.inl ⟨rfl, h⟩)
        · exact .inl h
      · rintro (h | ⟨_, h⟩ | ⟨h, _⟩)
        · exact .inr h
        · exact .inl h
        · exact absurd h hne
    · rw [if_neg h2]
      simp [h1, h2]
theorem step_rot {t : List (List Nat)} (h : RotN t) {u v : Nat} (hu : u < t.length) (hv : v < t.length) (hne : u ≠ v) (hn : v ∉ t.getD u []) (i k : Nat) : RotN (stepE t u v i k) := by
  have hn2 : u ∉ t.getD v [] := fun hc => hn (h.sym _ _ hc).2
  refine ⟨by rw [step_len]; exact h.le, fun a => ?_, fun a b hb => ?_⟩
  · rw [step_get hu hv]
    split
    · exact insN_nodup (h.nd v) hn2
    · split
      · exact insN_nodup (h.nd u) hn
      · exact h.nd a
  · rw [step_mem hu hv hne] at hb ⊢
    rw [step_len]
    rcases hb with hb | ⟨rfl, rfl⟩ | ⟨rfl, rfl⟩
    · exact ⟨(h.sym a b hb).1, .inl (h.sym a b hb).2⟩
    · exact ⟨hv, .inr (.inr ⟨rfl, rfl⟩)⟩
    · exact ⟨hu, .inr (.inl ⟨rfl, rfl⟩)⟩
/-- Edges that are in, either way. -/
def putB (L : List (Nat × Nat)) (a b : Nat) : Bool := decide ((a, b) ∈ L ∨ (b, a) ∈ L)
theorem putB_symm (L : List (Nat × Nat)) (a b : Nat) : putB L a b = putB L b a := by unfold putB; rw [decide_eq_decide]; exact Or.comm
/-- A system is what is left of R where only the edges of L are in. -/
structure FitR (t R : List (List Nat)) (L : List (Nat × Nat)) : Prop where
  len : t.length = R.length
  row : ∀ a, RotE (t.getD a []) ((R.getD a []).filter (putB L a))
/-- A right list of edges of R, some in and some not. -/
structure EdgesR (R : List (List Nat)) (L : List (Nat × Nat)) : Prop where
  rot : RotN R
  irr : ∀ a, a ∉ R.getD a []
  nd : L.Nodup
  one : ∀ e ∈ L, (e.2, e.1) ∉ L
  mem : ∀ e ∈ L, e.2 ∈ R.getD e.1 []
theorem putB_cons {L : List (Nat × Nat)} {u v a b : Nat} : putB (L ++ [(u, v)]) a b = (putB L a b || (decide (a = u ∧ b = v) || decide (a = v ∧ b = u))) := by
  unfold putB
  rw [Bool.eq_iff_iff]
  simp only [List.mem_append, List.mem_singleton, Prod.mk.injEq, decide_eq_true_eq, Bool.or_eq_true]
  constructor
  · rintro ((h | h) | (h | h))
    · exact .inl (.inl h)
    · exact .inr (.inl h)
    · exact .inl (.inr h)
    · exact .inr (.inr ⟨h.2, h.1⟩)
  · rintro ((h | h) | (h | h))
    · exact .inl (.inl h)
    · exact .inr (.inl h)
    · exact .inl (.inr h)
    · exact .inr (.inr ⟨h.2, h.1⟩)
theorem FitR.mem {t R : List (List Nat)} {L : List (Nat × Nat)} (h : FitR t R L) {a b : Nat} : b ∈ t.getD a [] ↔ b ∈ R.getD a [] ∧ putB L a b = true := by rw [← (h.row a).mem, List.mem_filter]
theorem FitR.nodup {t R : List (List Nat)} {L : List (Nat × Nat)} (h : FitR t R L) (hR : RotN R) (a : Nat) : (t.getD a []).Nodup := (h.row a).symm.nodup ((hR.nd a).filter _)
theorem FitR.rot {t R : List (List Nat)} {L : List (Nat × Nat)} (h : FitR t R L) (hR : RotN R) : RotN t :=
  ⟨by rw [h.len]; exact hR.le, h.nodup hR, fun a b hb => by
    rw [h.mem] at hb ⊢
    rw [h.len, putB_symm]
    exact ⟨(hR.sym a b hb.1).1, (hR.sym a b hb.1).2, hb.2⟩⟩
theorem EdgesR.next {R : List (List Nat)} {L : List (Nat × Nat)} {u v : Nat} (h : EdgesR R (L ++ [(u, v)])) : u < R.length ∧ v < R.length ∧ u ≠ v ∧ v ∈ R.getD u [] ∧ u ∈ R.getD v [] ∧ putB L u v = false := by
  have hm := h.mem (u, v) (by simp)
  simp only at hm
  have h2 := h.rot.sym u v hm
  refine ⟨h.rot.lt hm, h2.1, fun e => ?_, hm, h2.2, ?_⟩
  · subst e; exact h.irr _ hm
  · unfold putB
    rw [decide_eq_false_iff_not]
    rintro (h3 | h3)
    · have := h.nd
      rw [List.nodup_append] at this
      exact this.2.2 _ h3 (u, v) (by simp) rfl
    · exact h.one (u, v) (by simp) (by simp [h3])
/-- There is a place at either end. -/
theorem FitR.go {t R : List (List Nat)} {L : List (Nat × Nat)} {u v : Nat} (h : FitR t R L) (hE : EdgesR R (L ++ [(u, v)])) : ∃ i k, i < max 1 (t.getD u []).length ∧ k < max 1 (t.getD v []).length ∧ FitR (stepE t u v i k) R (L ++ [(u, v)]) := by
  obtain ⟨hu, hv, hne, huv, hvu, hno⟩ := hE.next
  have hno2 : putB L v u = false := by rw [putB_symm]; exact hno
  have key : ∀ a b, b ∈ R.getD a [] → putB L a b = false → (a = u ∧ b = v ∨ a = v ∧ b = u) → ∃ i, i < max 1 (t.getD a []).length ∧ RotE (insN (t.getD a []) i b) ((R.getD a []).filter (putB (L ++ [(u, v)]) a)) := fun a b hb hn hab => by
    refine ins_ex (p := putB L a) (List.mem_filter.2 ⟨hb, ?_⟩) ((hE.rot.nd a).filter _) (fun x hx => ?_) ?_
    · rw [putB_cons]; simp only [Bool.or_eq_true, decide_eq_true_eq]; exact .inr hab
    · obtain ⟨-, hx⟩ := List.mem_filter.1 hx
      rw [putB_cons] at hx
      by_cases hxb : x = b
      · subst hxb; simp [hn]
      · simp only [hxb, decide_false, Bool.not_false]
        simp only [Bool.or_eq_true, decide_eq_true_eq] at hx
        rcases hx with hx | ⟨h1, h2⟩ | ⟨h1, h2⟩
        · exact hx
        · rcases hab with ⟨h3, h4⟩ | ⟨h3, h4⟩
          · exact absurd (h2.trans h4.symm) hxb
          · exact absurd (h1.symm.trans h3) hne
        · rcases hab with ⟨h3, h4⟩ | ⟨h3, h4⟩
          · exact absurd (h3.symm.trans h1) hne
          · exact absurd (h2.trans h4.symm) hxb
    · rw [List.filter_filter]
      have e : ((R.getD a []).filter fun x => putB L a x && putB (L ++ [(u, v)]) a x) = (R.getD a []).filter (putB L a) := List.filter_congr fun x _ => by
        rw [putB_cons]; cases putB L a x <;> rfl
      rw [e]; exact h.row a
  obtain ⟨i, hi, h1⟩ := key u v huv hno (.inl ⟨rfl, rfl⟩)
  obtain ⟨k, hk, h2⟩ := key v u hvu hno2 (.inr ⟨rfl, rfl⟩)
  refine ⟨i, k, hi, hk, by rw [step_len, h.len], fun a => ?_⟩
  rw [step_get (by rw [h.len]; exact hu) (by rw [h.len]; exact hv)]
  by_cases hav : a = v
  · subst hav; rw [if_pos rfl]; exact h2
  · rw [if_neg hav]
    by_cases hau : a = u
    · subst hau; rw [if_pos rfl]; exact h1
    · rw [if_neg hau]
      have e : (R.getD a []).filter (putB (L ++ [(u, v)]) a) = (R.getD a []).filter (putB L a) := List.filter_congr fun x _ => by
        rw [putB_cons]; simp [hau, hav]
      rw [e]; exact h.row a
/-- What fits with the edge, fits without it. -/
theorem FitR.back {t R : List (List Nat)} {L : List (Nat × Nat)} {u v i k : Nat} (ht : ∀ a b, b ∈ t.getD a [] → putB L a b = true) (hl : t.length = R.length) (hE : EdgesR R (L ++ [(u, v)])) (h : FitR (stepE t u v i k) R (L ++ [(u, v)])) : FitR t R L := by
  obtain ⟨hu, hv, hne, huv, hvu, hno⟩ := hE.next
  have hno2 : putB L v u = false := by rw [putB_symm]; exact hno
  refine ⟨hl, fun a => ?_⟩
  have h1 := (h.row a).filter (putB L a)
  rw [List.filter_filter] at h1
  have e : ((R.getD a []).filter fun x => putB L a x && putB (L ++ [(u, v)]) a x) = (R.getD a []).filter (putB L a) := List.filter_congr fun x _ => by
    rw [putB_cons]; cases putB L a x <;> rfl
  rw [e, step_get (by rw [hl]; exact hu) (by rw [hl]; exact hv)] at h1
  by_cases hav : a = v
  · subst hav
    rw [if_pos rfl, insN_filter hno2 (ht _)] at h1
    exact h1
  · rw [if_neg hav] at h1
    by_cases hau : a = u
    · subst hau
      rw [if_pos rfl, insN_filter hno (ht _)] at h1
      exact h1
    · rw [if_neg hau, List.filter_eq_self.2 (ht a)] at h1
      exact h1
/-- It is one place alone. -/
theorem FitR.uniq {t R : List (List Nat)} {L : List (Nat × Nat)} {u v i k i' k' : Nat} (h : FitR t R L) (hE : EdgesR R (L ++ [(u, v)])) (hi : i < max 1 (t.getD u []).length) (hk : k < max 1 (t.getD v []).length) (hi' : i' < max 1 (t.getD u []).length) (hk' : k' < max 1 (t.getD v []).length)
    (h1 : FitR (stepE t u v i k) R (L ++ [(u, v)])) (h2 : FitR (stepE t u v i' k') R (L ++ [(u, v)])) : i = i' ∧ k = k' := by
  obtain ⟨hu, hv, hne, huv, hvu, hno⟩ := hE.next
  have hut : u < t.length := by rw [h.len]; exact hu
  have hvt : v < t.length := by rw [h.len]; exact hv
  have n1 : v ∉ t.getD u [] := fun hc => by have := (h.mem.1 hc).2; rw [hno] at this; cases this
  have n2 : u ∉ t.getD v [] := fun hc => by have := (h.mem.1 hc).2; rw [putB_symm, hno] at this; cases this
  have e1 := (h1.row u).trans (h2.row u).symm
  have e2 := (h1.row v).trans (h2.row v).symm
  rw [step_u hut hvt hne, step_u hut hvt hne] at e1
  rw [step_v hut hvt, step_v hut hvt] at e2
  exact ⟨ins_one (h.nodup hE.rot u) n1 hi hi' e1, ins_one (h.nodup hE.rot v) n2 hk hk' e2⟩
theorem FitR.start {R : List (List Nat)} : FitR (List.replicate R.length []) R [] := by
  refine ⟨by simp, fun a => ?_⟩
  have e : (R.getD a []).filter (putB [] a) = [] := by rw [List.filter_eq_nil_iff]; intro x _; simp [putB]
  have e2 : (List.replicate R.length ([] : List Nat)).getD a [] = [] := by
    rw [List.getD_eq_getElem?_getD, List.getElem?_replicate]; split <;> rfl
  rw [e, e2]
  exact RotE.refl _
/-- A sum over all places, where one place counts. -/
theorem count_one {α : Type} [BEq α] (r : α) (n c i0 : Nat) (f : Nat → List α) (hi : i0 < n) (h0 : (f i0).count r = c) (h : ∀ i, i < n → i ≠ i0 → (f i).count r = 0) : ((List.range n).flatMap f).count r = c := by
  have key : ∀ m, ((List.range m).flatMap f).count r = if i0 < m then (if m ≤ n then c else ((List.range m).flatMap f).count r) else (if m ≤ n then 0 else ((List.range m).flatMap f).count r) := fun m => by
    induction m with
    | zero => simp
    | succ m ih =>
      by_cases hm : m + 1 ≤ n
      · rw [List.range_succ, List.flatMap_append, List.count_append, ih, if_pos hm, if_pos hm, if_pos (show m ≤ n by omega), if_pos (show m ≤ n by omega)]
        have e : ([m].flatMap f) = f m := by simp
        rw [e]
        by_cases hmi : m = i0
        · subst hmi; rw [if_neg (by omega), if_pos (by omega), h0]; omega
        · rw [h m (by omega) hmi]
          by_cases hlt : i0 < m
          · rw [if_pos hlt, if_pos (by omega)]; omega
          · rw [if_neg hlt, if_neg (by omega)]
      · rw [if_neg hm, if_neg hm]; split <;> rfl
  have := key n
  rw [if_pos hi, if_pos (Nat.le_refl _)] at this
  exact this
theorem count_none {α : Type} [BEq α] (r : α) (n : Nat) (f : Nat → List α) (h : ∀ i, i < n → (f i).count r = 0) : ((List.range n).flatMap f).count r = 0 := by
  induction n with
  | zero => simp
  | succ n ih => rw [List.range_succ, List.flatMap_append, List.count_append, ih fun i hi => h i (by omega)]; simp [h n (by omega)]
end Go.Proofs.YtdbanndcdbikmaaGreatDoor
