/- Faces of a rotation system: plain facts. -/
import Derived.Test.YtkgnobiihmljfaaAroM
import Derived.Test.YtkgnobiihmljfaaMod3
namespace Go.Proofs.Ytkgnobiihmljfaa
/-- A side of an edge. -/
abbrev Dart := Nat × Nat
/-- A rotation system: a list of neighbours around each vertex, each once, either way. -/
structure RotN (t : List (List Nat)) : Prop where
  le : t.length ≤ 16
  nd : ∀ u, (t.getD u []).Nodup
  sym : ∀ u v, v ∈ t.getD u [] → v < t.length ∧ u ∈ t.getD v []
theorem RotN.lt {t : List (List Nat)} (h : RotN t) {u v : Nat} (hv : v ∈ t.getD u []) : u < t.length := (h.sym v u (h.sym u v hv).2).1
theorem step_mod {i n : Nat} (h : i < n) : (i + 1) % n = if i + 1 = n then 0 else i + 1 := by
  by_cases e : i + 1 = n
  · rw [if_pos e, e, Nat.mod_self]
  · rw [if_neg e, Nat.mod_eq_of_lt (by omega)]
/-- What stands behind u. -/
def nextIn (l : List Nat) (u : Nat) : Nat := l.getD ((l.idxOf u + 1) % l.length) 0
theorem nextIn_mem {l : List Nat} {u : Nat} (h : u ∈ l) : nextIn l u ∈ l := by
  have hp := List.length_pos_of_mem h
  have : (l.idxOf u + 1) % l.length < l.length := Nat.mod_lt _ hp
  unfold nextIn
  rw [List.getD_eq_getElem?_getD, List.getElem?_eq_getElem this]
  exact List.getElem_mem this
theorem nextIn_at {l : List Nat} (hn : l.Nodup) {i : Nat} (hi : i < l.length) : nextIn l l[i] = l.getD ((i + 1) % l.length) 0 := by
  unfold nextIn
  rw [hn.idxOf_getElem i hi]
theorem getD_inj {l : List Nat} (hn : l.Nodup) {i j : Nat} (hi : i < l.length) (hj : j < l.length) (h : l.getD i 0 = l.getD j 0) : i = j := by
  have e1 : l.getD i 0 = l[i] := by simp [hi]
  have e2 : l.getD j 0 = l[j] := by simp [hj]
  rw [e1, e2] at h
  rw [List.Nodup, List.pairwise_iff_getElem] at hn
  rcases Nat.lt_trichotomy i j with c | c | c
  · exact absurd h (hn i j hi hj c)
  · exact c
  · exact absurd h.symm (hn j i hj hi c)
theorem nextIn_inj {l : List Nat} (hn : l.Nodup) {u v : Nat} (hu : u ∈ l) (hv : v ∈ l) (h : nextIn l u = nextIn l v) : u = v := by
  obtain ⟨i, hi, rfl⟩ := List.getElem_of_mem hu
  obtain ⟨j, hj, rfl⟩ := List.getElem_of_mem hv
  rw [nextIn_at hn hi, nextIn_at hn hj] at h
  have hp : 0 < l.length := by omega
  have := getD_inj hn (Nat.mod_lt _ hp) (Nat.mod_lt _ hp) h
  rw [step_mod hi, step_mod hj] at this
  have e : i = j := by split at this <;> split at this <;> omega
  subst e; rfl
def succD (t : List (List Nat)) (x : Dart) : Dart := (x.2, nextIn (t.getD x.2 []) x.1)
def IsD (t : List (List Nat)) (x : Dart) : Prop := x.2 ∈ t.getD x.1 []
theorem IsD.lt {t : List (List Nat)} (h : RotN t) {x : Dart} (hx : IsD t x) : x.1 < t.length ∧ x.2 < t.length := ⟨h.lt hx, (h.sym _ _ hx).1⟩
theorem succ_isD {t : List (List Nat)} (h : RotN t) {x : Dart} (hx : IsD t x) : IsD t (succD t x) := nextIn_mem (h.sym _ _ hx).2
theorem succ_inj {t : List (List Nat)} (h : RotN t) {x y : Dart} (hx : IsD t x) (hy : IsD t y) (e : succD t x = succD t y) : x = y := by
  obtain ⟨x1, x2⟩ := x
  obtain ⟨y1, y2⟩ := y
  simp only [succD, Prod.mk.injEq] at e
  obtain ⟨rfl, e⟩ := e
  exact congrArg (·, x2) (nextIn_inj (h.nd _) (h.sym _ _ hx).2 (h.sym _ _ hy).2 e)
/-- All sides, in order. -/
def rowD (t : List (List Nat)) (u : Nat) : List Nat := (List.range t.length).filter fun v => decide (v ∈ t.getD u [])
def dartsN (t : List (List Nat)) : List Dart := (List.range t.length).flatMap fun u => (rowD t u).map fun v => (u, v)
theorem mem_rowD {t : List (List Nat)} (h : RotN t) {u v : Nat} : v ∈ rowD t u ↔ v ∈ t.getD u [] := by
  unfold rowD
  rw [List.mem_filter, List.mem_range, decide_eq_true_eq]
  exact ⟨fun h => h.2, fun hv => ⟨(h.sym _ _ hv).1, hv⟩⟩
theorem mem_dartsN {t : List (List Nat)} (h : RotN t) {x : Dart} : x ∈ dartsN t ↔ IsD t x := by
  unfold dartsN
  rw [List.mem_flatMap]
  constructor
  · rintro ⟨u, hu, hx⟩
    obtain ⟨v, hv, rfl⟩ := List.mem_map.1 hx
    exact (mem_rowD h).1 hv
  · intro hx
    exact ⟨x.1, List.mem_range.2 (hx.lt h).1, List.mem_map.2 ⟨x.2, (mem_rowD h).2 hx, rfl⟩⟩
/-- How many sides are not met yet. -/
def restD (t : List (List Nat)) (D : List Dart) : Nat := ((dartsN t).filter fun x => !decide (x ∈ D)).length
theorem filter_lt {α : Type} {p q : α → Bool} : ∀ {l : List α} {x : α}, (∀ y, q y = true → p y = true) → x ∈ l → p x = true → q x = false → (l.filter q).length < (l.filter p).length
  | y :: l, x, himp, hx, hp, hq => by
    have hle : (l.filter q).length ≤ (l.filter p).length := by
      have : ∀ l : List α, (l.filter q).length ≤ (l.filter p).length := fun l => by
        induction l with
        | nil => simp
        | cons z l ih =>
          rw [List.filter_cons, List.filter_cons]
          by_cases h1 : q z = true
          · rw [if_pos h1, if_pos (himp _ h1)]; simpa using ih
          · rw [if_neg h1]
            split
            · simp; omega
            · exact ih
      exact this l
    rw [List.filter_cons, List.filter_cons]
    rcases List.mem_cons.1 hx with rfl | hx
    · rw [if_neg (by rw [hq]; simp), if_pos hp]; simp; omega
    · have ih := filter_lt himp hx hp hq
      by_cases h1 : q y = true
      · rw [if_pos h1, if_pos (himp _ h1)]; simpa using ih
      · rw [if_neg h1]
        split
        · simp; omega
        · exact ih
theorem rest_snoc {t : List (List Nat)} (h : RotN t) {D : List Dart} {x : Dart} (hx : IsD t x) (hn : x ∉ D) : restD t (D ++ [x]) < restD t D := by
  unfold restD
  refine filter_lt (x := x) (fun y hy => ?_) ((mem_dartsN h).2 hx) (by simp [hn]) (by simp)
  simp only [Bool.not_eq_true', decide_eq_false_iff_not, List.mem_append, not_or] at hy ⊢
  exact hy.1
/-- Along a face. -/
def trF (t : List (List Nat)) : Nat → List Dart → Dart → List Nat → List Nat × List Dart
  | 0, D, _, f => (f, D)
  | k + 1, D, x, f => if x ∈ D then (f, D) else trF t k (D ++ [x]) (succD t x) (f ++ [x.1])
theorem trF_enough {t : List (List Nat)} (h : RotN t) : ∀ (k m : Nat) (D : List Dart) (x : Dart) (f : List Nat), IsD t x → restD t D < k → restD t D < m → trF t k D x f = trF t m D x f
  | 0, _, _, _, _, _, hk, _ => by omega
  | _ + 1, 0, _, _, _, _, _, hm => by omega
  | k + 1, m + 1, D, x, f, hx, hk, hm => by
    rw [trF, trF]
    by_cases hD : x ∈ D
    · rw [if_pos hD, if_pos hD]
    · rw [if_neg hD, if_neg hD]
      have := rest_snoc h hx hD
      exact trF_enough h k m _ _ _ (succ_isD h hx) (by omega) (by omega)
def trW (t : List (List Nat)) (D : List Dart) (x : Dart) (f : List Nat) : List Nat × List Dart := trF t (restD t D + 1) D x f
theorem trW_in {t : List (List Nat)} {D : List Dart} {x : Dart} {f : List Nat} (h : x ∈ D) : trW t D x f = (f, D) := by rw [trW, trF, if_pos h]
theorem trW_step {t : List (List Nat)} (h : RotN t) {D : List Dart} {x : Dart} {f : List Nat} (hx : IsD t x) (hn : x ∉ D) : trW t D x f = trW t (D ++ [x]) (succD t x) (f ++ [x.1]) := by
  have := rest_snoc h hx hn
  rw [trW, trW, trF, if_neg hn]
  exact trF_enough h _ _ _ _ _ (succ_isD h hx) (by omega) (by omega)
/-- The faces, as far as some sides lead. -/
def fstep (t : List (List Nat)) (st : List (List Nat) × List Dart) (x : Dart) : List (List Nat) × List Dart :=
  if x ∈ st.2 then st else (st.1 ++ [(trW t st.2 x []).1], (trW t st.2 x []).2)
def facesTo (t : List (List Nat)) (L : List Dart) : List (List Nat) × List Dart := L.foldl (fstep t) ([], [])
def facesN (t : List (List Nat)) : List (List Nat) := (facesTo t (dartsN t)).1
theorem facesTo_snoc (t : List (List Nat)) (L : List Dart) (x : Dart) : facesTo t (L ++ [x]) = fstep t (facesTo t L) x := by simp [facesTo]
/-- Induction along a face. -/
theorem trW_ind {t : List (List Nat)} (h : RotN t) (M : List Dart → Dart → List Nat → Prop) (Z : List Nat → List Dart → Prop) (hin : ∀ D x f, M D x f → x ∈ D → Z f D)
    (hstep : ∀ D x f, M D x f → IsD t x → x ∉ D → M (D ++ [x]) (succD t x) (f ++ [x.1])) : ∀ (n : Nat) (D : List Dart) (x : Dart) (f : List Nat), restD t D ≤ n → IsD t x → M D x f → Z (trW t D x f).1 (trW t D x f).2
  | n, D, x, f, hn, hx, hM => by
    by_cases hD : x ∈ D
    · rw [trW_in hD]; exact hin _ _ _ hM hD
    · rw [trW_step h hx hD]
      have := rest_snoc h hx hD
      match n, hn with
      | 0, hn => omega
      | n + 1, hn => exact trW_ind h M Z hin hstep n _ _ _ (by omega) (succ_isD h hx) (hstep _ _ _ hM hx hD)
/-- What is met are sides, each once; the faces hold as many. -/
structure FInv (t : List (List Nat)) (F : List (List Nat)) (D : List Dart) : Prop where
  all : ∀ x ∈ D, IsD t x
  nd : D.Nodup
  sum : (F.map List.length).sum = D.length
  small : ∀ f ∈ F, f.length ≤ 256 ∧ ∀ v ∈ f, v < t.length
theorem len_le_sq {t : List (List Nat)} (h : RotN t) {D : List Dart} (ha : ∀ x ∈ D, IsD t x) (hn : D.Nodup) : D.length ≤ 256 := by
  have h1 := nodup_lenA (l := D) (E := dartsN t) hn (fun x hx => (mem_dartsN h).2 (ha x hx))
  have h2 : (dartsN t).length ≤ t.length * t.length := by
    have key : ∀ (L : List Nat), (L.flatMap fun u => (rowD t u).map fun v => (u, v)).length ≤ L.length * t.length := fun L => by
      induction L with
      | nil => simp
      | cons u L ih =>
        rw [List.flatMap_cons, List.length_append, List.length_map, List.length_cons]
        have : (rowD t u).length ≤ t.length := by
          have := List.length_filter_le (fun v => decide (v ∈ t.getD u [])) (List.range t.length)
          simpa [rowD] using this
        rw [Nat.succ_mul]; omega
    have := key (List.range t.length)
    simpa [dartsN] using this
  have h3 := Nat.mul_le_mul h.le h.le
  omega
theorem FInv.step {t : List (List Nat)} (h : RotN t) {F : List (List Nat)} {D : List Dart} (hi : FInv t F D) {x : Dart} (hx : IsD t x) : FInv t (fstep t (F, D) x).1 (fstep t (F, D) x).2 := by
  unfold fstep
  by_cases hD : x ∈ D
  · simp only [if_pos hD]; exact hi
  · simp only [if_neg hD]
    refine trW_ind h (fun D' y f => (∀ x ∈ D', IsD t x) ∧ D'.Nodup ∧ D'.length = D.length + f.length ∧ ∀ v ∈ f, v < t.length) (fun f D' => FInv t (F ++ [f]) D') ?_ ?_ _ D x [] (Nat.le_refl _) hx ⟨hi.all, hi.nd, by simp, by simp⟩
    · rintro D' y f ⟨h1, h2, h3, h4⟩ _
      have := len_le_sq h h1 h2
      refine ⟨h1, h2, ?_, fun f' hf => ?_⟩
      · rw [List.map_append, List.sum_append, hi.sum]; simp; omega
      · rcases List.mem_append.1 hf with hf | hf
        · exact hi.small f' hf
        · simp only [List.mem_singleton] at hf
          subst hf
          exact ⟨by omega, h4⟩
    · rintro D' y f ⟨h1, h2, h3, h4⟩ hy hn
      refine ⟨fun z hz => ?_, ?_, by simp; omega, fun v hv => ?_⟩
      · rcases List.mem_append.1 hz with hz | hz
        · exact h1 z hz
        · simp at hz; rw [hz]; exact hy
      · rw [List.nodup_append]
        exact ⟨h2, by simp, fun a ha b hb => by simp at hb; subst hb; exact fun e => hn (e ▸ ha)⟩
      · rcases List.mem_append.1 hv with hv | hv
        · exact h4 v hv
        · simp at hv; rw [hv]; exact (hy.lt h).1
theorem FInv.to {t : List (List Nat)} (h : RotN t) : ∀ (L : List Dart), (∀ x ∈ L, IsD t x) → ∀ (F : List (List Nat)) (D : List Dart), FInv t F D → FInv t (L.foldl (fstep t) (F, D)).1 (L.foldl (fstep t) (F, D)).2
  | [], _, F, D, hi => hi
  | x :: L, hL, F, D, hi => by
    rw [List.foldl_cons]
    exact FInv.to h L (fun y hy => hL y (by simp [hy])) _ _ (hi.step h (hL x (by simp)))
theorem FInv.start (t : List (List Nat)) : FInv t [] [] := ⟨by simp, by simp, by simp, by simp⟩
theorem facesTo_inv {t : List (List Nat)} (h : RotN t) {L : List Dart} (hL : ∀ x ∈ L, IsD t x) : FInv t (facesTo t L).1 (facesTo t L).2 := FInv.to h L hL _ _ (FInv.start t)
/-- The sides ahead of (u, v). -/
def dartsTo (t : List (List Nat)) (u v : Nat) : List Dart := ((List.range u).flatMap fun u => (rowD t u).map fun v => (u, v)) ++ ((List.range v).filter fun v => decide (v ∈ t.getD u [])).map fun v => (u, v)
theorem dartsTo_zero (t : List (List Nat)) : dartsTo t 0 0 = [] := by simp [dartsTo]
theorem dartsTo_row (t : List (List Nat)) (u : Nat) : dartsTo t (u + 1) 0 = dartsTo t u t.length := by simp [dartsTo, List.range_succ, rowD]
theorem dartsTo_yes {t : List (List Nat)} {u v : Nat} (h : v ∈ t.getD u []) : dartsTo t u (v + 1) = dartsTo t u v ++ [(u, v)] := by simp [dartsTo, List.range_succ, List.filter_append, -List.getD_eq_getElem?_getD, h]
theorem dartsTo_no {t : List (List Nat)} {u v : Nat} (h : v ∉ t.getD u []) : dartsTo t u (v + 1) = dartsTo t u v := by simp [dartsTo, List.range_succ, List.filter_append, -List.getD_eq_getElem?_getD, h]
theorem dartsTo_all (t : List (List Nat)) : dartsTo t t.length 0 = dartsN t := by simp [dartsTo, dartsN]
theorem dartsTo_isD {t : List (List Nat)} (h : RotN t) {u v : Nat} : ∀ x ∈ dartsTo t u v, IsD t x := fun x hx => by
  rcases List.mem_append.1 hx with hx | hx
  · obtain ⟨u, hu, hx⟩ := List.mem_flatMap.1 hx
    obtain ⟨v, hv, rfl⟩ := List.mem_map.1 hx
    exact (mem_rowD h).1 hv
  · obtain ⟨v, hv, rfl⟩ := List.mem_map.1 hx
    exact of_decide_eq_true (p := v ∈ t.getD u []) (List.mem_filter.1 hv).2
/-- The same, with the row by its number. -/
def dartsAt (t : List (List Nat)) (u k : Nat) : List Dart := ((List.range u).flatMap fun u => (rowD t u).map fun v => (u, v)) ++ ((rowD t u).take k).map fun v => (u, v)
theorem dartsAt_row (t : List (List Nat)) {u k : Nat} (hk : (rowD t u).length ≤ k) : dartsAt t u k = dartsAt t (u + 1) 0 := by simp [dartsAt, List.range_succ, List.take_of_length_le hk]
theorem dartsAt_snoc (t : List (List Nat)) {u k : Nat} (hk : k < (rowD t u).length) : dartsAt t u (k + 1) = dartsAt t u k ++ [(u, (rowD t u)[k])] := by
  unfold dartsAt
  rw [List.take_succ_eq_append_getElem hk, List.map_append, List.append_assoc]
  rfl
theorem dartsAt_all (t : List (List Nat)) : dartsAt t t.length 0 = dartsN t := by simp [dartsAt, dartsN]
theorem dartsAt_zero (t : List (List Nat)) : dartsAt t 0 0 = [] := by simp [dartsAt]
theorem dartsAt_isD {t : List (List Nat)} (h : RotN t) {u k : Nat} : ∀ x ∈ dartsAt t u k, IsD t x := fun x hx => by
  rcases List.mem_append.1 hx with hx | hx
  · obtain ⟨u, hu, hx⟩ := List.mem_flatMap.1 hx
    obtain ⟨v, hv, rfl⟩ := List.mem_map.1 hx
    exact (mem_rowD h).1 hv
  · obtain ⟨v, hv, rfl⟩ := List.mem_map.1 hx
    exact (mem_rowD h).1 (List.mem_of_mem_take hv)
theorem rows_len (t : List (List Nat)) (L : List Nat) : (L.flatMap fun u => (rowD t u).map fun v => (u, v)).length ≤ L.length * t.length := by
  induction L with
  | nil => simp
  | cons u L ih =>
    rw [List.flatMap_cons, List.length_append, List.length_map, List.length_cons]
    have : (rowD t u).length ≤ t.length := by
      have := List.length_filter_le (fun v => decide (v ∈ t.getD u [])) (List.range t.length)
      simpa [rowD] using this
    rw [Nat.succ_mul]; omega
theorem faces_le (t : List (List Nat)) : ∀ (L : List Dart) (F : List (List Nat)) (D : List Dart), (L.foldl (fstep t) (F, D)).1.length ≤ F.length + L.length
  | [], F, D => by simp
  | x :: L, F, D => by
    rw [List.foldl_cons]
    have h := faces_le t L (fstep t (F, D) x).1 (fstep t (F, D) x).2
    have h2 : (fstep t (F, D) x).1.length ≤ F.length + 1 := by
      unfold fstep
      split <;> simp
    have e : ((fstep t (F, D) x).1, (fstep t (F, D) x).2) = fstep t (F, D) x := rfl
    rw [e] at h
    simp only [List.length_cons]
    omega
theorem facesAt_le {t : List (List Nat)} (h : RotN t) {u k : Nat} (hu : u ≤ t.length) : (facesTo t (dartsAt t u k)).1.length ≤ 256 + k := by
  have h1 := faces_le t (dartsAt t u k) [] []
  have h2 := rows_len t (List.range u)
  have h3 : (List.range u).length * t.length ≤ 256 := by
    rw [List.length_range]
    have := Nat.mul_le_mul hu (Nat.le_refl t.length)
    have := Nat.mul_le_mul h.le h.le
    omega
  have h4 : (dartsAt t u k).length ≤ 256 + k := by
    unfold dartsAt
    rw [List.length_append, List.length_map, List.length_take]
    omega
  unfold facesTo
  simp only [List.length_nil] at h1
  omega
theorem facesTo_le {t : List (List Nat)} (h : RotN t) {u v : Nat} (hu : u ≤ t.length) : (facesTo t (dartsTo t u v)).1.length ≤ 256 + v := by
  have h1 := faces_le t (dartsTo t u v) [] []
  have h2 := rows_len t (List.range u)
  have h3 : (List.range u).length * t.length ≤ 256 := by
    rw [List.length_range]
    have := Nat.mul_le_mul hu (Nat.le_refl t.length)
    have := Nat.mul_le_mul h.le h.le
    omega
  have h4 : (dartsTo t u v).length ≤ 256 + v := by
    unfold dartsTo
    have := List.length_filter_le (fun v => decide (v ∈ t.getD u [])) (List.range v)
    rw [List.length_range] at this
    rw [List.length_append, List.length_map]
    omega
  unfold facesTo
  simp only [List.length_nil] at h1
  omega
end Go.Proofs.Ytkgnobiihmljfaa
