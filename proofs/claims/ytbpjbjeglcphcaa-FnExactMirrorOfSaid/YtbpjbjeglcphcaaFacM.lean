/- Faces of a rotation system: plain facts. -/
import Derived.Test.YtbpjbjeglcphcaaAroM
import Derived.Test.YtbpjbjeglcphcaaMod3
namespace Go.Proofs.Ytbpjbjeglcphcaa
/-- A side of an edge. -/
abbrev Dart := Nat × Nat
/-- A rotation system: a list of neighbours around each vertex, each once, either way. -/
structure RotN (t : List (List Nat)) : Prop where
  le : t.length ≤ 16
  nd : ∀ u, (t.getD u []).Nodup
  sym : ∀ u v, v ∈ t.getD u [] → v < t.length ∧ u ∈ t.getD v []
theorem RotN.lt {t : List (List Nat)} (h : RotN t) {u v : Nat} (hv : v ∈ t.getD u []) : u < t.length := (h.sym v u (h.sym u v hv).2).1
theorem step_mod {i n : Nat} (h : i < n) : (i + 1) % n = if i + 1 = n then 0 else i + 1 := by
  by_cases e : i + 1 = n
  · rw [if_pos e, e, Nat.mod_self]
  · rw [if_neg e, Nat.mod_eq_of_lt (by omega)]
/-- What stands behind u. -/
def nextIn (l : List Nat) (u : Nat) : Nat := l.getD ((l.idxOf u + 1) % l.length) 0
theorem nextIn_mem {l : List Nat} {u : Nat} (h : u ∈ l) : nextIn l u ∈ l := by
  have hp := List.length_pos_of_mem h
  have : (l.idxOf u + 1) % l.length < l.length := Nat.mod_lt _ hp
  unfold nextIn
  rw [List.getD_eq_getElem?_getD, List.getElem?_eq_getElem this]
  exact List.getElem_mem this
theorem nextIn_at {l : List Nat} (hn : l.Nodup) {i : Nat} (hi : i < l.length) : nextIn l l[i] = l.getD ((i + 1) % l.length) 0 := by
  unfold nextIn
  rw [hn.idxOf_getElem i hi]
theorem getD_inj {l : List Nat} (hn : l.Nodup) {i j : Nat} (hi : i < l.length) (hj : j < l.length) (h : l.getD i 0 = l.getD j 0) : i = j := by
  have e1 : l.getD i 0 = l[i] := by simp [hi]
  have e2 : l.getD j 0 = l[j] := by simp [hj]
  rw [e1, e2] at h
  rw [List.Nodup, List.pairwise_iff_getElem] at hn
  rcases Nat.lt_trichotomy i j with c | c | c
  · exact absurd h (hn i j hi hj c)
  · exact c
  · exact absurd h.symm (hn j i hj hi c)
theorem nextIn_inj {l : List Nat} (hn : l.Nodup) {u v : Nat} (hu : u ∈ l) (hv : v ∈ l) (h : nextIn l u = nextIn l v) : u = v := by
  obtain ⟨i, hi, rfl⟩ := List.getElem_of_mem hu
  obtain ⟨j, hj, rfl⟩ := List.getElem_of_mem hv
  rw [nextIn_at hn hi, nextIn_at hn hj] at h
  have hp : 0 < l.length := by omega
  have := getD_inj hn (Nat.mod_lt _ hp) (Nat.mod_lt _ hp) h
  rw [step_mod hi, step_mod hj] at this
  have e : i = j := by split at this <;> split at this <;> omega
  subst e; rfl
def succD (t : List (List Nat)) (x : Dart) : Dart := (x.2, nextIn (t.getD x.2 []) x.1)
def IsD (t : List (List Nat)) (x : Dart) : Prop := x.2 ∈ t.getD x.1 []
theorem IsD.lt {t : List (List Nat)} (h : RotN t) {x : Dart} (hx : IsD t x) : x.1 < t.length ∧ x.2 < t.length := ⟨h.lt hx, (h.sym _ _ hx).1⟩
theorem succ_isD {t : List (List Nat)} (h : RotN t) {x : Dart} (hx : IsD t x) : IsD t (succD t x) := nextIn_mem (h.sym _ _ hx).2
theorem succ_inj {t : List (List Nat)} (h : RotN t) {x y : Dart} (hx : IsD t x) (hy : IsD t y) (e : succD t x = succD t y) : x = y := by
  obtain ⟨x1, x2⟩ := x
  obtain ⟨y1, y2⟩ := y
  simp only [succD, Prod.mk.injEq] at e
  obtain ⟨rfl, e⟩ := e
  exact congrArg (·, x2) (nextIn_inj (h.nd _) (h.sym _ _ hx).2 (h.sym _ _ hy).2 e)
/-- All sides, in order. -/
def rowD (t : List (List Nat)) (u : Nat) : List Nat := (List.range t.length).filter fun v => decide (v ∈ t.getD u [])
def dartsN (t : List (List Nat)) : List Dart := (List.range t.length).flatMap fun u => (rowD t u).map fun v => (u, v)
theorem mem_rowD {t : List (List Nat)} (h : RotN t) {u v : Nat} : v ∈ rowD t u ↔ v ∈ t.getD u [] := by
  unfold rowD
  rw [List.mem_filter, List.mem_range, decide_eq_true_eq]
  exact ⟨fun h => h.2, fun hv => ⟨(h.sym _ _ hv).1, hv⟩⟩
theorem mem_dartsN {t : List (List Nat)} (h : RotN t) {x : Dart} : x ∈ dartsN t ↔ IsD t x := by
  unfold dartsN
  rw [List.mem_flatMap]
  constructor
  · rintro ⟨u, hu, hx⟩
    obtain ⟨v, hv, rfl⟩ := List.mem_map.1 hx
    exact (mem_rowD h).1 hv
  · intro hx
    exact ⟨x.1, List.mem_range.2 (hx.lt h).1, List.mem_map.2 ⟨x.2, (mem_rowD h).2 hx, rfl⟩⟩
/-- How many sides are not met yet. -/
def restD (t : List (List Nat)) (D : List Dart) : Nat := ((dartsN t).filter fun x => !decide (x ∈ D)).length
theorem filter_lt {α : Type} {p q : α → Bool} : ∀ {l : List α} {x : α}, (∀ y, q y = true → p y = true) → x ∈ l → p x = true → q x = false → (l.filter q).length < (l.filter p).length
  | y :: l, x, himp, hx, hp, hq => by
    have hle : (l.filter q).length ≤ (l.filter p).length := by
      have : ∀ l : List α, (l.filter q).length ≤ (l.filter p).length := fun l => by
        induction l with
        | nil => simp
        | cons z l ih =>
          rw [List.filter_cons, List.filter_cons]
          by_cases h1 : q z = true
          · rw [if_pos h1, if_pos (himp _ h1)]; simpa using ih
          · rw [if_neg h1]
            split
            · simp; omega
            · exact ih
      exact this l
    rw [List.filter_cons, List.filter_cons]
    rcases List.mem_cons.1 hx with rfl | hx
    · rw [if_neg (by rw [hq]; simp), if_pos hp]; simp; omega
    · have ih := filter_lt himp hx hp hq
      by_cases h1 : q y = true
      · rw [if_pos h1, if_pos (himp _ h1)]; simpa using ih
      · rw [if_neg h1]
        split
        · simp; omega
        · exact ih
theorem rest_snoc {t : List (List Nat)} (h : RotN t) {D : List Dart} {x : Dart} (hx : IsD t x) (hn : x ∉ D) : restD t (D ++ [x]) < restD t D := by
  unfold restD
  refine filter_lt (x := x) (fun y hy => ?_) ((mem_dartsN h).2 hx) (by simp [hn]) (by simp)
  simp only [Bool.not_eq_true', decide_eq_false_iff_not, List.mem_append, not_or] at hy ⊢
  exact hy.1
/-- Along a face. -/
def trF (t : List (List Nat)) : Nat → List Dart → Dart → List Nat → List Nat × List Dart
  | 0, D, _, f => (f, D)
  | k + 1, D, x, f => if x ∈ D then (f, D) else trF t k (D ++ [x]) (succD t x) (f ++ [x.1])
theorem trF_enough {t : List (List Nat)} (h : RotN t) : ∀ (k m : Nat) (D : List Dart) (x : Dart) (f : List Nat), IsD t x → restD t D < k → restD t D < m → trF t k D x f = trF t m D x f
  | 0, _, _, _, _, _, hk, _ => by omega
  | _ + 1, 0, _, _, _, _, _, hm => by omega
  | k + 1, m + 1, D, x, f, hx, hk, hm => by
    rw [trF, trF]
    by_cases hD : x ∈ D
    · rw [if_pos hD, if_pos hD]
    · rw [if_neg hD, if_neg hD]
      have := rest_snoc h hx hD
      exact trF_enough h k m _ _ _ (succ_isD h hx) (by omega) (by omega)
def trW (t : List (List Nat)) (D : List Dart) (x : Dart) (f : List Nat) : List Nat × List Dart := trF t (restD t D + 1) D x f
theorem trW_in {t : List (List Nat)} {D : List Dart} {x : Dart} {f : List Nat} (h : x ∈ D) : trW t D x f = (f, D) := by rw [trW, trF, if_pos h]
theorem trW_step {t : List (List Nat)} (h : RotN t) {D : List Dart} {x : Dart} {f : List Nat} (hx : IsD t x) (hn : x ∉ D) : trW t D x f = trW t (D ++ [x]) (succD t x) (f ++ [x.1]) := by
  have := rest_snoc h hx hn
  rw [trW, trW, trF, if_neg hn]
  exact trF_enough h _ _ _ _ _ (succ_isD h hx) (by omega) (by omega)
/-- The faces, as far as some sides lead. -/
def fstep (t : List (List Nat)) (st : List (List Nat) × List Dart) (x : Dart) : List (List Nat) × List Dart :=
  if x ∈ st.2 then st else (st.1 ++ [(trW t st.2 x []).1], (trW t st.2 x []).2)
def facesTo (t : List (List Nat)) (L : List Dart) : List (List Nat) × List Dart := L.foldl (fstep t) ([], [])
def facesN (t : List (List Nat)) : List (List Nat) := (facesTo t (dartsN t)).1
theorem facesTo_snoc (t : List (List Nat)) (L : List Dart) (x : Dart) : facesTo t (L ++ [x]) = fstep t (facesTo t L) x := by simp [facesTo]
/-- Induction along a face. -/
theorem trW_ind {t : List (List Nat)} (h : RotN t) (M : List Dart → Dart → List Nat → Prop) (Z : List Nat → List Dart → Prop) (hin : ∀ D x f, M D x f → x ∈ D → Z f D)
    (hstep : ∀ D x f, M D x f → IsD t x → x ∉ D → M (D ++ [x]) (succD t x) (f ++ [x.1])) : ∀ (n : Nat) (D : List Dart) (x : Dart) (f : List Nat), restD t D ≤ n → IsD t x → M D x f → Z (trW t D x f).1 (trW t D x f).2
  | n, D, x, f, hn, hx, hM => by
    by_cases hD : x ∈ D
    · rw [trW_in hD]; exact hin _ _ _ hM hD
    · rw [trW_step h hx hD]
      have := rest_snoc h hx hD
      match n, hn with
      | 0, hn => omega
      | n + 1, hn => exact trW_ind h M Z hin hstep n _ _ _ (by omega) (succ_isD h hx) (hstep _ _ _ hM hx hD)
/-- What is met are sides, each once; the faces hold as many. -/
structure FInv (t : List (List Nat)) (F : List (List Nat)) (D : List Dart) : Prop where
  all : ∀ x ∈ D, IsD t x
  nd : D.Nodup
  sum : (F.map List.length).sum = D.length
  small : ∀ f ∈ F, f.length ≤ 256 ∧ ∀ v ∈ f, v < t.length
theorem len_le_sq {t : List (List Nat)} (h : RotN t) {D : List Dart} (ha : ∀ x ∈ D, IsD t x) (hn : D.Nodup) : D.length ≤ 256 := by
  have h1 := nodup_lenA (l := D) (E := dartsN t) hn (fun x hx => (mem_dartsN h).2 (ha x hx))
  have h2 : (dartsN t).length ≤ t.length * t.length := by
    have key : ∀ (L : List Nat), (L.flatMap fun u => (rowD t u).map fun v => (u, v)).length ≤ L.length * t.length := fun L => by
      induction L with
      | nil => simp
      | cons u L ih =>
        rw [List.flatMap_cons, List.length_append, List.length_map, List.length_cons]
        have : (rowD t u).length ≤ t.length := by
          have := List.length_filter_le (fun v => decide (v ∈ t.getD u [])) (List.range t.length)
          simpa [rowD] using this
        rw [Nat.succ_mul]; omega
    have := key (List.range t.length)
    simpa [dartsN] using this
  have h3 := Nat.mul_le_mul h.le h.le
  omega
theorem FInv.step {t : List (List Nat)} (h : RotN t) {F : List (List Nat)} {D : List Dart} (hi : FInv t F D) {x : Dart} (hx : IsD t x) : FInv t (fstep t (F, D) x).1 (fstep t (F, D) x).2 := by
  unfold fstep
  by_cases hD : x ∈ D
  · simp only [if_pos hD]; exact hi
  · simp only [if_neg hD]
    refine trW_ind h (fun D' y f => (∀ x ∈ D', IsD t x) ∧ D'.Nodup ∧ D'.length = D.length + f.length ∧ ∀ v ∈ f, v < t.length) (fun f D' => FInv t (F ++ [f]) D') ?_ ?_ _ D x [] (Nat.le_refl _) hx ⟨hi.all, hi.nd, by simp, by simp⟩
    · rintro D' y f ⟨h1, h2, h3, h4⟩ _
      have := len_le_sq h h1 h2
      refine ⟨h1, h2, ?_, fun f' hf => ?_⟩
      · rw [List.map_append, List.sum_append, hi.sum]; simp; omega
      · rcases List.mem_append.1 hf with hf | hf
        · exact hi.small f' hf
        · simp only [List.mem_singleton] at hf
          subst hf
          exact ⟨by omega, h4⟩
    · rintro D' y f ⟨h1, h2, h3, h4⟩ hy hn
      refine ⟨fun z hz => ?_, ?_, by simp; omega, fun v hv => ?_⟩
      · rcases List.mem_append.1 hz with hz | hz
        · exact h1 z hz
        · simp at hz; rw [hz]; exact hy
      · rw [List.nodup_append]
        exact ⟨h2, by simp, fun a ha b hb => by simp at hb; subst hb; exact fun e => hn (e ▸ ha)⟩
      · rcases List.mem_append.1 hv with hv | hv
        · exact h4 v hv
        · simp at hv; rw [hv]; exact (hy.lt h).1
theorem FInv.to {t : List (List Nat)} (h : RotN t) : ∀ (L : List Dart), (∀ x ∈ L, IsD t x) → ∀ (F : List (List Nat)) (D : List Dart), FInv t F D → FInv t (L.foldl (fstep t) (F, D)).1 (L.foldl (fstep t) (F, D)).2
  | [], _, F, D, hi => hi
  | x :: L, hL, F, D, hi => by
    rw [List.foldl_cons]
    exact FInv.to h L (fun y hy => hL y (by simp [hy])) _ _ (hi.step h (hL x (by simp)))
theorem FInv.start (t : List (List Nat)) : FInv t [] [] := ⟨by simp, by simp, by simp, by simp⟩
theorem facesTo_inv {t : List (List Nat)} (h : RotN t) {L : List Dart} (hL : ∀ x ∈ L, IsD t x) : FInv t (facesTo t L).1 (facesTo t L).2 := FInv.to h L hL _ _ (FInv.start t)
/-- The sides ahead of (u, v). -/
def dartsTo (t : List (List Nat)) (u v : Nat) : List Dart := ((List.range u).flatMap fun u => (rowD t u).map fun v => (u, v)) ++ ((List.range v).filter fun v => decide (v ∈ t.getD u [])).map fun v => (u, v)
theorem dartsTo_zero (t : List (List Nat)) : dartsTo t 0 0 = [] := by simp [dartsTo]
theorem dartsTo_row (t : List (List Nat)) (u : Nat) : dartsTo t (u + 1) 0 = dartsTo t u t.length := by simp [dartsTo, List.range_succ, rowD]
theorem dartsTo_yes {t : List (List Nat)} {u v : Nat} (h : v ∈ t.getD u []) : dartsTo t u (v + 1) = dartsTo t u v ++ [(u, v)] := by simp [dartsTo, List.range_succ, List.filter_append, -List.getD_eq_getElem?_getD, h]
theorem dartsTo_no {t : List (List Nat)} {u v : Nat} (h : v ∉ t.getD u []) : dartsTo t u (v + 1) = dartsTo t u v := by simp [dartsTo, List.range_succ, List.filter_append, -List.getD_eq_getElem?_getD, h]
theorem dartsTo_all (t : List (List Nat)) : dartsTo t t.length 0 = dartsN t := by simp [dartsTo, dartsN]
theorem dartsTo_isD {t : List (List Nat)} (h : RotN t) {u v : Nat} : ∀ x ∈ dartsTo t u v, IsD t x := fun x hx => by
  rcases List.mem_append.1 hx with hx | hx
  · obtain ⟨u, hu, hx⟩ := List.mem_flatMap.1 hx
    obtain ⟨v, hv, rfl⟩ := List.mem_map.1 hx
    exact (mem_rowD h).1 hv
  · obtain ⟨v, hv, rfl⟩ := List.mem_map.1 hx
    exact of_decide_eq_true (p := v ∈ t.getD u []) (List.mem_filter.1 hv).2
/-- The same, with the row by its number. -/
def dartsAt (t : List (List Nat)) (u k : Nat) : List Dart := ((List.range u).flatMap fun u => (rowD t u).map fun v => (u, v)) ++ ((rowD t u).take k).map fun v => (u, v)
theorem dartsAt_row (t : List (List Nat)) {u k : Nat} (hk : (rowD t u).length ≤ k) : dartsAt t u k = dartsAt t (u + 1) 0 := by simp [dartsAt, List.range_succ, List.take_of_length_le hk]
theorem dartsAt_snoc (t : List (List Nat)) {u k : Nat} (hk : k < (rowD t u).length) : dartsAt t u (k + 1) = dartsAt t u k ++ [(u, (rowD t u)[k])] := by
  unfold dartsAt
  rw [List.take_succ_eq_append_getElem hk, List.map_append, List.append_assoc]
  rfl
theorem dartsAt_all (t : List (List Nat)) : dartsAt t t.length 0 = dartsN t := by simp [dartsAt, dartsN]
theorem dartsAt_zero (t : List (List Nat)) : dartsAt t 0 0 = [] := by simp [dartsAt]
theorem dartsAt_isD {t : List (List Nat)} (h : RotN t) {u k : Nat} : ∀ x ∈ dartsAt t u k, IsD t x := fun x hx => by
  rcases List.mem_append.1 hx with hx | hx
  · obtain ⟨u, hu, hx⟩ := List.mem_flatMap.1 hx
    obtain ⟨v, hv, rfl⟩ := List.mem_map.1 hx
    exact (mem_rowD h).1 hv
  · obtain ⟨v, hv, rfl⟩ := List.mem_map.1 hx
    exact (mem_rowD h).1 (List.mem_of_mem_take hv)
theorem rows_len (t : List (List Nat)) (L : List Nat) : (L.flatMap fun u => (rowD t u).map fun v => (u, v)).length ≤ L.length * t.length := by
  induction L with
  | nil => simp
  | cons u L ih =>
    rw [List.flatMap_cons, List.length_append, List.length_map, List.length_cons]
    have : (rowD t u).length ≤ t.length := by
      have := List.length_filter_le (fun v => decide (v ∈ t.getD u [])) (List.range t.length)
      simpa [rowD] using this
    rw [Nat.succ_mul]; omega
theorem faces_le (t : List (List Nat)) : ∀ (L : List Dart) (F : List (List Nat)) (D : List Dart), (L.foldl (fstep t) (F, D)).1.length ≤ F.length + L.length
  | [], F, D => by simp
  | x :: L, F, D => by
    rw [List.foldl_cons]
    have h := faces_le t L (fstep t (F, D) x).1 (fstep t (F, D) x).2
    have h2 : (fstep t (F, D) x).1.length ≤ F.length + 1 := by
      unfold fstep
      split <;> simp
    have e : ((fstep t (F, D) x).1, (fstep t (F, D) x).2) = fstep t (F, D) x := rfl
    rw [e] at h
    simp only [List.length_cons]
    omega
theorem facesAt_le {t : List (List Nat)} (h : RotN t) {u k : Nat} (hu : u ≤ t.length) : (facesTo t (dartsAt t u k)).1.length ≤ 256 + k := by
  have h1 := faces_le t (dartsAt t u k) [] []
  have h2 := rows_len t (List.range u)
  have h3 : (List.range u).length * t.length ≤ 256 := by
    rw [List.length_range]
    have := Nat.mul_le_mul hu (Nat.le_refl t.length)
    have := Nat.mul_le_mul h.le h.le
    omega
  have h4 : (dartsAt t u k).length ≤ 256 + k := by
    unfold dartsAt
    rw [List.length_append, List.length_map, List.length_take]
    omega
  unfold facesTo
  simp only [List.length_nil] at h1
  omega
theorem facesTo_le {t : List (List Nat)} (h : RotN t) {u v : Nat} (hu : u ≤ t.length) : (facesTo t (dartsTo t u v)).1.length ≤ 256 + v := by
  have h1 := faces_le t (dartsTo t u v) [] []
  have h2 := rows_len t (List.range u)
  have h3 : (List.range u).length * t.length ≤ 256 := by
    rw [List.length_range]
    have := Nat.mul_le_mul hu (Nat.le_refl t.length)
    have := Nat.mul_le_mul h.le h.le
    omega
  have h4 : (dartsTo t u v).length ≤ 256 + v := by
    unfold dartsTo
    have := List.length_filter_le (fun v => decide (v ∈ t.getD u [])) (List.range v)
    rw [List.length_range] at this
    rw [List.length_append, List.length_map]
    omega
  unfold facesTo
  simp only [List.length_nil] at h1
  omega
def itD (t : List (List Nat)) : Nat → Dart → Dart
  | 0, x => x
  | k + 1, x => itD t k (succD t x)
theorem itD_succ (t : List (List Nat)) : ∀ (k : Nat) (x : Dart), itD t (k + 1) x = succD t (itD t k x)
  | 0, _ => rfl
  | k + 1, x => by rw [itD, itD_succ t k]; rfl
theorem itD_add (t : List (List Nat)) : ∀ (k m : Nat) (x : Dart), itD t (k + m) x = itD t m (itD t k x)
  | k, 0, x => rfl
  | k, m + 1, x => by rw [← Nat.add_assoc, itD_succ, itD_add t k m, itD_succ]
theorem itD_isD {t : List (List Nat)} (h : RotN t) {x : Dart} (hx : IsD t x) : ∀ k, IsD t (itD t k x)
  | 0 => hx
  | k + 1 => by rw [itD_succ]; exact succ_isD h (itD_isD h hx k)
theorem itD_inj {t : List (List Nat)} (h : RotN t) : ∀ (k : Nat) {x y : Dart}, IsD t x → IsD t y → itD t k x = itD t k y → x = y
  | 0, _, _, _, _, e => e
  | k + 1, _, _, hx, hy, e => succ_inj h hx hy (itD_inj h k (succ_isD h hx) (succ_isD h hy) e)
/-- Every side comes back. -/
theorem itD_period {t : List (List Nat)} (h : RotN t) {x : Dart} (hx : IsD t x) : ∃ p, 0 < p ∧ itD t p x = x := by
  apply Classical.byContradiction
  intro hno
  have hnd : ((List.range 257).map fun i => itD t i x).Nodup := by
    rw [List.Nodup, List.pairwise_map]
    refine List.Pairwise.imp_of_mem ?_ List.pairwise_lt_range
    intro i j _ _ hij e
    obtain ⟨d, rfl⟩ : ∃ d, j = i + d := ⟨j - i, by omega⟩
    rw [Nat.add_comm, itD_add] at e
    exact hno ⟨d, by omega, (itD_inj h i hx (itD_isD h hx d) e).symm⟩
  have := len_le_sq h (D := (List.range 257).map fun i => itD t i x) (fun y hy => by obtain ⟨i, -, rfl⟩ := List.mem_map.1 hy; exact itD_isD h hx i) hnd
  simp at this
def Leads (t : List (List Nat)) (x y : Dart) : Prop := ∃ k, itD t k x = y
theorem Leads.refl (t : List (List Nat)) (x : Dart) : Leads t x x := ⟨0, rfl⟩
theorem Leads.trans {t : List (List Nat)} {x y z : Dart} (h : Leads t x y) (k : Leads t y z) : Leads t x z := by
  obtain ⟨i, rfl⟩ := h; obtain ⟨j, rfl⟩ := k
  exact ⟨i + j, itD_add t i j x⟩
theorem itD_mul {t : List (List Nat)} {p : Nat} {x : Dart} (h : itD t p x = x) : ∀ k, itD t (k * p) x = x
  | 0 => by rw [Nat.zero_mul]; rfl
  | k + 1 => by rw [Nat.succ_mul, itD_add, itD_mul h k, h]
theorem Leads.symm {t : List (List Nat)} (h : RotN t) {x y : Dart} (hx : IsD t x) (hl : Leads t x y) : Leads t y x := by
  obtain ⟨k, rfl⟩ := hl
  obtain ⟨p, hp, e⟩ := itD_period h hx
  have h1 : k ≤ k * p := Nat.le_mul_of_pos_right k hp
  refine ⟨k * p - k, ?_⟩
  rw [← itD_add, Nat.add_sub_cancel' h1]
  exact itD_mul e k
/-- One side of each face. -/
structure Reps (t : List (List Nat)) (S : List Dart) : Prop where
  all : ∀ s ∈ S, IsD t s
  apart : S.Pairwise fun a b => ¬ Leads t a b
  cover : ∀ y, IsD t y → ∃ s ∈ S, Leads t s y
structure RInv (t : List (List Nat)) (S D : List Dart) : Prop where
  sub : ∀ s ∈ S, s ∈ D
  apart : S.Pairwise fun a b => ¬ Leads t a b
  cover : ∀ y ∈ D, ∃ s ∈ S, Leads t s y
  closed : ∀ y ∈ D, succD t y ∈ D
  isD : ∀ y ∈ D, IsD t y
theorem RInv.leads {t : List (List Nat)} {S D : List Dart} (h : RInv t S D) {x y : Dart} (hx : x ∈ D) (hl : Leads t x y) : y ∈ D := by
  obtain ⟨k, rfl⟩ := hl
  have : ∀ k, itD t k x ∈ D := fun k => by
    induction k with
    | zero => exact hx
    | succ k ih => rw [itD_succ]; exact h.closed _ ih
  exact this k
theorem RInv.step {t : List (List Nat)} (h : RotN t) {S D : List Dart} {F : List (List Nat)} (hi : RInv t S D) (hl : S.length = F.length) {x : Dart} (hx : IsD t x) :
    ∃ S', RInv t S' (fstep t (F, D) x).2 ∧ S'.length = (fstep t (F, D) x).1.length ∧ x ∈ (fstep t (F, D) x).2 ∧ ∀ y ∈ D, y ∈ (fstep t (F, D) x).2 := by
  unfold fstep
  by_cases hD : x ∈ D
  · simp only [if_pos hD]; exact ⟨S, hi, hl, hD, fun _ h => h⟩
  · simp only [if_neg hD]
    refine trW_ind h (fun D' y f => (∃ k, y = itD t k x) ∧ (D' = D ∧ y = x ∨ x ∈ D') ∧ (∀ z ∈ D', z ∈ D ∨ Leads t x z) ∧ (∀ z ∈ D, z ∈ D') ∧ (∀ z ∈ D', succD t z ∈ D' ∨ succD t z = y) ∧ ∀ z ∈ D', IsD t z)
      (fun f D' => ∃ S', RInv t S' D' ∧ S'.length = (F ++ [f]).length ∧ x ∈ D' ∧ ∀ y ∈ D, y ∈ D') ?_ ?_ _ D x [] (Nat.le_refl _) hx
      ⟨⟨0, rfl⟩, .inl ⟨rfl, rfl⟩, fun z hz => .inl hz, fun z hz => hz, fun z hz => .inl (hi.closed z hz), hi.isD⟩
    · rintro D' y f ⟨⟨k, rfl⟩, h2, h3, h4, h5, h6⟩ hin
      have hxD : x ∈ D' := by
        rcases h2 with ⟨rfl, e⟩ | h2
        · rw [e] at hin; exact absurd hin hD
        · exact h2
      refine ⟨S ++ [x], ⟨fun s hs => ?_, ?_, fun z hz => ?_, fun z hz => ?_, h6⟩, by simp [hl], hxD, h4⟩
      · rcases List.mem_append.1 hs with hs | hs
        · exact h4 s (hi.sub s hs)
        · simp at hs; rw [hs]; exact hxD
      · rw [List.pairwise_append]
        refine ⟨hi.apart, by simp, fun a ha b hb hab => ?_⟩
        simp at hb; subst hb
        exact hD (hi.leads (hi.sub a ha) hab)
      · rcases h3 z hz with h | h
        · obtain ⟨s, hs, hl⟩ := hi.cover z h
          exact ⟨s, by simp [hs], hl⟩
        · exact ⟨x, by simp, h⟩
      · rcases h5 z hz with h | h
        · exact h
        · rw [h]; exact hin
    · rintro D' y f ⟨⟨k, rfl⟩, h2, h3, h4, h5, h6⟩ hy hn
      refine ⟨⟨k + 1, (itD_succ t k x).symm⟩, ?_, fun z hz => ?_, fun z hz => by simp [h4 z hz], fun z hz => ?_, fun z hz => ?_⟩
      · right
        rcases h2 with ⟨-, e⟩ | h2
        · rw [e]; simp
        · simp [h2]
      · rcases List.mem_append.1 hz with hz | hz
        · exact h3 z hz
        · simp at hz; right; exact ⟨k, hz.symm⟩
      · rcases List.mem_append.1 hz with hz | hz
        · left
          rcases h5 z hz with h | h
          · simp [h]
          · rw [h]; simp
        · simp at hz; subst hz
          right; rfl
      · rcases List.mem_append.1 hz with hz | hz
        · exact h6 z hz
        · simp at hz; rw [hz]; exact hy
theorem RInv.to {t : List (List Nat)} (h : RotN t) : ∀ (L : List Dart), (∀ x ∈ L, IsD t x) → ∀ (F : List (List Nat)) (S D : List Dart), RInv t S D → S.length = F.length →
    ∃ S', RInv t S' (L.foldl (fstep t) (F, D)).2 ∧ S'.length = (L.foldl (fstep t) (F, D)).1.length ∧ (∀ x ∈ L, x ∈ (L.foldl (fstep t) (F, D)).2) ∧ ∀ x ∈ D, x ∈ (L.foldl (fstep t) (F, D)).2
  | [], _, F, S, D, hi, hl => ⟨S, hi, hl, by simp, fun _ h => h⟩
  | x :: L, hL, F, S, D, hi, hl => by
    rw [List.foldl_cons]
    obtain ⟨S1, h1, h2, h3, h4⟩ := hi.step h hl (hL x (by simp))
    obtain ⟨S2, k1, k2, k3, k4⟩ := RInv.to h L (fun y hy => hL y (by simp [hy])) _ S1 _ h1 h2
    refine ⟨S2, k1, k2, fun y hy => ?_, fun y hy => k4 y (h4 y hy)⟩
    rcases List.mem_cons.1 hy with rfl | hy
    · exact k4 _ h3
    · exact k3 y hy
theorem faces_reps {t : List (List Nat)} (h : RotN t) : ∃ S, Reps t S ∧ S.length = (facesN t).length := by
  obtain ⟨S, h1, h2, h3, -⟩ := RInv.to h (dartsN t) (fun x hx => (mem_dartsN h).1 hx) [] [] [] ⟨by simp, by simp, by simp, by simp, by simp⟩ rfl
  exact ⟨S, ⟨fun s hs => h1.isD s (h1.sub s hs), h1.apart, fun y hy => h1.cover y (h3 y ((mem_dartsN h).2 hy))⟩, h2⟩
theorem faces_darts {t : List (List Nat)} (h : RotN t) : ((facesN t).map List.length).sum = (dartsN t).length := by
  have hL : ∀ x ∈ dartsN t, IsD t x := fun x hx => (mem_dartsN h).1 hx
  have hi := facesTo_inv h hL
  obtain ⟨S, h1, h2, h3, -⟩ := RInv.to h (dartsN t) hL [] [] [] ⟨by simp, by simp, by simp, by simp, by simp⟩ rfl
  have e : (facesTo t (dartsN t)).2.length = (dartsN t).length := by
    apply Nat.le_antisymm
    · exact nodup_lenA hi.nd (fun x hx => (mem_dartsN h).2 (hi.all x hx))
    · refine nodup_lenA ?_ (fun x hx => h3 x hx)
      unfold dartsN
      rw [List.Nodup, List.pairwise_flatMap]
      refine ⟨fun u _ => ?_, ?_⟩
      · rw [List.pairwise_map]
        refine List.Pairwise.imp ?_ ((List.pairwise_lt_range (n := t.length)).filter _)
        intro a b hab e
        simp at e; omega
      · refine List.Pairwise.imp ?_ (List.pairwise_lt_range (n := t.length))
        intro a b hab x hx y hy e
        obtain ⟨_, _, rfl⟩ := List.mem_map.1 hx
        obtain ⟨_, _, rfl⟩ := List.mem_map.1 hy
        simp at e; omega
  rw [← e]; exact hi.sum
/-- Where sides go to sides and faces to faces, there are no more of the first. -/
theorem reps_le {t t' : List (List Nat)} (h' : RotN t') {S S' : List Dart} (hS : Reps t S) (hS' : Reps t' S') (r : Dart → Dart) (hr : ∀ x, IsD t x → IsD t' (r x)) (hb : ∀ x y, IsD t x → IsD t y → Leads t' (r x) (r y) → Leads t x y) : S.length ≤ S'.length := by
  have key : ∀ x, ∃ y, IsD t x → y ∈ S' ∧ Leads t' y (r x) := fun x => by
    by_cases hx : IsD t x
    · obtain ⟨s, h1, h2⟩ := hS'.cover (r x) (hr x hx)
      exact ⟨s, fun _ => ⟨h1, h2⟩⟩
    · exact ⟨x, fun h => absurd h hx⟩
  obtain ⟨c, hc⟩ := Classical.axiomOfChoice key
  have hnd : (S.map c).Nodup := by
    rw [List.Nodup, List.pairwise_map]
    refine List.Pairwise.imp_of_mem ?_ hS.apart
    intro a b ha hb' hab e
    obtain ⟨h1, h2⟩ := hc a (hS.all a ha)
    obtain ⟨h3, h4⟩ := hc b (hS.all b hb')
    rw [← e] at h4
    exact hab (hb a b (hS.all a ha) (hS.all b hb') ((h2.symm h' (hS'.all _ h1)).trans h4))
  have := nodup_lenA hnd (E := S') (fun y hy => by obtain ⟨x, hx, rfl⟩ := List.mem_map.1 hy; exact (hc x (hS.all x hx)).1)
  simpa using this
/-! The mirror. -/
theorem idxOf_at {l : List Nat} (hn : l.Nodup) {i : Nat} (hi : i < l.length) : l.idxOf l[i] = i := hn.idxOf_getElem i hi
theorem next_rot1 {a : Nat} {l : List Nat} (hn : (a :: l).Nodup) {u : Nat} (hu : u ∈ a :: l) : nextIn (l ++ [a]) u = nextIn (a :: l) u := by
  have hn2 : (l ++ [a]).Nodup := by
    rw [List.nodup_append]
    obtain ⟨h1, h2⟩ := List.nodup_cons.1 hn
    exact ⟨h2, by simp, fun x hx y hy => by simp at hy; subst hy; exact fun e => h1 (e ▸ hx)⟩
  obtain ⟨i, hi, rfl⟩ := List.getElem_of_mem hu
  rw [nextIn_at hn hi, step_mod hi]
  cases i with
  | zero =>
    have e : (a :: l)[0] = (l ++ [a])[l.length]'(by simp) := by simp
    rw [e, nextIn_at hn2 (by simp), step_mod (by simp)]
    cases l with
    | nil => simp
    | cons b l => simp
  | succ i =>
    simp only [List.length_cons] at hi
    have hil : i < l.length := by omega
    have e : (a :: l)[i + 1] = (l ++ [a])[i]'(by simp; omega) := by simp [List.getElem_append_left hil]
    rw [e, nextIn_at hn2 (by simp; omega), step_mod (by simp; omega)]
    rw [if_neg (by simp; omega)]
    by_cases h : i + 1 = l.length
    · rw [if_pos (by simp; omega)]
      simp [h]
    · rw [if_neg (by simp; omega)]
      have : i + 1 < l.length := by omega
      simp [List.getElem?_append_left this]
theorem next_rot {l : List Nat} (hn : l.Nodup) {u : Nat} (hu : u ∈ l) : ∀ i, i ≤ l.length → nextIn (l.drop i ++ l.take i) u = nextIn l u
  | 0, _ => by simp
  | i + 1, hi => by
    have ih := next_rot hn hu i (by omega)
    rw [← ih]
    have e : l.drop i = l[i] :: l.drop (i + 1) := List.drop_eq_getElem_cons (by omega)
    have hp : (l.drop i ++ l.take i).Perm l := List.perm_append_comm.trans (by rw [List.take_append_drop])
    rw [e, List.cons_append]
    rw [List.take_succ_eq_append_getElem (by omega), ← List.append_assoc]
    refine next_rot1 ?_ ?_
    · rw [← List.cons_append, ← e]; exact hp.nodup_iff.2 hn
    · rw [← List.cons_append, ← e]; exact hp.mem_iff.2 hu
theorem next_rev {l : List Nat} (hn : l.Nodup) {u : Nat} (hu : u ∈ l) : nextIn l.reverse (nextIn l u) = u := by
  obtain ⟨i, hi, rfl⟩ := List.getElem_of_mem hu
  have hn2 : l.reverse.Nodup := (List.reverse_perm l).nodup_iff.2 hn
  have hp : 0 < l.length := by omega
  have hk : (i + 1) % l.length < l.length := Nat.mod_lt _ hp
  rw [nextIn_at hn hi]
  have e1 : l.getD ((i + 1) % l.length) 0 = l.reverse[l.length - 1 - (i + 1) % l.length]'(by simp; omega) := by
    rw [List.getElem_reverse]
    simp only [List.getD_eq_getElem?_getD, List.getElem?_eq_getElem hk, Option.getD_some]
    congr 1
    omega
  rw [e1, nextIn_at hn2 (by simp; omega), step_mod (by simp; omega)]
  rw [step_mod hi]
  by_cases h : i + 1 = l.length
  · rw [if_pos h, if_pos (by simp; omega)]
    have : 0 < l.reverse.length := by simpa using hp
    simp only [List.getD_eq_getElem?_getD, List.getElem?_eq_getElem this, Option.getD_some, List.getElem_reverse]
    congr 1
    omega
  · rw [if_neg h, if_neg (by simp; omega)]
    have : l.length - 1 - (i + 1) + 1 < l.reverse.length := by simp; omega
    simp only [List.getD_eq_getElem?_getD, List.getElem?_eq_getElem this, Option.getD_some, List.getElem_reverse]
    congr 1
    omega
def revD (x : Dart) : Dart := (x.2, x.1)
/-- Two systems that turn the other way round. -/
def Mir (t t' : List (List Nat)) : Prop := ∀ q p, p ∈ t.getD q [] → p ∈ t'.getD q [] ∧ nextIn (t'.getD q []) (nextIn (t.getD q []) p) = p
theorem mir_step {t t' : List (List Nat)} (h : RotN t) (hM : Mir t t') {x : Dart} (hx : IsD t x) : succD t' (revD (succD t x)) = revD x := by
  obtain ⟨p, q⟩ := x
  have := (hM q p (h.sym _ _ hx).2).2
  simp only [succD, revD, this]
theorem mir_leads {t t' : List (List Nat)} (h : RotN t) (hM : Mir t t') {x y : Dart} (hx : IsD t x) (hl : Leads t x y) : Leads t' (revD y) (revD x) := by
  obtain ⟨k, rfl⟩ := hl
  refine ⟨k, ?_⟩
  have : ∀ k x, IsD t x → itD t' k (revD (itD t k x)) = revD x := fun k => by
    induction k with
    | zero => intro x _; rfl
    | succ k ih =>
      intro x hx
      rw [itD_succ t', itD, ih _ (succ_isD h hx), mir_step h hM hx]
  exact this k x hx
theorem mir_isD {t t' : List (List Nat)} (h : RotN t) (hM : Mir t t') (x : Dart) (hx : IsD t x) : IsD t' (revD x) := (hM x.2 x.1 (h.sym _ _ hx).2).1
theorem mir_count {t t' : List (List Nat)} (h : RotN t) (h' : RotN t') (hM : Mir t t') (hM' : Mir t' t) : (facesN t).length = (facesN t').length := by
  obtain ⟨S, hS, e⟩ := faces_reps h
  obtain ⟨S', hS', e'⟩ := faces_reps h'
  rw [← e, ← e']
  apply Nat.le_antisymm
  · exact reps_le h' hS hS' revD (mir_isD h hM) (fun x y hx hy hl => mir_leads h' hM' (mir_isD h hM x hx) hl |> Leads.symm h (show IsD t (revD (revD y)) from hy))
  · exact reps_le h hS' hS revD (mir_isD h' hM') (fun x y hx hy hl => mir_leads h hM (mir_isD h' hM' x hx) hl |> Leads.symm h' (show IsD t' (revD (revD y)) from hy))
/-- The least one first. -/
def leastN (l : List Nat) : Nat := l.foldl min (l.headD 0)
def atN (l : List Nat) : Nat := l.idxOf (leastN l)
def rotL (l : List Nat) : List Nat := l.drop (atN l) ++ l.take (atN l)
theorem fold_min : ∀ (l : List Nat) (a : Nat), l.foldl min a ≤ a ∧ (∀ x ∈ l, l.foldl min a ≤ x) ∧ (l.foldl min a = a ∨ l.foldl min a ∈ l)
  | [], a => by simp
  | x :: l, a => by
    obtain ⟨h1, h2, h3⟩ := fold_min l (min a x)
    rw [List.foldl_cons]
    refine ⟨by omega, fun y hy => ?_, ?_⟩
    · rcases List.mem_cons.1 hy with rfl | hy
      · omega
      · exact h2 y hy
    · rcases h3 with h3 | h3
      · by_cases e : a ≤ x
        · left; rw [h3]; omega
        · right; rw [h3, show min a x = x by omega]; simp
      · right; simp [h3]
theorem least_mem {l : List Nat} (h : l ≠ []) : leastN l ∈ l := by
  cases l with
  | nil => exact absurd rfl h
  | cons a l =>
    unfold leastN
    rcases (fold_min (a :: l) a).2.2 with h | h
    · rw [List.headD_cons, h]; simp
    · exact h
theorem least_le {l : List Nat} {x : Nat} (h : x ∈ l) : leastN l ≤ x := (fold_min l _).2.1 x h
theorem least_eq {l : List Nat} {a : Nat} (h : a ∈ l) (h2 : ∀ x ∈ l, a ≤ x) : leastN l = a := Nat.le_antisymm (least_le h) (h2 _ (least_mem (List.ne_nil_of_mem h)))
theorem at_le (l : List Nat) : atN l ≤ l.length := List.idxOf_le_length
theorem rotL_perm (l : List Nat) : (rotL l).Perm l := List.perm_append_comm.trans (by rw [List.take_append_drop])
theorem rotL_mem {l : List Nat} {x : Nat} : x ∈ rotL l ↔ x ∈ l := (rotL_perm l).mem_iff
def mirN (t : List (List Nat)) : List (List Nat) := t.map fun l => rotL l.reverse
theorem mirN_len (t : List (List Nat)) : (mirN t).length = t.length := by simp [mirN]
theorem mirN_get (t : List (List Nat)) (u : Nat) : (mirN t).getD u [] = rotL (t.getD u []).reverse := by
  unfold mirN
  by_cases h : u < t.length
  · simp [h]
  · have : t.length ≤ u := by omega
    simp [this, rotL]
theorem mirN_mem {t : List (List Nat)} {u v : Nat} : v ∈ (mirN t).getD u [] ↔ v ∈ t.getD u [] := by rw [mirN_get, rotL_mem, List.mem_reverse]
theorem mirN_rot {t : List (List Nat)} (h : RotN t) : RotN (mirN t) :=
  ⟨by rw [mirN_len]; exact h.le, fun u => by rw [mirN_get]; exact (rotL_perm _).nodup_iff.2 ((List.reverse_perm _).nodup_iff.2 (h.nd u)), fun u v hv => by
    rw [mirN_mem] at hv ⊢; rw [mirN_len]; exact h.sym u v hv⟩
theorem mirN_mir {t : List (List Nat)} (h : RotN t) : Mir t (mirN t) := fun q p hp => ⟨mirN_mem.2 hp, by
  rw [mirN_get]
  have hr : nextIn (t.getD q []) p ∈ (t.getD q []).reverse := List.mem_reverse.2 (nextIn_mem hp)
  have := next_rot ((List.reverse_perm _).nodup_iff.2 (h.nd q)) hr _ (at_le _)
  rw [show rotL (t.getD q []).reverse = (t.getD q []).reverse.drop (atN (t.getD q []).reverse) ++ (t.getD q []).reverse.take (atN (t.getD q []).reverse) from rfl, this]
  exact next_rev (h.nd q) hp⟩
theorem mirN_mir2 {t : List (List Nat)} (h : RotN t) : Mir (mirN t) t := fun q p hp => ⟨mirN_mem.1 hp, by
  have hp' := mirN_mem.1 hp
  have hr : p ∈ (t.getD q []).reverse := List.mem_reverse.2 hp'
  rw [mirN_get]
  have := next_rot ((List.reverse_perm _).nodup_iff.2 (h.nd q)) hr _ (at_le _)
  rw [show rotL (t.getD q []).reverse = (t.getD q []).reverse.drop (atN (t.getD q []).reverse) ++ (t.getD q []).reverse.take (atN (t.getD q []).reverse) from rfl, this]
  have e := next_rev ((List.reverse_perm _).nodup_iff.2 (h.nd q)) hr
  rw [List.reverse_reverse] at e
  exact e⟩
theorem mirN_faces {t : List (List Nat)} (h : RotN t) : (facesN (mirN t)).length = (facesN t).length := (mir_count h (mirN_rot h) (mirN_mir h) (mirN_mir2 h)).symm
/-- A list that begins with its least one comes back. -/
theorem rotL_back {a : Nat} {l : List Nat} (hn : (a :: l).Nodup) (hm : ∀ x ∈ l, a ≤ x) (j : Nat) (hj : j ≤ (a :: l).length) : rotL ((a :: l).drop j ++ (a :: l).take j) = a :: l := by
  cases j with
  | zero =>
    have e1 : leastN (a :: l) = a := least_eq (by simp) (fun x hx => by rcases List.mem_cons.1 hx with rfl | hx; exact Nat.le_refl _; exact hm x hx)
    simp [rotL, atN, e1]
  | succ j =>
    obtain ⟨h1, h2⟩ := List.nodup_cons.1 hn
    simp only [List.drop_succ_cons, List.take_succ_cons]
    have e1 : leastN (l.drop j ++ a :: l.take j) = a := least_eq (by simp) (fun x hx => by
      rcases List.mem_append.1 hx with hx | hx
      · exact hm x (List.mem_of_mem_drop hx)
      · rcases List.mem_cons.1 hx with rfl | hx
        · exact Nat.le_refl _
        · exact hm x (List.mem_of_mem_take hx))
    have e2 : (l.drop j ++ a :: l.take j).idxOf a = (l.drop j).length := by
      rw [List.idxOf_append, if_neg (fun h => h1 (List.mem_of_mem_drop h))]
      simp
    unfold rotL atN
    rw [e1, e2]
    simp
theorem mir_back {a : Nat} {l : List Nat} (hn : (a :: l).Nodup) (hm : ∀ x ∈ l, a ≤ x) : rotL (rotL (a :: l).reverse).reverse = a :: l := by
  obtain ⟨i, hi, e⟩ : ∃ i, i ≤ (a :: l).length ∧ rotL (a :: l).reverse = (a :: l).reverse.drop i ++ (a :: l).reverse.take i := ⟨_, by have := at_le (a :: l).reverse; simpa using this, rfl⟩
  rw [e, List.reverse_append]
  have e2 : ((a :: l).reverse.take i).reverse = (a :: l).drop ((a :: l).length - i) := by rw [List.take_reverse]; simp
  have e3 : ((a :: l).reverse.drop i).reverse = (a :: l).take ((a :: l).length - i) := by rw [List.drop_reverse]; simp
  rw [e2, e3]
  exact rotL_back hn hm _ (by omega)
end Go.Proofs.Ytbpjbjeglcphcaa
