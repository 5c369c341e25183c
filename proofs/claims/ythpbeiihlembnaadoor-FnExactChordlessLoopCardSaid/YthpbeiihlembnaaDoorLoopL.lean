/- The least way down distances; the least loop through an edge: plain facts. -/
import Derived.Test.YthpbeiihlembnaaDoorLoopM
import Derived.Test.YthpbeiihlembnaaDoorEarM
namespace Go.Proofs.YthpbeiihlembnaaDoor
open Go.RowKit
theorem dist_step {a : List Nat} {wi v n : Nat} {D : Nat → Int} (hI : DistI a wi v n) (h : IsDist a wi v n D) {x y : Nat} (hx : x < n) (hy : y < n) (hw : wi.testBit y = true) (hb : (a.getD x 0).testBit y = true) (h0 : 0 ≤ D x) : 0 ≤ D y ∧ D y ≤ D x + 1 := by
  rcases h x hx with ⟨e, -⟩ | ⟨k, ek, hk, -⟩
  · omega
  · have hb2 : (ballN a wi v (k + 1)).testBit y = true := (ball_succ hI k y).2 (.inr ⟨hw, x, hk, hb⟩)
    rcases h y hy with ⟨-, hno⟩ | ⟨j, ej, -, hj⟩
    · rw [hno] at hb2; cases hb2
    · have : j ≤ k + 1 := by
        apply Classical.byContradiction
        intro hc
        rw [hj (k + 1) (by omega)] at hb2; cases hb2
      omega
theorem dist_start {a : List Nat} {wi v n : Nat} {D : Nat → Int} (hI : DistI a wi v n) (h : IsDist a wi v n D) : D v = 0 := by
  rcases h v hI.v with ⟨-, hno⟩ | ⟨j, ej, -, hj⟩
  · have := hno 0; rw [ballN, testBit_bit] at this; simp at this
  · have : j = 0 := by
      apply Classical.byContradiction
      intro hc
      have := hj 0 (by omega)
      rw [ballN, testBit_bit] at this
      simp at this
    omega
theorem dist_zero {a : List Nat} {wi v n : Nat} {D : Nat → Int} (h : IsDist a wi v n D) {u : Nat} (hu : u < n) (e : D u = 0) : u = v := by
  rcases h u hu with ⟨e2, -⟩ | ⟨j, ej, hb, -⟩
  · omega
  · have : j = 0 := by omega
    subst this
    rw [ballN, testBit_bit] at hb
    simpa using (of_decide_eq_true hb).symm
theorem dist_prev {a : List Nat} {wi v n : Nat} {D : Nat → Int} (hI : DistI a wi v n) (h : IsDist a wi v n D) (hs : ∀ x y, x < n → y < n → (a.getD x 0).testBit y = true → (a.getD y 0).testBit x = true) {u k : Nat} (hu : u < n) (e : D u = ((k + 1 : Nat) : Int)) :
    ∃ x, x < n ∧ (a.getD u 0).testBit x = true ∧ D x = k := by
  rcases h u hu with ⟨e2, -⟩ | ⟨j, ej, hb, hj⟩
  · omega
  · have : j = k + 1 := by omega
    subst this
    rcases (ball_succ hI k u).1 hb with h1 | ⟨hw, x, hx, hxu⟩
    · rw [hj k (by omega)] at h1; cases h1
    · have hxn : x < n := bit_lt_of (ball_lt hI k) hx
      refine ⟨x, hxn, hs _ _ hxn hu hxu, ?_⟩
      rcases h x hxn with ⟨-, hno⟩ | ⟨i, ei, hi, hil⟩
      · rw [hno] at hx; cases hx
      · have h1 : i ≤ k := by
          apply Classical.byContradiction
          intro hc
          rw [hil k (by omega)] at hx; cases hx
        have h2 := (dist_step hI h hxn hu hw hxu (by omega)).2
        omega
theorem find_least {p : Nat → Bool} : ∀ {l : List Nat}, l.Pairwise (· < ·) → (∃ x ∈ l, p x = true) → ∃ y ∈ l, l.find? p = some y ∧ p y = true ∧ ∀ x ∈ l, p x = true → y ≤ x
  | [], _, ⟨x, hx, _⟩ => by cases hx
  | a :: l, hs, ⟨x, hx, hp⟩ => by
    by_cases ha : p a = true
    · refine ⟨a, by simp, by simp [ha], ha, fun y hy _ => ?_⟩
      rcases List.mem_cons.1 hy with rfl | hy
      · exact Nat.le_refl _
      · exact Nat.le_of_lt ((List.pairwise_cons.1 hs).1 y hy)
    · have hx2 : x ∈ l := by
        rcases List.mem_cons.1 hx with rfl | hx
        · exact absurd hp ha
        · exact hx
      obtain ⟨y, h1, h2, h3, h4⟩ := find_least (List.pairwise_cons.1 hs).2 ⟨x, hx2, hp⟩
      refine ⟨y, by simp [h1], by rw [List.find?_cons_of_neg ha]; exact h2, h3, fun z hz hpz => ?_⟩
      rcases List.mem_cons.1 hz with rfl | hz
      · exact absurd hpz ha
      · exact h4 z hz hpz
/-- The least neighbour so far away. -/
def stepN (H : List Nat) (D : Nat → Int) (k u : Nat) : Nat := ((bitsN (H.getD u 0)).find? fun x => decide (D x = (k : Int))).getD u
/-- The way down from a vertex so far away, without its end. -/
def dnN (H : List Nat) (D : Nat → Int) : Nat → Nat → List Nat
  | 0, _ => []
  | k + 1, u => u :: dnN H D k (stepN H D k u)
theorem dn_len (H : List Nat) (D : Nat → Int) : ∀ k u, (dnN H D k u).length = k
  | 0, _ => rfl
  | k + 1, u => by rw [dnN, List.length_cons, dn_len]
theorem step_spec {H : List Nat} {D : Nat → Int} {k u : Nat} (hm : H.getD u 0 < 4294967296) (h : ∃ x, (H.getD u 0).testBit x = true ∧ D x = k) : (H.getD u 0).testBit (stepN H D k u) = true ∧ D (stepN H D k u) = k ∧ ∀ x, (H.getD u 0).testBit x = true → D x = k → stepN H D k u ≤ x := by
  obtain ⟨x, hx, hd⟩ := h
  obtain ⟨y, h1, h2, h3, h4⟩ := find_least (p := fun x => decide (D x = (k : Int))) (bitsN_sorted (H.getD u 0)) ⟨x, (mem_bitsN hm).2 hx, by simpa using hd⟩
  have e : stepN H D k u = y := by rw [stepN, h2]; rfl
  rw [e]
  exact ⟨(mem_bitsN hm).1 h1, by simpa using h3, fun z hz hdz => h4 z ((mem_bitsN hm).2 hz) (by simpa using hdz)⟩
theorem PathN.cons {H : List Nat} {n u : Nat} {p : List Nat} (h : PathN H n p) (hu : u < n) (hn : u ∉ p) (hb : (H.getD u 0).testBit (p.getD 0 0) = true) : PathN H n (u :: p) := by
  refine ⟨by simp, fun x hx => ?_, List.nodup_cons.2 ⟨hn, h.nd⟩, fun i hi => ?_⟩
  · rcases List.mem_cons.1 hx with rfl | hx
    · exact hu
    · exact h.lt x hx
  · match i with
    | 0 => simpa using hb
    | i + 1 => simpa using h.ch i (by simpa using hi)
theorem lastN_cons {u : Nat} {p : List Nat} (h : 0 < p.length) : lastN (u :: p) = lastN p := by
  unfold lastN
  have e : (u :: p).length - 1 = (p.length - 1) + 1 := by simp; omega
  rw [e, List.getD_cons_succ]
structure DnI (H : List Nat) (D : Nat → Int) (v n k u : Nat) (p : List Nat) : Prop where
  path : PathN H n p
  len : p.length = k
  head : p.getD 0 0 = u
  far : ∀ i, i < k → D (p.getD i 0) = (k : Int) - i
  last : (H.getD (lastN p) 0).testBit v = true
theorem dn_path {H : List Nat} {wi v n : Nat} {D : Nat → Int} (hI : DistI H wi v n) (h : IsDist H wi v n D) (hH : ∀ u, H.getD u 0 < 4294967296) (hs : ∀ x y, x < n → y < n → (H.getD x 0).testBit y = true → (H.getD y 0).testBit x = true) :
    ∀ (k u : Nat), u < n → D u = ((k + 1 : Nat) : Int) → DnI H D v n (k + 1) u (dnN H D (k + 1) u)
  | 0, u, hu, e => by
    obtain ⟨x, hx, hb, hd⟩ := dist_prev hI h hs hu e
    have := dist_zero h hx (by simpa using hd)
    subst this
    exact ⟨PathN.one hu, rfl, rfl, fun i hi => by
      obtain rfl : i = 0 := by omega
      simpa [dnN] using e, by simpa [dnN, lastN] using hb⟩
  | k + 1, u, hu, e => by
    obtain ⟨x, hx, hb, hd⟩ := dist_prev hI h hs hu e
    obtain ⟨h1, h2, h3⟩ := step_spec (k := k + 1) (hH u) ⟨x, hb, hd⟩
    have hyn : stepN H D (k + 1) u < n := by
      have hl := hI.wide.len
      have hlt := hI.wide.lt
      exact bit_lt_of (hI.wide.lt _ (by
        by_cases e2 : u < H.length
        · rw [show H.getD u 0 = H[u] by simp [e2]]; exact List.getElem_mem e2
        · omega)) h1
    have ih := dn_path hI h hH hs k _ hyn h2
    rw [dnN]
    have hn : u ∉ dnN H D (k + 1) (stepN H D (k + 1) u) := fun hm => by
      have hf := ih.far
      have hlen := dn_len H D (k + 1) (stepN H D (k + 1) u)
      generalize dnN H D (k + 1) (stepN H D (k + 1) u) = P at hf hm hlen
      obtain ⟨i, hi, rfl⟩ := List.getElem_of_mem hm
      have hi2 : i < k + 1 := by omega
      have := hf i hi2
      rw [show P.getD i 0 = P[i] by simp [hi], e] at this
      omega
    refine ⟨ih.path.cons hu hn (by rw [ih.head]; exact h1), by simp [dn_len], rfl, fun i hi => ?_, ?_⟩
    · match i with
      | 0 => simpa using e
      | i + 1 =>
        have := ih.far i (by omega)
        simp only [List.getD_cons_succ]
        rw [this]; omega
    · rw [lastN_cons (by simp [dn_len])]
      exact ih.last
/-- No shorter way, and no way so short that is less. -/
theorem dn_least {H : List Nat} {wi v n : Nat} {D : Nat → Int} (hI : DistI H wi v n) (h : IsDist H wi v n D) (hH : ∀ u, H.getD u 0 < 4294967296) (hw : ∀ x, x < n → wi.testBit x = true) (hs : ∀ x y, x < n → y < n → (H.getD x 0).testBit y = true → (H.getD y 0).testBit x = true) :
    ∀ (k u : Nat) (t : List Nat), u < n → D u = (k : Int) → t.length = k → (0 < k → t.getD 0 0 = u) → (∀ i, i < k → t.getD i 0 < n) → (∀ i, i + 1 < k → (H.getD (t.getD i 0) 0).testBit (t.getD (i + 1) 0) = true) → (∀ i, i < k → 0 ≤ D (t.getD i 0) ∧ D (t.getD i 0) ≤ (k : Int) - i) →
      ltN t (dnN H D k u) = false
  | 0, u, t, _, _, hl, _, _, _, _ => by
    have : t = [] := List.eq_nil_of_length_eq_zero hl
    subst this; rfl
  | k + 1, u, [], _, _, hl, _, _, _, _ => by simp at hl
  | k + 1, u, a :: t, hu, e, hl, h0, hlt, hch, hfar => by
    have ha : a = u := by simpa using h0 (by omega)
    subst ha
    rw [dnN, ltN, if_pos rfl]
    obtain ⟨x, hx, hb, hd⟩ := dist_prev hI h hs hu e
    obtain ⟨h1, h2, h3⟩ := step_spec (k := k) (hH a) ⟨x, hb, hd⟩
    have hl2 : t.length = k := by simpa using hl
    by_cases hk : k = 0
    · subst hk
      have : t = [] := List.eq_nil_of_length_eq_zero hl2
      subst this; rfl
    · have hy1 := hlt 1 (by omega)
      have hy2 := hch 0 (by omega)
      have hy3 := hfar 1 (by omega)
      simp only [List.getD_cons_succ, List.getD_cons_zero] at hy1 hy2 hy3
      have hdy : D (t.getD 0 0) = (k : Int) := by
        have := (dist_step hI h hy1 hu (hw a hu) (hs _ _ hu hy1 hy2) hy3.1).2
        omega
      have hle := h3 _ hy2 hdy
      by_cases e3 : t.getD 0 0 = stepN H D k a
      · refine dn_least hI h hH hw hs k _ t (by rw [← e3]; exact hy1) h2 hl2 (fun _ => e3) (fun i hi => ?_) (fun i hi => ?_) (fun i hi => ?_)
        · simpa using hlt (i + 1) (by omega)
        · simpa using hch (i + 1) (by omega)
        · have := hfar (i + 1) (by omega)
          have e9 : (a :: t).getD (i + 1) 0 = t.getD i 0 := rfl
          rw [e9] at this
          exact ⟨this.1, by have := this.2; omega⟩
      · match k, t, hk, hl2, e3, hle with
        | k + 1, b :: t, _, _, e3, hle =>
          simp at e3 hle
          rw [dnN, ltN, if_neg e3]; simp; omega
end Go.Proofs.YthpbeiihlembnaaDoor
