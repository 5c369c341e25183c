/- Odd closed walks; a queue over what numbers lead to: plain facts. -/
import Derived.Test.YthpbeiihlembnaaDoorLoopL
namespace Go.Proofs.YthpbeiihlembnaaDoor
open Go.RowKit
/-- So many steps. -/
def Wk (nb : Nat → Nat → Prop) (s : Nat) : Nat → Nat → Prop
  | 0, y => y = s
  | k + 1, y => ∃ x, Wk nb s k x ∧ nb x y
def IsD (nb : Nat → Nat → Prop) (N s : Nat) (D : Nat → Int) : Prop := ∀ y, y < N → (D y = -1 ∧ ∀ k, ¬ Wk nb s k y) ∨ ∃ k : Nat, D y = k ∧ Wk nb s k y ∧ ∀ j, j < k → ¬ Wk nb s j y
theorem wk_lt {nb : Nat → Nat → Prop} {N s : Nat} (hN : ∀ x y, x < N → nb x y → y < N) (hs : s < N) : ∀ {k y : Nat}, Wk nb s k y → y < N
  | 0, y, h => by rw [show y = s from h]; exact hs
  | k + 1, y, ⟨x, hx, hb⟩ => hN x y (wk_lt hN hs hx) hb
theorem isD_has {nb : Nat → Nat → Prop} {N s k y : Nat} {D : Nat → Int} (h : IsD nb N s D) (hy : y < N) (hw : Wk nb s k y) : 0 ≤ D y ∧ D y ≤ k := by
  rcases h y hy with ⟨-, hno⟩ | ⟨j, hj, -, hl⟩
  · exact absurd hw (hno k)
  · have : j ≤ k := by
      apply Classical.byContradiction
      intro hc
      exact hl k (by omega) hw
    omega
theorem isD_wk {nb : Nat → Nat → Prop} {N s k y : Nat} {D : Nat → Int} (h : IsD nb N s D) (hy : y < N) (e : D y = k) : Wk nb s k y := by
  rcases h y hy with ⟨h1, -⟩ | ⟨j, hj, hw, -⟩
  · omega
  · have : j = k := by omega
    subst this; exact hw
theorem isD_step {nb : Nat → Nat → Prop} {N s x y : Nat} {D : Nat → Int} (h : IsD nb N s D) (hx : x < N) (hy : y < N) (hb : nb x y) (h0 : 0 ≤ D x) : 0 ≤ D y ∧ D y ≤ D x + 1 := by
  obtain ⟨k, hk⟩ : ∃ k : Nat, D x = k := ⟨(D x).toNat, by omega⟩
  have := isD_has h hy (k := k + 1) ⟨x, isD_wk h hx hk, hb⟩
  omega
theorem isD_prev {nb : Nat → Nat → Prop} {N s k y : Nat} {D : Nat → Int} (hN : ∀ x y, x < N → nb x y → y < N) (hs : s < N) (h : IsD nb N s D) (hy : y < N) (e : D y = ((k + 1 : Nat) : Int)) : ∃ x, x < N ∧ nb x y ∧ D x = k := by
  obtain ⟨x, hx, hb⟩ := isD_wk h hy e
  have hxN := wk_lt hN hs hx
  have h1 := isD_has h hxN hx
  have h2 := isD_step h hxN hy hb h1.1
  exact ⟨x, hxN, hb, by omega⟩
/-- The queue's i-th number is at work: what it leads to in T was seen. -/
structure BQ (nb : Nat → Nat → Prop) (N s : Nat) (D : Nat → Int) (L : List Nat) (i : Nat) (T : Nat → Prop) : Prop where
  lt : ∀ x ∈ L, x < N
  mem : ∀ y, y < N → 0 ≤ D y → y ∈ L
  neg : ∀ y, y < N → y ∉ L → D y = -1
  wk : ∀ y ∈ L, ∃ k : Nat, D y = k ∧ Wk nb s k y
  st : s ∈ L ∧ D s = 0
  nd : L.Nodup
  mono : ∀ a b, a < b → b < L.length → D (L.getD a 0) ≤ D (L.getD b 0)
  near : ∀ b, b < L.length → i < L.length → D (L.getD b 0) ≤ D (L.getD i 0) + 1
  done : ∀ a, a < i → a < L.length → ∀ y, nb (L.getD a 0) y → 0 ≤ D y ∧ D y ≤ D (L.getD a 0) + 1
  at_ : i < L.length → ∀ y, T y → nb (L.getD i 0) y → 0 ≤ D y ∧ D y ≤ D (L.getD i 0) + 1
theorem BQ.start {nb : Nat → Nat → Prop} {N s : Nat} (hs : s < N) : BQ nb N s (fun y => if s = y then 0 else -1) [s] 0 (fun _ => False) := by
  refine ⟨fun x hx => by simp at hx; omega, fun y _ h0 => ?_, fun y _ hn => ?_, fun y hy => ?_, ⟨by simp, by simp⟩, by simp, fun a b h1 h2 => by simp at h2; omega, fun b hb hi => ?_, fun a ha => by omega, fun _ y h => h.elim⟩
  · by_cases e : s = y
    · simp [e]
    · simp [e] at h0
  · simp at hn
    exact if_neg (fun e => hn e.symm)
  · simp at hy
    exact ⟨0, by simp [hy], hy⟩
  · have : b = 0 := by simp at hb; omega
    subst this; omega
theorem BQ.skip {nb : Nat → Nat → Prop} {N s i y : Nat} {D : Nat → Int} {L : List Nat} {T : Nat → Prop} (h : BQ nb N s D L i T) (hy : y < N) (h0 : 0 ≤ D y) : BQ nb N s D L i (fun z => T z ∨ z = y) := by
  refine ⟨h.lt, h.mem, h.neg, h.wk, h.st, h.nd, h.mono, h.near, h.done, fun hi z hz hb => ?_⟩
  rcases hz with hz | rfl
  · exact h.at_ hi z hz hb
  · have hm := h.mem z hy h0
    obtain ⟨b, hb', rfl⟩ := List.getElem_of_mem hm
    have := h.near b hb' hi
    rw [show L.getD b 0 = L[b] by simp [hb']] at this
    exact ⟨h0, this⟩
theorem BQ.add {nb : Nat → Nat → Prop} {N s i y : Nat} {D D' : Nat → Int} {L : List Nat} {T : Nat → Prop} (h : BQ nb N s D L i T) (hi : i < L.length) (hy : y < N) (hneg : D y < 0) (hb : nb (L.getD i 0) y) (hD : ∀ z, D' z = if y = z then D (L.getD i 0) + 1 else D z) :
    BQ nb N s D' (L ++ [y]) i (fun z => T z ∨ z = y) := by
  have hyL : y ∉ L := fun hm => by
    obtain ⟨k, hk, -⟩ := h.wk y hm
    omega
  have hold : ∀ z ∈ L, D' z = D z := fun z hz => by rw [hD, if_neg (fun e => hyL (by rw [e]; exact hz))]
  have hget : ∀ a, a < L.length → D' ((L ++ [y]).getD a 0) = D (L.getD a 0) := fun a ha => by rw [getD_left ha]; exact hold _ (getD_mem ha)
  have hlast : (L ++ [y]).getD L.length 0 = y := by rw [getD_right (Nat.le_refl _)]; simp
  have hDy : D' y = D (L.getD i 0) + 1 := by rw [hD, if_pos rfl]
  have hge : ∀ z, 0 ≤ D z → D' z = D z := fun z hz => by rw [hD, if_neg (fun e => by subst e; omega)]
  refine ⟨fun x hx => ?_, fun z hz h0 => ?_, fun z hz hn => ?_, fun z hz => ?_, ?_, ?_, fun a b h1 h2 => ?_, fun b hb' hi' => ?_, fun a ha ha2 z hz => ?_, fun _ z hz hbz => ?_⟩
  · rcases List.mem_append.1 hx with hx | hx
    · exact h.lt x hx
    · simp at hx; omega
  · by_cases e : y = z
    · simp [e]
    · rw [hD, if_neg e] at h0
      exact List.mem_append_left _ (h.mem z hz h0)
  · simp at hn
    rw [hD, if_neg (fun e => hn.2 e.symm)]
    exact h.neg z hz hn.1
  · rcases List.mem_append.1 hz with hz | hz
    · rw [hold z hz]; exact h.wk z hz
    · simp at hz
      subst hz
      obtain ⟨k, hk, hw⟩ := h.wk _ (getD_mem hi)
      exact ⟨k + 1, by rw [hDy, hk]; rfl, _, hw, hb⟩
  · exact ⟨List.mem_append_left _ h.st.1, by rw [hold _ h.st.1]; exact h.st.2⟩
  · rw [List.nodup_append]
    refine ⟨h.nd, by simp, fun a ha b hb' e => ?_⟩
    simp at hb'
    subst hb'; subst e; exact hyL ha
  · simp at h2
    by_cases e : b = L.length
    · subst e
      rw [hget a h1, hlast, hDy]
      exact h.near a h1 hi
    · rw [hget a (by omega), hget b (by omega)]
      exact h.mono a b h1 (by omega)
  · simp at hb'
    rw [hget i hi]
    by_cases e : b = L.length
    · subst e
      rw [hlast, hDy]; omega
    · rw [hget b (by omega)]
      exact h.near b (by omega) hi
  · rw [getD_left (by omega)] at hz
    have := h.done a ha (by omega) z hz
    rw [hget a (by omega), hge z this.1]
    exact this
  · rw [getD_left hi] at hbz
    rw [hget i hi]
    rcases hz with hz | rfl
    · have := h.at_ hi z hz hbz
      rw [hge z this.1]; exact this
    · rw [hDy]
      obtain ⟨k, hk, -⟩ := h.wk _ (getD_mem hi)
      omega
theorem BQ.next {nb : Nat → Nat → Prop} {N s i : Nat} {D : Nat → Int} {L : List Nat} {T : Nat → Prop} (h : BQ nb N s D L i T) (hT : i < L.length → ∀ y, nb (L.getD i 0) y → T y) : BQ nb N s D L (i + 1) (fun _ => False) := by
  refine ⟨h.lt, h.mem, h.neg, h.wk, h.st, h.nd, h.mono, fun b hb hi => ?_, fun a ha ha2 y hy => ?_, fun _ y hy => hy.elim⟩
  · have h1 := h.near b hb (by omega)
    have h2 := h.mono i (i + 1) (by omega) hi
    omega
  · by_cases e : a = i
    · subst e; exact h.at_ ha2 y (hT ha2 y hy) hy
    · exact h.done a (by omega) ha2 y hy
theorem BQ.len {nb : Nat → Nat → Prop} {N s i : Nat} {D : Nat → Int} {L : List Nat} {T : Nat → Prop} (h : BQ nb N s D L i T) : L.length ≤ N := by
  have := nodup_lenA (l := L) (E := List.range N) h.nd (fun x hx => List.mem_range.2 (h.lt x hx))
  simpa using this
theorem BQ.end_ {nb : Nat → Nat → Prop} {N s : Nat} {D : Nat → Int} {L : List Nat} {T : Nat → Prop} (hN : ∀ x y, x < N → nb x y → y < N) (hs : s < N) (h : BQ nb N s D L L.length T) : IsD nb N s D := by
  have hk : ∀ k y, Wk nb s k y → 0 ≤ D y ∧ D y ≤ k := by
    intro k
    induction k with
    | zero => intro y hy; rw [show y = s from hy, h.st.2]; simp
    | succ k ih =>
      rintro y ⟨x, hx, hb⟩
      have h1 := ih x hx
      have hm := h.mem x (wk_lt hN hs hx) h1.1
      obtain ⟨a, ha, rfl⟩ := List.getElem_of_mem hm
      have e : L.getD a 0 = L[a] := by simp [ha]
      have := h.done a ha ha y (by rw [e]; exact hb)
      rw [e] at this
      omega
  intro y hy
  by_cases hm : y ∈ L
  · obtain ⟨k, h1, h2⟩ := h.wk y hm
    exact .inr ⟨k, h1, h2, fun j hj hw => by have := hk j y hw; omega⟩
  · refine .inl ⟨h.neg y hy hm, fun k hw => ?_⟩
    have := hk k y hw
    have := h.neg y hy hm
    omega
/-- A vertex at an even or odd number of steps leads to its neighbours at the other. -/
def nbO (H : List Nat) (x y : Nat) : Prop := (H.getD (x / 2) 0).testBit (y / 2) = true ∧ y % 2 = 1 - x % 2
structure CW (H : List Nat) (n : Nat) (q : List Nat) : Prop where
  lt : ∀ i, i < q.length → q.getD i 0 < n
  ch : ∀ i, i + 1 < q.length → (H.getD (q.getD i 0) 0).testBit (q.getD (i + 1) 0) = true
  cl : finN H q = true
  odd : q.length % 2 = 1
def OddN (H : List Nat) (n : Nat) (q : List Nat) : Prop := LoopN H n q ∧ q.length % 2 = 1
theorem OddN.cw {H : List Nat} {n : Nat} {q : List Nat} (h : OddN H n q) : CW H n q := ⟨fun i hi => h.1.path.lt _ (getD_mem hi), h.1.path.ch, h.1.cl, h.2⟩
theorem getD_take {q : List Nat} {k i : Nat} (h : i < k) : (q.take k).getD i 0 = q.getD i 0 := by simp [List.getD_eq_getElem?_getD, List.getElem?_take, h]
theorem getD_drop (q : List Nat) (k i : Nat) : (q.drop k).getD i 0 = q.getD (k + i) 0 := by simp [List.getD_eq_getElem?_getD, List.getElem?_drop]
/-- A closed walk that meets a vertex again holds a shorter one. -/
theorem cw_split {H : List Nat} {n i j : Nat} {q : List Nat} (h : CW H n q) (hij : i < j) (hj : j < q.length) (e : q.getD i 0 = q.getD j 0) : ∃ q', CW H n q' ∧ q'.length < q.length := by
  by_cases hp : (j - i) % 2 = 1
  · refine ⟨(q.drop i).take (j - i), ⟨fun k hk => ?_, fun k hk => ?_, ?_, ?_⟩, ?_⟩
    · simp at hk
      rw [getD_take (by omega), getD_drop]
      exact h.lt _ (by omega)
    · simp at hk
      rw [getD_take (by omega), getD_drop, getD_take (by omega), getD_drop]
      exact h.ch (i + k) (by omega)
    · have hl : ((q.drop i).take (j - i)).length = j - i := by simp; omega
      unfold finN lastN
      rw [hl, getD_take (by omega), getD_drop, getD_take (by omega), getD_drop]
      have := h.ch (j - 1) (by omega)
      rw [show j - 1 + 1 = j by omega, ← e] at this
      rw [show i + (j - i - 1) = j - 1 by omega, show i + 0 = i from rfl]
      exact this
    · have hl : ((q.drop i).take (j - i)).length = j - i := by simp; omega
      rw [hl]; exact hp
    · simp; omega
  · have hl : (q.take i ++ q.drop j).length = q.length - (j - i) := by simp; omega
    have hti : (q.take i).length = i := by simp; omega
    have hget : ∀ k, k < i → (q.take i ++ q.drop j).getD k 0 = q.getD k 0 := fun k hk => by rw [getD_left (by omega), getD_take hk]
    have hget2 : ∀ k, i ≤ k → (q.take i ++ q.drop j).getD k 0 = q.getD (j + (k - i)) 0 := fun k hk => by rw [getD_right (by omega), hti, getD_drop]
    refine ⟨q.take i ++ q.drop j, ⟨fun k hk => ?_, fun k hk => ?_, ?_, ?_⟩, by omega⟩
    · by_cases hki : k < i
      · rw [hget k hki]; exact h.lt _ (by omega)
      · rw [hget2 k (by omega)]; exact h.lt _ (by omega)
    · by_cases hki : k + 1 < i
      · rw [hget k (by omega), hget _ hki]; exact h.ch k (by omega)
      · by_cases hk1 : k + 1 = i
        · rw [hget k (by omega), hget2 _ (by omega)]
          have := h.ch k (by omega)
          rw [hk1, e] at this
          rw [show j + (k + 1 - i) = j by omega]
          exact this
        · rw [hget2 k (by omega), hget2 _ (by omega)]
          have := h.ch (j + (k - i)) (by omega)
          rw [show j + (k + 1 - i) = j + (k - i) + 1 by omega]
          exact this
    · have hcl := h.cl
      unfold finN lastN at hcl ⊢
      rw [hl, hget2 _ (by omega), show j + (q.length - (j - i) - 1 - i) = q.length - 1 by omega]
      by_cases h0 : i = 0
      · subst h0
        rw [hget2 0 (by omega), show j + (0 - 0) = j by omega, ← e]
        exact hcl
      · rw [hget 0 (by omega)]
        exact hcl
    · rw [hl]
      have := h.odd
      omega
theorem cw_least {H : List Nat} {n : Nat} {q : List Nat} (hir : ∀ x, x < n → (H.getD x 0).testBit x = false) (h : LeastG (CW H n) q) : LeastG (OddN H n) q := by
  have hno : ∀ q', CW H n q' → ¬ q'.length < q.length := fun q' hq' hl => by
    rcases h.2 q' hq' with h1 | h1 <;> omega
  have h0 : 0 < q.length := by have := h.1.odd; omega
  have hnd : q.Nodup := by
    rw [List.Nodup, List.pairwise_iff_getElem]
    intro i j hi hj hij e
    obtain ⟨q', h1, h2⟩ := cw_split h.1 hij hj (by simp [hi, hj, e])
    exact hno q' h1 h2
  have h3 : 3 ≤ q.length := by
    have hodd := h.1.odd
    apply Classical.byContradiction
    intro hc
    have h1 : q.length = 1 := by omega
    have hcl := h.1.cl
    unfold finN lastN at hcl
    rw [h1] at hcl
    have := hir _ (h.1.lt 0 h0)
    rw [this] at hcl; cases hcl
  exact ⟨⟨⟨⟨h0, fun x hx => by
    obtain ⟨i, hi, rfl⟩ := List.getElem_of_mem hx
    have := h.1.lt i hi
    rwa [show q.getD i 0 = q[i] by simp [hi]] at this, hnd, h.1.ch⟩, h3, h.1.cl⟩, h.1.odd⟩, fun q' hq' => h.2 q' hq'.cw⟩
/-- The least neighbour that is so far in the parity. -/
def stepO (H : List Nat) (D : Nat → Int) (k u : Nat) : Nat := ((bitsN (H.getD u 0)).find? fun x => decide (D (2 * x + k % 2) = (k : Int))).getD u
def oddW (H : List Nat) (D : Nat → Int) : Nat → Nat → List Nat
  | 0, _ => []
  | k + 1, u => u :: oddW H D k (stepO H D k u)
theorem odd_len (H : List Nat) (D : Nat → Int) : ∀ k u, (oddW H D k u).length = k
  | 0, _ => rfl
  | k + 1, u => by rw [oddW, List.length_cons, odd_len]
theorem stepO_spec {H : List Nat} {D : Nat → Int} {k u : Nat} (hm : H.getD u 0 < 4294967296) (h : ∃ x, (H.getD u 0).testBit x = true ∧ D (2 * x + k % 2) = k) :
    (H.getD u 0).testBit (stepO H D k u) = true ∧ D (2 * stepO H D k u + k % 2) = k ∧ ∀ x, (H.getD u 0).testBit x = true → D (2 * x + k % 2) = k → stepO H D k u ≤ x := by
  obtain ⟨x, hx, hd⟩ := h
  obtain ⟨y, h1, h2, h3, h4⟩ := find_least (p := fun x => decide (D (2 * x + k % 2) = (k : Int))) (bitsN_sorted (H.getD u 0)) ⟨x, (mem_bitsN hm).2 hx, by simpa using hd⟩
  have e : stepO H D k u = y := by rw [stepO, h2]; rfl
  rw [e]
  exact ⟨(mem_bitsN hm).1 h1, by simpa using h3, fun z hz hdz => h4 z ((mem_bitsN hm).2 hz) (by simpa using hdz)⟩
/-- What is wanted of a graph. -/
structure OI (H : List Nat) (n s : Nat) (D : Nat → Int) : Prop where
  lt : ∀ u, H.getD u 0 < 4294967296
  ltn : ∀ x y, x < n → (H.getD x 0).testBit y = true → y < n
  sym : ∀ x y, x < n → y < n → (H.getD x 0).testBit y = true → (H.getD y 0).testBit x = true
  sn : s < n
  isD : IsD (nbO H) (2 * n) (2 * s) D
theorem OI.closed {H : List Nat} {n s : Nat} {D : Nat → Int} (h : OI H n s D) : ∀ x y, x < 2 * n → nbO H x y → y < 2 * n := fun x y hx ⟨h1, h2⟩ => by
  have := h.ltn (x / 2) (y / 2) (by omega) h1
  omega
theorem OI.prev {H : List Nat} {n s k u : Nat} {D : Nat → Int} (h : OI H n s D) (hu : u < n) (e : D (2 * u + (k + 1) % 2) = ((k + 1 : Nat) : Int)) : ∃ x, x < n ∧ (H.getD u 0).testBit x = true ∧ D (2 * x + k % 2) = k := by
  obtain ⟨x, hx, ⟨h1, h2⟩, h3⟩ := isD_prev h.closed (by have := h.sn; omega) h.isD (by omega) e
  have e1 : (2 * u + (k + 1) % 2) / 2 = u := by omega
  rw [e1] at h1
  have e2 : x = 2 * (x / 2) + k % 2 := by omega
  refine ⟨x / 2, by omega, h.sym _ _ (by omega) hu h1, ?_⟩
  rw [← e2]; exact h3
structure OwI (H : List Nat) (D : Nat → Int) (s n k u : Nat) (p : List Nat) : Prop where
  lt : ∀ i, i < k → p.getD i 0 < n
  len : p.length = k
  head : p.getD 0 0 = u
  ch : ∀ i, i + 1 < k → (H.getD (p.getD i 0) 0).testBit (p.getD (i + 1) 0) = true
  last : (H.getD (lastN p) 0).testBit s = true
theorem odd_path {H : List Nat} {n s : Nat} {D : Nat → Int} (h : OI H n s D) : ∀ (k u : Nat), u < n → D (2 * u + (k + 1) % 2) = ((k + 1 : Nat) : Int) → OwI H D s n (k + 1) u (oddW H D (k + 1) u)
  | 0, u, hu, e => by
    obtain ⟨x, hx, hb, hd⟩ := h.prev hu e
    have hw := isD_wk h.isD (by omega) hd
    have : x = s := by
      have : 2 * x + 0 % 2 = 2 * s := hw
      omega
    subst this
    exact ⟨fun i hi => by
      obtain rfl : i = 0 := by omega
      exact hu, rfl, rfl, fun i hi => by omega, by simpa [oddW, lastN] using hb⟩
  | k + 1, u, hu, e => by
    obtain ⟨x, hx, hb, hd⟩ := h.prev hu e
    obtain ⟨h1, h2, h3⟩ := stepO_spec (k := k + 1) (h.lt u) ⟨x, hb, hd⟩
    have hyn := h.ltn u _ hu h1
    have ih := odd_path h k _ hyn h2
    rw [oddW]
    refine ⟨fun i hi => ?_, by simp [odd_len], rfl, fun i hi => ?_, ?_⟩
    · match i with
      | 0 => exact hu
      | i + 1 => exact ih.lt i (by omega)
    · match i with
      | 0 =>
        have := ih.head
        show (H.getD u 0).testBit ((oddW H D (k + 1) (stepO H D (k + 1) u)).getD 0 0) = true
        rw [this]; exact h1
      | i + 1 => exact ih.ch i (by omega)
    · rw [lastN_cons (by simp [odd_len])]
      exact ih.last
theorem odd_cw {H : List Nat} {n s L : Nat} {D : Nat → Int} (h : OI H n s D) (e : D (2 * s + 1) = (L : Int)) (h0 : 0 < L) : CW H n (oddW H D L s) ∧ (oddW H D L s).getD 0 0 = s := by
  have hodd : L % 2 = 1 := by
    have hw := isD_wk h.isD (by have := h.sn; omega) e
    have : ∀ k y, Wk (nbO H) (2 * s) k y → y % 2 = k % 2 := by
      intro k
      induction k with
      | zero => intro y hy; rw [show y = 2 * s from hy]; omega
      | succ k ih =>
        rintro y ⟨x, hx, -, hb⟩
        have := ih x hx
        omega
    have := this _ _ hw
    omega
  obtain ⟨k, rfl⟩ : ∃ k, L = k + 1 := ⟨L - 1, by omega⟩
  have hp := odd_path h k s h.sn (by rw [hodd]; exact e)
  refine ⟨⟨fun i hi => hp.lt i (by rw [odd_len] at hi; exact hi), fun i hi => hp.ch i (by rw [odd_len] at hi; exact hi), ?_, by rw [odd_len]; exact hodd⟩, hp.head⟩
  unfold finN
  rw [hp.head]
  exact hp.last
/-- Closed walks from s are as long at least, and not less. -/
theorem cw_far {H : List Nat} {n s : Nat} {D : Nat → Int} (h : OI H n s D) {q : List Nat} (hq : CW H n q) (hs : q.getD 0 0 = s) : ∀ i, i < q.length → 0 ≤ D (2 * q.getD i 0 + (q.length - i) % 2) ∧ D (2 * q.getD i 0 + (q.length - i) % 2) ≤ (q.length : Int) - i := by
  have h0 : 0 < q.length := by have := hq.odd; omega
  have hw : ∀ j, 1 ≤ j → j ≤ q.length → Wk (nbO H) (2 * s) j (2 * q.getD (q.length - j) 0 + j % 2) := by
    intro j
    induction j with
    | zero => intro h; omega
    | succ j ih =>
      intro _ hj
      by_cases e : j = 0
      · subst e
        refine ⟨2 * s, rfl, ?_, by omega⟩
        have hcl := hq.cl
        unfold finN lastN at hcl
        rw [hs] at hcl
        rw [Nat.zero_add, show 2 * s / 2 = s by omega, show (2 * q.getD (q.length - 1) 0 + 1 % 2) / 2 = q.getD (q.length - 1) 0 by omega]
        exact h.sym _ _ (hq.lt _ (by omega)) h.sn hcl
      · refine ⟨_, ih (by omega) (by omega), ?_, by omega⟩
        have hch := hq.ch (q.length - (j + 1)) (by omega)
        rw [show q.length - (j + 1) + 1 = q.length - j by omega] at hch
        rw [show (2 * q.getD (q.length - j) 0 + j % 2) / 2 = q.getD (q.length - j) 0 by omega, show (2 * q.getD (q.length - (j + 1)) 0 + (j + 1) % 2) / 2 = q.getD (q.length - (j + 1)) 0 by omega]
        exact h.sym _ _ (hq.lt _ (by omega)) (hq.lt _ (by omega)) hch
  intro i hi
  have hlt := hq.lt i hi
  have h1 := hw (q.length - i) (by omega) (by omega)
  rw [show q.length - (q.length - i) = i by omega] at h1
  have := isD_has h.isD (by omega) h1
  omega
theorem odd_least {H : List Nat} {n s : Nat} {D : Nat → Int} (h : OI H n s D) : ∀ (k u : Nat) (t : List Nat), u < n → D (2 * u + k % 2) = (k : Int) → t.length = k → (0 < k → t.getD 0 0 = u) → (∀ i, i < k → t.getD i 0 < n) →
      (∀ i, i + 1 < k → (H.getD (t.getD i 0) 0).testBit (t.getD (i + 1) 0) = true) → (∀ i, i < k → 0 ≤ D (2 * t.getD i 0 + (k - i) % 2) ∧ D (2 * t.getD i 0 + (k - i) % 2) ≤ (k : Int) - i) → ltN t (oddW H D k u) = false
  | 0, u, t, _, _, hl, _, _, _, _ => by
    have : t = [] := List.eq_nil_of_length_eq_zero hl
    subst this; rfl
  | k + 1, u, [], _, _, hl, _, _, _, _ => by simp at hl
  | k + 1, u, a :: t, hu, e, hl, h0, hlt, hch, hfar => by
    have ha : a = u := by simpa using h0 (by omega)
    subst ha
    rw [oddW, ltN, if_pos rfl]
    obtain ⟨x, hx, hb, hd⟩ := h.prev hu e
    obtain ⟨h1, h2, h3⟩ := stepO_spec (k := k) (h.lt a) ⟨x, hb, hd⟩
    have hl2 : t.length = k := by simpa using hl
    by_cases hk : k = 0
    · subst hk
      have : t = [] := List.eq_nil_of_length_eq_zero hl2
      subst this; rfl
    · have hy1 : t.getD 0 0 < n := hlt 1 (by omega)
      have hy2 : (H.getD a 0).testBit (t.getD 0 0) = true := hch 0 (by omega)
      have hy3 : 0 ≤ D (2 * t.getD 0 0 + (k + 1 - 1) % 2) ∧ D (2 * t.getD 0 0 + (k + 1 - 1) % 2) ≤ ((k + 1 : Nat) : Int) - (1 : Nat) := hfar 1 (by omega)
      rw [show k + 1 - 1 = k by omega] at hy3
      have hdy : D (2 * t.getD 0 0 + k % 2) = (k : Int) := by
        have hb2 : nbO H (2 * t.getD 0 0 + k % 2) (2 * a + (k + 1) % 2) := by
          refine ⟨?_, by omega⟩
          rw [show (2 * t.getD 0 0 + k % 2) / 2 = t.getD 0 0 by omega, show (2 * a + (k + 1) % 2) / 2 = a by omega]
          exact h.sym _ _ hu hy1 hy2
        have := (isD_step h.isD (by omega) (by omega) hb2 hy3.1).2
        omega
      have hle := h3 _ hy2 hdy
      by_cases e3 : t.getD 0 0 = stepO H D k a
      · refine odd_least h k _ t (by rw [← e3]; exact hy1) h2 hl2 (fun _ => e3) (fun i hi => hlt (i + 1) (by omega)) (fun i hi => hch (i + 1) (by omega)) (fun i hi => ?_)
        have h9 : 0 ≤ D (2 * t.getD i 0 + (k + 1 - (i + 1)) % 2) ∧ D (2 * t.getD i 0 + (k + 1 - (i + 1)) % 2) ≤ ((k + 1 : Nat) : Int) - ((i + 1 : Nat) : Int) := hfar (i + 1) (by omega)
        rw [show k + 1 - (i + 1) = k - i by omega] at h9
        exact ⟨h9.1, by have := h9.2; omega⟩
      · match k, t, hk, hl2, e3, hle with
        | k + 1, b :: t, _, _, e3, hle =>
          simp at e3 hle
          rw [oddW, ltN, if_neg e3]; simp; omega
/-- The walk from s is the least one from there. -/
theorem odd_from {H : List Nat} {n s : Nat} {D : Nat → Int} (h : OI H n s D) {q : List Nat} (hq : CW H n q) (hs : q.getD 0 0 = s) : ∃ L : Nat, D (2 * s + 1) = (L : Int) ∧ 0 < L ∧ leN (oddW H D L s) q := by
  have h0 : 0 < q.length := by have := hq.odd; omega
  have hf := cw_far h hq hs 0 h0
  rw [hs, show (q.length - 0) % 2 = 1 by have := hq.odd; omega] at hf
  obtain ⟨L, hL⟩ : ∃ L : Nat, D (2 * s + 1) = (L : Int) := ⟨(D (2 * s + 1)).toNat, by omega⟩
  have hL0 : 0 < L := by
    apply Classical.byContradiction
    intro hc
    have h00 : L = 0 := by omega
    subst h00
    have hw : 2 * s + 1 = 2 * s := isD_wk h.isD (by have := h.sn; omega) hL
    omega
  refine ⟨L, hL, hL0, ?_⟩
  have hle : L ≤ q.length := by omega
  by_cases e : L = q.length
  · refine .inr ⟨by rw [odd_len]; exact e, ?_⟩
    subst e
    exact odd_least h _ s q h.sn (by rw [hq.odd]; exact hL) rfl (fun _ => hs) hq.lt hq.ch (cw_far h hq hs)
  · exact .inl (by rw [odd_len]; omega)
end Go.Proofs.YthpbeiihlembnaaDoor
