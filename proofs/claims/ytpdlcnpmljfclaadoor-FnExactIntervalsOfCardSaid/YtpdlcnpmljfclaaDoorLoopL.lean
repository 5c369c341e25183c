/- The least way down distances; the least loop through an edge: plain facts. -/
import Derived.Test.YtpdlcnpmljfclaaDoorFitM
import Derived.Test.YtpdlcnpmljfclaaDoorDistM
import Derived.Test.YtpdlcnpmljfclaaDoorAroM
import Derived.Test.YtpdlcnpmljfclaaDoorEarM
namespace Go.Proofs.YtpdlcnpmljfclaaDoor
open Go.RowKit
/-- Less by the first unlike number. -/
def ltN : List Nat → List Nat → Bool
  | a :: p, b :: q => if a = b then ltN p q else decide (a < b)
  | [], _ => false
  | _ :: _, [] => false
theorem ltN_refl : ∀ p, ltN p p = false
  | [] => rfl
  | a :: p => by rw [ltN, if_pos rfl]; exact ltN_refl p
theorem ltN_anti : ∀ {p q : List Nat}, p.length = q.length → ltN p q = false → ltN q p = false → p = q
  | [], [], _, _, _ => rfl
  | [], _ :: _, h, _, _ => by simp at h
  | _ :: _, [], h, _, _ => by simp at h
  | a :: p, b :: q, hl, h, k => by
    rw [ltN] at h k
    by_cases e : a = b
    · subst e
      rw [if_pos rfl] at h k
      rw [ltN_anti (by simpa using hl) h k]
    · rw [if_neg e] at h
      rw [if_neg (fun h => e h.symm)] at k
      simp only [decide_eq_false_iff_not] at h k
      omega
theorem ltN_trans : ∀ {p q r : List Nat}, p.length = q.length → q.length = r.length → ltN q p = false → ltN r q = false → ltN r p = false
  | [], [], [], _, _, _, _ => rfl
  | a :: p, b :: q, c :: r, h1, h2, h, k => by
    rw [ltN] at h k ⊢
    by_cases e1 : b = a
    · subst e1
      rw [if_pos rfl] at h
      by_cases e2 : c = b
      · subst e2
        rw [if_pos rfl] at k ⊢
        exact ltN_trans (by simpa using h1) (by simpa using h2) h k
      · rw [if_neg e2] at k ⊢; exact k
    · rw [if_neg e1] at h
      simp only [decide_eq_false_iff_not] at h
      by_cases e2 : c = b
      · subst e2; rw [if_neg e1]; simpa using h
      · rw [if_neg e2] at k
        simp only [decide_eq_false_iff_not] at k
        rw [if_neg (by omega)]; simp; omega
  | [], _ :: _, _, h, _, _, _ => by simp at h
  | _ :: _, [], _, h, _, _, _ => by simp at h
  | [], [], _ :: _, _, h, _, _ => by simp at h
  | _ :: _, _ :: _, [], _, h, _, _ => by simp at h
theorem ltN_asym : ∀ {p q : List Nat}, ltN p q = true → ltN q p = false
  | a :: p, b :: q, h => by
    rw [ltN] at h ⊢
    by_cases e : a = b
    · subst e; rw [if_pos rfl] at h ⊢; exact ltN_asym h
    · rw [if_neg e] at h
      rw [if_neg (fun h => e h.symm)]
      simp only [decide_eq_true_eq, decide_eq_false_iff_not] at h ⊢
      omega
  | [], _, h => by simp [ltN] at h
  | _ :: _, [], h => by simp [ltN] at h
theorem ltN_app : ∀ (p s t : List Nat), ltN (p ++ s) (p ++ t) = ltN s t
  | [], s, t => rfl
  | a :: p, s, t => by rw [List.cons_append, List.cons_append, ltN, if_pos rfl]; exact ltN_app p s t
/-- Not after: by length, then by the first unlike number. -/
def leN (p q : List Nat) : Prop := p.length < q.length ∨ (p.length = q.length ∧ ltN q p = false)
theorem leN_refl (p : List Nat) : leN p p := .inr ⟨rfl, ltN_refl p⟩
theorem leN_trans {p q r : List Nat} (h : leN p q) (k : leN q r) : leN p r := by
  rcases h with h | ⟨h1, h2⟩ <;> rcases k with k | ⟨k1, k2⟩
  · exact .inl (by omega)
  · exact .inl (by omega)
  · exact .inl (by omega)
  · exact .inr ⟨by omega, ltN_trans h1 k1 h2 k2⟩
theorem leN_anti {p q : List Nat} (h : leN p q) (k : leN q p) : p = q := by
  rcases h with h | ⟨h1, h2⟩ <;> rcases k with k | ⟨k1, k2⟩
  · omega
  · omega
  · omega
  · exact ltN_anti h1 k2 h2
def lessN (p q : List Nat) : Bool := if p.length = q.length then ltN p q else decide (p.length < q.length)
theorem less_yes {p q : List Nat} (h : lessN p q = true) : leN p q := by
  unfold lessN at h
  split at h
  · rename_i e; exact .inr ⟨e, ltN_asym h⟩
  · exact .inl (by simpa using h)
theorem less_no {p q : List Nat} (h : lessN p q = false) : leN q p := by
  unfold lessN at h
  split at h
  · rename_i e; exact .inr ⟨e.symm, h⟩
  · exact .inl (by simp at h; omega)
def lastN (p : List Nat) : Nat := p.getD (p.length - 1) 0
theorem lastN_snoc (p : List Nat) (v : Nat) : lastN (p ++ [v]) = v := by simp [lastN]
def tryL (f : Nat → Option (List Nat)) : List Nat → Option (List Nat)
  | [] => none
  | v :: vs => match f v with
    | some q => some q
    | none => tryL f vs
def dfsF (cand : List Nat → List Nat) (fin : List Nat → Bool) : Nat → List Nat → Option (List Nat)
  | 0, p => if fin p = true then some p else none
  | d + 1, p => tryL (fun v => dfsF cand fin d (p ++ [v])) (cand p)
def Ext (cand : List Nat → List Nat) (fin : List Nat → Bool) : Nat → List Nat → List Nat → Prop
  | 0, p, t => t = [] ∧ fin p = true
  | d + 1, p, t => ∃ v t', t = v :: t' ∧ v ∈ cand p ∧ Ext cand fin d (p ++ [v]) t'
theorem try_none {f : Nat → Option (List Nat)} : ∀ {l : List Nat}, tryL f l = none → ∀ v ∈ l, f v = none
  | [], _, v, hv => by cases hv
  | x :: l, h, v, hv => by
    rw [tryL] at h
    split at h
    · cases h
    · rename_i e
      rcases List.mem_cons.1 hv with rfl | hv
      · exact e
      · exact try_none h v hv
theorem try_some {f : Nat → Option (List Nat)} {q : List Nat} : ∀ {l : List Nat}, l.Pairwise (· < ·) → tryL f l = some q → ∃ v ∈ l, f v = some q ∧ ∀ u ∈ l, u < v → f u = none
  | [], _, h => by cases h
  | x :: l, hs, h => by
    rw [tryL] at h
    split at h
    · rename_i e
      refine ⟨x, by simp, by rw [e]; exact h, fun u hu hlt => ?_⟩
      rcases List.mem_cons.1 hu with rfl | hu
      · omega
      · have := (List.pairwise_cons.1 hs).1 u hu
        omega
    · rename_i e
      obtain ⟨v, hv, h1, h2⟩ := try_some (List.pairwise_cons.1 hs).2 h
      refine ⟨v, by simp [hv], h1, fun u hu hlt => ?_⟩
      rcases List.mem_cons.1 hu with rfl | hu
      · exact e
      · exact h2 u hu hlt
theorem dfs_none {cand : List Nat → List Nat} {fin : List Nat → Bool} : ∀ {d : Nat} {p : List Nat}, dfsF cand fin d p = none → ∀ t, ¬ Ext cand fin d p t
  | 0, p, h, t, ht => by
    rw [dfsF, if_pos ht.2] at h
    cases h
  | d + 1, p, h, t, ht => by
    obtain ⟨v, t', rfl, hv, he⟩ := ht
    exact dfs_none (try_none h v hv) t' he
theorem dfs_some {cand : List Nat → List Nat} {fin : List Nat → Bool} (hc : ∀ p, (cand p).Pairwise (· < ·)) : ∀ {d : Nat} {p q : List Nat}, dfsF cand fin d p = some q → ∃ t, q = p ++ t ∧ Ext cand fin d p t ∧ ∀ t', Ext cand fin d p t' → ltN t' t = false
  | 0, p, q, h => by
    rw [dfsF] at h
    split at h
    · rename_i hf
      simp only [Option.some.injEq] at h
      exact ⟨[], by simp [h], ⟨rfl, hf⟩, fun t' ht' => by rw [ht'.1]; rfl⟩
    · cases h
  | d + 1, p, q, h => by
    obtain ⟨v, hv, hf, hl⟩ := try_some (hc p) h
    obtain ⟨t, rfl, he, hm⟩ := dfs_some hc hf
    refine ⟨v :: t, by simp, ⟨v, t, rfl, hv, he⟩, ?_⟩
    rintro _ ⟨u, t', rfl, hu, he'⟩
    rw [ltN]
    by_cases e : u = v
    · subst e; rw [if_pos rfl]; exact hm t' he'
    · rw [if_neg e]
      simp only [decide_eq_false_iff_not]
      intro hlt
      exact dfs_none (hl u hu hlt) t' he'
theorem try_step {f : Nat → Option (List Nat)} {ok : Nat → Bool} {l : List Nat} {k : Nat} (hk : k < l.length) :
    tryL f ((l.drop k).filter ok) = if ok l[k] = true then (match f l[k] with | some q => some q | none => tryL f ((l.drop (k + 1)).filter ok)) else tryL f ((l.drop (k + 1)).filter ok) := by
  rw [List.drop_eq_getElem_cons hk, List.filter_cons]
  split
  · rw [tryL]
  · rfl
/-- A path: different vertices, each a neighbour of the next one. -/
structure PathN (H : List Nat) (n : Nat) (p : List Nat) : Prop where
  ne : 0 < p.length
  lt : ∀ x ∈ p, x < n
  nd : p.Nodup
  ch : ∀ i, i + 1 < p.length → (H.getD (p.getD i 0) 0).testBit (p.getD (i + 1) 0) = true
def finN (H : List Nat) (p : List Nat) : Bool := (H.getD (lastN p) 0).testBit (p.getD 0 0)
structure LoopN (H : List Nat) (n : Nat) (q : List Nat) : Prop where
  path : PathN H n q
  three : 3 ≤ q.length
  cl : finN H q = true
theorem PathN.one {H : List Nat} {n v : Nat} (hv : v < n) : PathN H n [v] := ⟨by simp, fun x hx => by simp at hx; omega, by simp, fun i hi => by simp at hi⟩
theorem getD_left {p t : List Nat} {i : Nat} (h : i < p.length) : (p ++ t).getD i 0 = p.getD i 0 := by simp [List.getD_eq_getElem?_getD, List.getElem?_append_left h]
theorem getD_right {p t : List Nat} {i : Nat} (h : p.length ≤ i) : (p ++ t).getD i 0 = t.getD (i - p.length) 0 := by simp [List.getD_eq_getElem?_getD, List.getElem?_append_right h]
theorem getD_mem {p : List Nat} {i : Nat} (h : i < p.length) : p.getD i 0 ∈ p := by
  have e : p.getD i 0 = p[i] := by simp [h]
  rw [e]; exact List.getElem_mem h
theorem nodup_getD {p : List Nat} (h : p.Nodup) {i j : Nat} (hi : i < p.length) (hj : j < p.length) (e : p.getD i 0 = p.getD j 0) : i = j := by
  have e1 : p.getD i 0 = p[i] := by simp [hi]
  have e2 : p.getD j 0 = p[j] := by simp [hj]
  rw [e1, e2] at e
  rcases Nat.lt_trichotomy i j with hl | hl | hl
  · exact absurd e ((List.pairwise_iff_getElem.1 h) i j hi hj hl)
  · exact hl
  · exact absurd e.symm ((List.pairwise_iff_getElem.1 h) j i hj hi hl)
theorem PathN.snoc {H : List Nat} {n v : Nat} {p : List Nat} (h : PathN H n p) (hv : v < n) (hn : v ∉ p) (hb : (H.getD (lastN p) 0).testBit v = true) : PathN H n (p ++ [v]) := by
  refine ⟨by simp, fun x hx => ?_, ?_, fun i hi => ?_⟩
  · rcases List.mem_append.1 hx with h1 | h1
    · exact h.lt x h1
    · simp at h1; omega
  · rw [List.nodup_append]
    refine ⟨h.nd, by simp, fun a ha b hb => ?_⟩
    simp at hb
    subst hb
    intro e; subst e; exact hn ha
  · have := h.ne
    simp at hi
    by_cases e : i + 1 < p.length
    · rw [getD_left (by omega), getD_left e]; exact h.ch i e
    · have e2 : i = p.length - 1 := by omega
      rw [getD_left (by omega), getD_right (by omega)]
      have e3 : i + 1 - p.length = 0 := by omega
      rw [e3, e2]
      exact hb
theorem PathN.next {H : List Nat} {n v : Nat} {p t : List Nat} (h : PathN H n (p ++ v :: t)) (hp : 0 < p.length) : v < n ∧ v ∉ p ∧ (H.getD (lastN p) 0).testBit v = true := by
  refine ⟨h.lt v (by simp), fun hv => ?_, ?_⟩
  · have := (List.nodup_append.1 h.nd).2.2 v hv v (by simp)
    exact this rfl
  · have := h.ch (p.length - 1) (by simp; omega)
    rw [getD_left (by omega), getD_right (by omega)] at this
    have e3 : p.length - 1 + 1 - p.length = 0 := by omega
    rw [e3] at this
    simpa [lastN] using this
theorem PathN.pre {H : List Nat} {n : Nat} {p t : List Nat} (h : PathN H n (p ++ t)) (hp : 0 < p.length) : PathN H n p :=
  ⟨hp, fun x hx => h.lt x (by simp [hx]), (List.nodup_append.1 h.nd).1, fun i hi => by
    have := h.ch i (by simp; omega)
    rwa [getD_left (by omega), getD_left (by omega)] at this⟩
/-- What may follow a path. -/
def candN (H : List Nat) (far : Nat → Int) (L : Nat) (ft : List Nat → Nat → Bool) (p : List Nat) : List Nat :=
  (bitsN (andN (H.getD (lastN p) 0) (maskN p))).filter fun v => decide (0 ≤ far v) && decide (far v ≤ (L : Int) - p.length) && ft p v
theorem cand_sorted (H : List Nat) (far : Nat → Int) (L : Nat) (ft : List Nat → Nat → Bool) (p : List Nat) : (candN H far L ft p).Pairwise (· < ·) := List.Pairwise.filter _ (bitsN_sorted _)
theorem mem_cand {H : List Nat} {far : Nat → Int} {L n v : Nat} {ft : List Nat → Nat → Bool} {p : List Nat} (hH : ∀ m ∈ H, m < 2 ^ n) (hn : n ≤ 16) (hp : ∀ x ∈ p, x < n) :
    v ∈ candN H far L ft p ↔ (v < n ∧ v ∉ p ∧ (H.getD (lastN p) 0).testBit v = true) ∧ 0 ≤ far v ∧ far v ≤ (L : Int) - p.length ∧ ft p v = true := by
  have h1 : H.getD (lastN p) 0 < 2 ^ n := by
    by_cases h : lastN p < H.length
    · have e : H.getD (lastN p) 0 = H[lastN p] := by simp [h]
      rw [e]; exact hH _ (List.getElem_mem h)
    · have e : H.getD (lastN p) 0 = 0 := by simp [show H.length ≤ lastN p by omega]
      rw [e]; exact Nat.two_pow_pos n
  have h32 : (2 : Nat) ^ n < 4294967296 := pow16_lt hn
  have h2 : maskN p < 2 ^ n := maskN_lt hp
  unfold candN
  rw [List.mem_filter, mem_bitsN (Nat.lt_of_le_of_lt (andN_le _ _) (by omega)), testBit_andN (by omega) (by omega), testBit_maskN]
  simp only [Bool.and_eq_true, Bool.not_eq_true', decide_eq_false_iff_not, decide_eq_true_eq]
  constructor
  · rintro ⟨⟨a, b⟩, ⟨c, d⟩, e⟩
    exact ⟨⟨bit_lt_of h1 a, b, a⟩, c, d, e⟩
  · rintro ⟨⟨-, b, a⟩, c, d, e⟩
    exact ⟨⟨a, b⟩, ⟨c, d⟩, e⟩
theorem ext_path {H : List Nat} {far : Nat → Int} {L n : Nat} {ft : List Nat → Nat → Bool} (hH : ∀ m ∈ H, m < 2 ^ n) (hn : n ≤ 16) : ∀ {d : Nat} {p t : List Nat}, PathN H n p → Ext (candN H far L ft) (finN H) d p t →
    PathN H n (p ++ t) ∧ finN H (p ++ t) = true ∧ t.length = d ∧ ∀ i, i < d → ft (p ++ t.take i) (t.getD i 0) = true
  | 0, p, t, hp, ht => by
    obtain ⟨rfl, hf⟩ := ht
    exact ⟨by simpa using hp, by simpa using hf, rfl, fun i hi => by omega⟩
  | d + 1, p, t, hp, ht => by
    obtain ⟨v, t', rfl, hv, he⟩ := ht
    obtain ⟨⟨h1, h2, h3⟩, -, -, h4⟩ := (mem_cand hH hn hp.lt).1 hv
    obtain ⟨a, b, c, e⟩ := ext_path hH hn (hp.snoc h1 h2 h3) he
    have ea : p ++ [v] ++ t' = p ++ v :: t' := by simp
    rw [ea] at a b
    refine ⟨a, b, by simp [c], fun i hi => ?_⟩
    match i with
    | 0 => simpa using h4
    | i + 1 =>
      have := e i (by omega)
      simpa using this
theorem path_ext {H : List Nat} {far : Nat → Int} {L n : Nat} {ft : List Nat → Nat → Bool} (hH : ∀ m ∈ H, m < 2 ^ n) (hn : n ≤ 16) : ∀ {t p : List Nat}, 0 < p.length → PathN H n (p ++ t) → finN H (p ++ t) = true →
    (∀ i, i < t.length → 0 ≤ far (t.getD i 0) ∧ far (t.getD i 0) ≤ (L : Int) - (p.length + i : Nat)) → (∀ i, i < t.length → ft (p ++ t.take i) (t.getD i 0) = true) → Ext (candN H far L ft) (finN H) t.length p t
  | [], p, _, _, hf, _, _ => ⟨rfl, by simpa using hf⟩
  | v :: t, p, h0, hp, hf, hfar, hft => by
    refine ⟨v, t, rfl, (mem_cand hH hn (hp.pre h0).lt).2 ⟨hp.next h0, ?_⟩, ?_⟩
    · have h1 := hfar 0 (by simp)
      have h2 := hft 0 (by simp)
      simp at h1 h2
      exact ⟨h1.1, by omega, h2⟩
    · refine path_ext hH hn (p := p ++ [v]) (by simp) (by simpa using hp) (by simpa using hf) (fun i hi => ?_) (fun i hi => ?_)
      · have := hfar (i + 1) (by simp; omega)
        simp at this ⊢
        exact ⟨this.1, by omega⟩
      · have := hft (i + 1) (by simp; omega)
        simpa using this
/-- Around a ring no vertex is farther from the first one than the rest of the ring. -/
theorem ring_far {A : List Nat} {n wi v : Nat} {D : Nat → Int} (hI : DistI A wi v n) (hD : IsDist A wi v n D) (hw : ∀ x, x < n → wi.testBit x = true) {q : List Nat} (hlt : ∀ i, i < q.length → q.getD i 0 < n)
    (hl : (A.getD v 0).testBit (lastN q) = true) (hc : ∀ i, 0 < i → i + 1 < q.length → (A.getD (q.getD (i + 1) 0) 0).testBit (q.getD i 0) = true) :
    ∀ i, 0 < i → i < q.length → 0 ≤ D (q.getD i 0) ∧ D (q.getD i 0) ≤ (q.length : Int) - i := by
  have hball : ∀ j, 1 ≤ j → j < q.length → (ballN A wi v j).testBit (q.getD (q.length - j) 0) = true := by
    intro j
    induction j with
    | zero => intro h; omega
    | succ j ih =>
      intro _ hj
      refine (ball_succ hI j _).2 (.inr ⟨hw _ (hlt _ (by omega)), ?_⟩)
      by_cases e : j = 0
      · subst e
        exact ⟨v, by rw [ballN, testBit_bit]; simp, hl⟩
      · refine ⟨q.getD (q.length - j) 0, ih (by omega) (by omega), ?_⟩
        have := hc (q.length - (j + 1)) (by omega) (by omega)
        have e2 : q.length - (j + 1) + 1 = q.length - j := by omega
        rw [e2] at this
        exact this
  intro i h1 h2
  have hb := hball (q.length - i) (by omega) (by omega)
  have e : q.length - (q.length - i) = i := by omega
  rw [e] at hb
  rcases hD _ (hlt i h2) with ⟨-, hno⟩ | ⟨k, hk, hkb, hkl⟩
  · rw [hno] at hb; cases hb
  · have : k ≤ q.length - i := by
      apply Classical.byContradiction
      intro hc
      rw [hkl _ (by omega)] at hb; cases hb
    rw [hk]
    omega
theorem loop_far {H : List Nat} {n wi v : Nat} {D : Nat → Int} (hI : DistI H wi v n) (hD : IsDist H wi v n D) (hw : ∀ x, x < n → wi.testBit x = true) (hs : ∀ x y, x < n → y < n → (H.getD x 0).testBit y = true → (H.getD y 0).testBit x = true) {q : List Nat} (hq : LoopN H n q) (h0 : q.getD 0 0 = v) :
    ∀ i, 0 < i → i < q.length → 0 ≤ D (q.getD i 0) ∧ D (q.getD i 0) ≤ (q.length : Int) - i := by
  have h3 := hq.three
  have hlt : ∀ i, i < q.length → q.getD i 0 < n := fun i hi => hq.path.lt _ (getD_mem hi)
  refine ring_far hI hD hw hlt ?_ (fun i _ h2 => hs _ _ (hlt _ (by omega)) (hlt _ h2) (hq.path.ch i h2))
  have := hq.cl
  unfold finN at this
  rw [← h0]
  exact hs _ _ (hlt (q.length - 1) (by omega)) (hlt 0 (by omega)) this
theorem loop_len {H : List Nat} {n : Nat} {q : List Nat} (hq : PathN H n q) : q.length ≤ n := by
  have := nodup_lenA (l := q) (E := List.range n) hq.nd (fun x hx => List.mem_range.2 (hq.lt x hx))
  simpa using this
def noFit (_ : List Nat) (_ : Nat) : Bool := true
/-- No loop of a kind below a length; none of it that begins with less. -/
def NoTo (G : List Nat → Prop) (L v : Nat) : Prop := ∀ q, G q → L < q.length ∨ (L = q.length ∧ v ≤ q.getD 0 0)
def LeastG (G : List Nat → Prop) (q : List Nat) : Prop := G q ∧ ∀ q', G q' → leN q q'
theorem least_at {G : List Nat → Prop} {L v : Nat} {q : List Nat} (hno : NoTo G L v) (hq : G q) (hl : q.length = L) (h0 : q.getD 0 0 = v) (hL : 0 < L) (hm : ∀ q', G q' → q'.length = L → q'.getD 0 0 = v → ltN q' q = false) : LeastG G q := by
  refine ⟨hq, fun q' hq' => ?_⟩
  rcases hno q' hq' with h | ⟨h1, h2⟩
  · exact .inl (by omega)
  · refine .inr ⟨by omega, ?_⟩
    by_cases e : q'.getD 0 0 = v
    · exact hm q' hq' h1.symm e
    · match q', q with
      | [], _ => simp at h1; omega
      | _ :: _, [] => simp at hl; omega
      | a :: p, b :: r =>
        simp at h0 e h2
        rw [ltN, if_neg (by omega)]; simp; omega
/-- The least of a kind. -/
noncomputable def pickG (G : List Nat → Prop) : List Nat := open Classical in if h : ∃ q, LeastG G q then Classical.choose h else []
theorem pick_none {G : List Nat → Prop} (h : ∀ q, ¬ G q) : pickG G = [] := by
  unfold pickG
  rw [dif_neg]
  rintro ⟨q, hq⟩
  exact h q hq.1
theorem pick_some {G : List Nat → Prop} {q : List Nat} (h : LeastG G q) : pickG G = q := by
  unfold pickG
  rw [dif_pos ⟨q, h⟩]
  have h2 := Classical.choose_spec (⟨q, h⟩ : ∃ q, LeastG G q)
  exact leN_anti (h2.2 q h.1) (h.2 _ h2.1)
theorem dist_step {a : List Nat} {wi v n : Nat} {D : Nat → Int} (hI : DistI a wi v n) (h : IsDist a wi v n D) {x y : Nat} (hx : x < n) (hy : y < n) (hw : wi.testBit y = true) (hb : (a.getD x 0).testBit y = true) (h0 : 0 ≤ D x) : 0 ≤ D y ∧ D y ≤ D x + 1 := by
  rcases h x hx with ⟨e, -⟩ | ⟨k, ek, hk, -⟩
  · omega
  · have hb2 : (ballN a wi v (k + 1)).testBit y = true := (ball_succ hI k y).2 (.inr ⟨hw, x, hk, hb⟩)
    rcases h y hy with ⟨-, hno⟩ | ⟨j, ej, -, hj⟩
    · rw [hno] at hb2; cases hb2
    · have : j ≤ k + 1 := by
        apply Classical.byContradiction
        intro hc
        rw [hj (k + 1) (by omega)] at hb2; cases hb2
      omega
theorem dist_start {a : List Nat} {wi v n : Nat} {D : Nat → Int} (hI : DistI a wi v n) (h : IsDist a wi v n D) : D v = 0 := by
  rcases h v hI.v with ⟨-, hno⟩ | ⟨j, ej, -, hj⟩
  · have := hno 0; rw [ballN, testBit_bit] at this; simp at this
  · have : j = 0 := by
      apply Classical.byContradiction
      intro hc
      have := hj 0 (by omega)
      rw [ballN, testBit_bit] at this
      simp at this
    omega
theorem dist_zero {a : List Nat} {wi v n : Nat} {D : Nat → Int} (h : IsDist a wi v n D) {u : Nat} (hu : u < n) (e : D u = 0) : u = v := by
  rcases h u hu with ⟨e2, -⟩ | ⟨j, ej, hb, -⟩
  · omega
  · have : j = 0 := by omega
    subst this
    rw [ballN, testBit_bit] at hb
    simpa using (of_decide_eq_true hb).symm
theorem dist_prev {a : List Nat} {wi v n : Nat} {D : Nat → Int} (hI : DistI a wi v n) (h : IsDist a wi v n D) (hs : ∀ x y, x < n → y < n → (a.getD x 0).testBit y = true → (a.getD y 0).testBit x = true) {u k : Nat} (hu : u < n) (e : D u = ((k + 1 : Nat) : Int)) :
    ∃ x, x < n ∧ (a.getD u 0).testBit x = true ∧ D x = k := by
  rcases h u hu with ⟨e2, -⟩ | ⟨j, ej, hb, hj⟩
  · omega
  · have : j = k + 1 := by omega
    subst this
    rcases (ball_succ hI k u).1 hb with h1 | ⟨hw, x, hx, hxu⟩
    · rw [hj k (by omega)] at h1; cases h1
    · have hxn : x < n := bit_lt_of (ball_lt hI k) hx
      refine ⟨x, hxn, hs _ _ hxn hu hxu, ?_⟩
      rcases h x hxn with ⟨-, hno⟩ | ⟨i, ei, hi, hil⟩
      · rw [hno] at hx; cases hx
      · have h1 : i ≤ k := by
          apply Classical.byContradiction
          intro hc
          rw [hil k (by omega)] at hx; cases hx
        have h2 := (dist_step hI h hxn hu hw hxu (by omega)).2
        omega
theorem find_least {p : Nat → Bool} : ∀ {l : List Nat}, l.Pairwise (· < ·) → (∃ x ∈ l, p x = true) → ∃ y ∈ l, l.find? p = some y ∧ p y = true ∧ ∀ x ∈ l, p x = true → y ≤ x
  | [], _, ⟨x, hx, _⟩ => by cases hx
  | a :: l, hs, ⟨x, hx, hp⟩ => by
    by_cases ha : p a = true
    · refine ⟨a, by simp, by simp [ha], ha, fun y hy _ => ?_⟩
      rcases List.mem_cons.1 hy with rfl | hy
      · exact Nat.le_refl _
      · exact Nat.le_of_lt ((List.pairwise_cons.1 hs).1 y hy)
    · have hx2 : x ∈ l := by
        rcases List.mem_cons.1 hx with rfl | hx
        · exact absurd hp ha
        · exact hx
      obtain ⟨y, h1, h2, h3, h4⟩ := find_least (List.pairwise_cons.1 hs).2 ⟨x, hx2, hp⟩
      refine ⟨y, by simp [h1], by rw [List.find?_cons_of_neg ha]; exact h2, h3, fun z hz hpz => ?_⟩
      rcases List.mem_cons.1 hz with rfl | hz
      · exact absurd hpz ha
      · exact h4 z hz hpz
/-- The least neighbour so far away. -/
def stepN (H : List Nat) (D : Nat → Int) (k u : Nat) : Nat := ((bitsN (H.getD u 0)).find? fun x => decide (D x = (k : Int))).getD u
/-- The way down from a vertex so far away, without its end. -/
def dnN (H : List Nat) (D : Nat → Int) : Nat → Nat → List Nat
  | 0, _ => []
  | k + 1, u => u :: dnN H D k (stepN H D k u)
theorem dn_len (H : List Nat) (D : Nat → Int) : ∀ k u, (dnN H D k u).length = k
  | 0, _ => rfl
  | k + 1, u => by rw [dnN, List.length_cons, dn_len]
theorem step_spec {H : List Nat} {D : Nat → Int} {k u : Nat} (hm : H.getD u 0 < 4294967296) (h : ∃ x, (H.getD u 0).testBit x = true ∧ D x = k) : (H.getD u 0).testBit (stepN H D k u) = true ∧ D (stepN H D k u) = k ∧ ∀ x, (H.getD u 0).testBit x = true → D x = k → stepN H D k u ≤ x := by
  obtain ⟨x, hx, hd⟩ := h
  obtain ⟨y, h1, h2, h3, h4⟩ := find_least (p := fun x => decide (D x = (k : Int))) (bitsN_sorted (H.getD u 0)) ⟨x, (mem_bitsN hm).2 hx, by simpa using hd⟩
  have e : stepN H D k u = y := by rw [stepN, h2]; rfl
  rw [e]
  exact ⟨(mem_bitsN hm).1 h1, by simpa using h3, fun z hz hdz => h4 z ((mem_bitsN hm).2 hz) (by simpa using hdz)⟩
theorem PathN.cons {H : List Nat} {n u : Nat} {p : List Nat} (h : PathN H n p) (hu : u < n) (hn : u ∉ p) (hb : (H.getD u 0).testBit (p.getD 0 0) = true) : PathN H n (u :: p) := by
  refine ⟨by simp, fun x hx => ?_, List.nodup_cons.2 ⟨hn, h.nd⟩, fun i hi => ?_⟩
  · rcases List.mem_cons.1 hx with rfl | hx
    · exact hu
    · exact h.lt x hx
  · match i with
    | 0 => simpa using hb
    | i + 1 => simpa using h.ch i (by simpa using hi)
theorem lastN_cons {u : Nat} {p : List Nat} (h : 0 < p.length) : lastN (u :: p) = lastN p := by
  unfold lastN
  have e : (u :: p).length - 1 = (p.length - 1) + 1 := by simp; omega
  rw [e, List.getD_cons_succ]
structure DnI (H : List Nat) (D : Nat → Int) (v n k u : Nat) (p : List Nat) : Prop where
  path : PathN H n p
  len : p.length = k
  head : p.getD 0 0 = u
  far : ∀ i, i < k → D (p.getD i 0) = (k : Int) - i
  last : (H.getD (lastN p) 0).testBit v = true
theorem dn_path {H : List Nat} {wi v n : Nat} {D : Nat → Int} (hI : DistI H wi v n) (h : IsDist H wi v n D) (hH : ∀ u, H.getD u 0 < 4294967296) (hs : ∀ x y, x < n → y < n → (H.getD x 0).testBit y = true → (H.getD y 0).testBit x = true) :
    ∀ (k u : Nat), u < n → D u = ((k + 1 : Nat) : Int) → DnI H D v n (k + 1) u (dnN H D (k + 1) u)
  | 0, u, hu, e => by
    obtain ⟨x, hx, hb, hd⟩ := dist_prev hI h hs hu e
    have := dist_zero h hx (by simpa using hd)
    subst this
    exact ⟨PathN.one hu, rfl, rfl, fun i hi => by
      obtain rfl : i = 0 := by omega
      simpa [dnN] using e, by simpa [dnN, lastN] using hb⟩
  | k + 1, u, hu, e => by
    obtain ⟨x, hx, hb, hd⟩ := dist_prev hI h hs hu e
    obtain ⟨h1, h2, h3⟩ := step_spec (k := k + 1) (hH u) ⟨x, hb, hd⟩
    have hyn : stepN H D (k + 1) u < n := by
      have hl := hI.wide.len
      have hlt := hI.wide.lt
      exact bit_lt_of (hI.wide.lt _ (by
        by_cases e2 : u < H.length
        · rw [show H.getD u 0 = H[u] by simp [e2]]; exact List.getElem_mem e2
        · omega)) h1
    have ih := dn_path hI h hH hs k _ hyn h2
    rw [dnN]
    have hn : u ∉ dnN H D (k + 1) (stepN H D (k + 1) u) := fun hm => by
      have hf := ih.far
      have hlen := dn_len H D (k + 1) (stepN H D (k + 1) u)
      generalize dnN H D (k + 1) (stepN H D (k + 1) u) = P at hf hm hlen
      obtain ⟨i, hi, rfl⟩ := List.getElem_of_mem hm
      have hi2 : i < k + 1 := by omega
      have := hf i hi2
      rw [show P.getD i 0 = P[i] by simp [hi], e] at this
      omega
    refine ⟨ih.path.cons hu hn (by rw [ih.head]; exact h1), by simp [dn_len], rfl, fun i hi => ?_, ?_⟩
    · match i with
      | 0 => simpa using e
      | i + 1 =>
        have := ih.far i (by omega)
        simp only [List.getD_cons_succ]
        rw [this]; omega
    · rw [lastN_cons (by simp [dn_len])]
      exact ih.last
/-- No shorter way, and no way so short that is less. -/
theorem dn_least {H : List Nat} {wi v n : Nat} {D : Nat → Int} (hI : DistI H wi v n) (h : IsDist H wi v n D) (hH : ∀ u, H.getD u 0 < 4294967296) (hw : ∀ x, x < n → wi.testBit x = true) (hs : ∀ x y, x < n → y < n → (H.getD x 0).testBit y = true → (H.getD y 0).testBit x = true) :
    ∀ (k u : Nat) (t : List Nat), u < n → D u = (k : Int) → t.length = k → (0 < k → t.getD 0 0 = u) → (∀ i, i < k → t.getD i 0 < n) → (∀ i, i + 1 < k → (H.getD (t.getD i 0) 0).testBit (t.getD (i + 1) 0) = true) → (∀ i, i < k → 0 ≤ D (t.getD i 0) ∧ D (t.getD i 0) ≤ (k : Int) - i) →
      ltN t (dnN H D k u) = false
  | 0, u, t, _, _, hl, _, _, _, _ => by
    have : t = [] := List.eq_nil_of_length_eq_zero hl
    subst this; rfl
  | k + 1, u, [], _, _, hl, _, _, _, _ => by simp at hl
  | k + 1, u, a :: t, hu, e, hl, h0, hlt, hch, hfar => by
    have ha : a = u := by simpa using h0 (by omega)
    subst ha
    rw [dnN, ltN, if_pos rfl]
    obtain ⟨x, hx, hb, hd⟩ := dist_prev hI h hs hu e
    obtain ⟨h1, h2, h3⟩ := step_spec (k := k) (hH a) ⟨x, hb, hd⟩
    have hl2 : t.length = k := by simpa using hl
    by_cases hk : k = 0
    · subst hk
      have : t = [] := List.eq_nil_of_length_eq_zero hl2
      subst this; rfl
    · have hy1 := hlt 1 (by omega)
      have hy2 := hch 0 (by omega)
      have hy3 := hfar 1 (by omega)
      simp only [List.getD_cons_succ, List.getD_cons_zero] at hy1 hy2 hy3
      have hdy : D (t.getD 0 0) = (k : Int) := by
        have := (dist_step hI h hy1 hu (hw a hu) (hs _ _ hu hy1 hy2) hy3.1).2
        omega
      have hle := h3 _ hy2 hdy
      by_cases e3 : t.getD 0 0 = stepN H D k a
      · refine dn_least hI h hH hw hs k _ t (by rw [← e3]; exact hy1) h2 hl2 (fun _ => e3) (fun i hi => ?_) (fun i hi => ?_) (fun i hi => ?_)
        · simpa using hlt (i + 1) (by omega)
        · simpa using hch (i + 1) (by omega)
        · have := hfar (i + 1) (by omega)
          have e9 : (a :: t).getD (i + 1) 0 = t.getD i 0 := rfl
          rw [e9] at this
          exact ⟨this.1, by have := this.2; omega⟩
      · match k, t, hk, hl2, e3, hle with
        | k + 1, b :: t, _, _, e3, hle =>
          simp at e3 hle
          rw [dnN, ltN, if_neg e3]; simp; omega
end Go.Proofs.YtpdlcnpmljfclaaDoor
