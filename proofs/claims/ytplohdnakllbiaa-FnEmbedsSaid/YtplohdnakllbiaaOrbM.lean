/- Orbits: plain facts of the search for automorphisms. -/
import Derived.Test.YtplohdnakllbiaaSym
namespace Go.Proofs.Ytplohdnakllbiaa
open Go.RowKit
variable {σ : Type}
def allF (H Q : List Nat) : Nat → List Nat → List (List Nat)
  | 0, p => [p]
  | d + 1, p => (List.range H.length).flatMap fun v => if okB H Q p v = true then allF H Q d (p ++ [v]) else []
theorem loopS_fold {f : Nat → σ → σ × Bool} {A : Nat → List (List Nat)} {h : σ → List Nat → σ} (l : List Nat) (hf : ∀ v s, f v s = ((A v).foldl h s, false)) : ∀ s, loopS f l s = ((l.flatMap A).foldl h s, false) := by
  induction l with
  | nil => intro s; simp [loopS]
  | cons v l ih =>
    intro s
    rw [loopS, hf]
    simp only [Bool.false_eq_true, if_false]
    rw [ih, List.flatMap_cons, List.foldl_append]
theorem srch_fold (H Q : List Nat) (h : List Nat → σ → σ) : ∀ (d : Nat) (p : List Nat) (s : σ), srchF H Q (fun p s => (h p s, false)) d p s = ((allF H Q d p).foldl (fun s q => h q s) s, false)
  | 0, p, s => by simp [srchF, allF]
  | d + 1, p, s => by
    rw [srchF, allF]
    refine loopS_fold _ (fun v s => ?_) s
    by_cases hok : okB H Q p v = true
    · simp only [hok, if_true]; exact srch_fold H Q h d _ s
    · simp only [hok, if_false, Bool.false_eq_true]; rfl
theorem loopS_head {f : Nat → Option (List Nat) → Option (List Nat) × Bool} {A : Nat → List (List Nat)} (l : List Nat) (hf : ∀ v, f v none = ((A v).head?, !(A v).isEmpty)) : loopS f l none = ((l.flatMap A).head?, !(l.flatMap A).isEmpty) := by
  induction l with
  | nil => simp [loopS]
  | cons v l ih =>
    rw [loopS, hf, List.flatMap_cons]
    cases hA : A v with
    | nil => simpa using ih
    | cons a t => simp
theorem srch_head (H Q : List Nat) : ∀ (d : Nat) (p : List Nat), srchF H Q fitEf d p none = ((allF H Q d p).head?, !(allF H Q d p).isEmpty)
  | 0, p => by simp [srchF, allF, fitEf]
  | d + 1, p => by
    rw [srchF, allF]
    refine loopS_head _ fun v => ?_
    by_cases hok : okB H Q p v = true
    · simp only [hok, if_true]; exact srch_head H Q d _
    · simp only [hok, if_false, Bool.false_eq_true]; rfl
theorem getD_snocN {p : List Nat} {v : Nat} : (p ++ [v]).getD p.length 0 = v := by simp
theorem mem_allF {H Q : List Nat} : ∀ {d : Nat} {p q : List Nat}, q ∈ allF H Q d p ↔ q.length = p.length + d ∧ q.take p.length = p ∧ ∀ i, p.length ≤ i → i < q.length → q.getD i 0 < H.length ∧ okB H Q (q.take i) (q.getD i 0) = true
  | 0, p, q => by
    rw [allF, List.mem_singleton]
    constructor
    · rintro rfl; exact ⟨rfl, List.take_length, fun i h1 h2 => by omega⟩
    · rintro ⟨h1, h2, -⟩
      rw [List.take_of_length_le (by omega)] at h2; exact h2
  | d + 1, p, q => by
    rw [allF, List.mem_flatMap]
    constructor
    · rintro ⟨v, hv, hq⟩
      rw [List.mem_range] at hv
      by_cases hok : okB H Q p v = true
      · rw [if_pos hok] at hq
        obtain ⟨h1, h2, h3⟩ := mem_allF.1 hq
        rw [List.length_append, List.length_singleton] at h1 h2 h3
        have hp : q.take p.length = p := by
          have := congrArg (List.take p.length) h2
          rw [List.take_take, Nat.min_eq_left (by omega), List.take_left] at this
          exact this
        have hg : q.getD p.length 0 = v := by
          have : (q.take (p.length + 1)).getD p.length 0 = v := by rw [h2]; exact getD_snocN
          rw [← this, List.getD_eq_getElem?_getD, List.getD_eq_getElem?_getD, List.getElem?_take, if_pos (by omega)]
        refine ⟨by omega, hp, fun i hi1 hi2 => ?_⟩
        by_cases e : i = p.length
        · subst e; rw [hg, hp]; exact ⟨hv, hok⟩
        · exact h3 i (by omega) hi2
      · rw [if_neg hok] at hq; simp at hq
    · rintro ⟨h1, h2, h3⟩
      have h4 := h3 p.length (Nat.le_refl _) (by omega)
      rw [h2] at h4
      refine ⟨q.getD p.length 0, List.mem_range.2 h4.1, ?_⟩
      rw [if_pos h4.2, mem_allF]
      rw [List.length_append, List.length_singleton]
      refine ⟨by omega, ?_, fun i hi1 hi2 => h3 i (by omega) hi2⟩
      have hlt : p.length < q.length := by omega
      rw [List.take_succ_eq_append_getElem hlt, h2]
      congr 1
      simp [hlt]
theorem okB_take {H Q q : List Nat} {i x : Nat} (hi : i ≤ q.length) : okB H Q (q.take i) x = true ↔ ∀ j, j < i → x ≠ q.getD j 0 ∧ (H.getD x 0).testBit (q.getD j 0) = (Q.getD i 0).testBit j := by
  have hl : (q.take i).length = i := by rw [List.length_take]; omega
  have hg : ∀ j, j < i → (q.take i).getD j 0 = q.getD j 0 := fun j hj => by
    rw [List.getD_eq_getElem?_getD, List.getD_eq_getElem?_getD, List.getElem?_take, if_pos hj]
  rw [okB, fitTo, hl, Bool.and_eq_true, List.all_eq_true]
  have hm : x ∈ q.take i ↔ ∃ j, j < i ∧ q.getD j 0 = x := by
    constructor
    · intro h
      obtain ⟨j, hj, he⟩ := List.getElem_of_mem h
      have hj2 : j < i := by omega
      refine ⟨j, hj2, ?_⟩
      rw [← hg j hj2, List.getD_eq_getElem?_getD, List.getElem?_eq_getElem hj]; exact he
    · rintro ⟨j, hj, rfl⟩
      rw [← hg j hj]
      have : j < (q.take i).length := by omega
      have e : (q.take i).getD j 0 = (q.take i)[j] := by rw [List.getD_eq_getElem?_getD, List.getElem?_eq_getElem this]; rfl
      rw [e]; exact List.getElem_mem _
  constructor
  · rintro ⟨h1, h2⟩ j hj
    have h3 := h2 j (List.mem_range.2 hj)
    rw [hg j hj, beq_iff_eq] at h3
    refine ⟨fun e => ?_, h3⟩
    have : ¬ x ∈ q.take i := by simpa using h1
    exact this (hm.2 ⟨j, hj, e.symm⟩)
  · intro h
    refine ⟨?_, fun j hj => ?_⟩
    · have : ¬ x ∈ q.take i := fun hx => by
        obtain ⟨j, hj, e⟩ := hm.1 hx
        exact (h j hj).1 e.symm
      simpa using this
    · have hj := List.mem_range.1 hj
      rw [hg j hj, beq_iff_eq]; exact (h j hj).2
/-- A map of the first n numbers that is one to one and keeps a relation's pairs. -/
def AutS (H Q : List Nat) (n : Nat) (f : Nat → Nat) : Prop := ∀ i, i < n → f i < H.length ∧ ∀ j, j < i → f i ≠ f j ∧ (H.getD (f i) 0).testBit (f j) = (Q.getD i 0).testBit j
theorem all0 {H Q : List Nat} {n : Nat} {q : List Nat} : q ∈ allF H Q n [] ↔ q.length = n ∧ AutS H Q n (fun i => q.getD i 0) := by
  rw [mem_allF]
  simp only [List.length_nil, Nat.zero_add, List.take_zero, true_and, Nat.zero_le, forall_const]
  constructor
  · rintro ⟨h1, h2⟩
    refine ⟨h1, fun i hi => ⟨(h2 i (by omega)).1, fun j hj => ?_⟩⟩
    exact (okB_take (by omega)).1 (h2 i (by omega)).2 j hj
  · rintro ⟨h1, h2⟩
    refine ⟨h1, fun i hi => ⟨(h2 i (by omega)).1, (okB_take (by omega)).2 fun j hj => ?_⟩⟩
    exact (h2 i (by omega)).2 j hj
theorem all1 {H Q : List Nat} {d u : Nat} {q : List Nat} (hu : u < H.length) : q ∈ allF H Q d [u] ↔ q.length = d + 1 ∧ q.getD 0 0 = u ∧ AutS H Q (d + 1) (fun i => q.getD i 0) := by
  rw [mem_allF]
  simp only [List.length_singleton]
  have ht : ∀ q : List Nat, q.length = 1 + d → (q.take 1 = [u] ↔ q.getD 0 0 = u) := fun q hq => by
    cases q with
    | nil => simp at hq; omega
    | cons a t => simp
  constructor
  · rintro ⟨h1, h2, h3⟩
    have h0 := (ht q h1).1 h2
    refine ⟨by omega, h0, fun i hi => ?_⟩
    by_cases e : i = 0
    · subst e; exact ⟨by show q.getD 0 0 < H.length; rw [h0]; exact hu, fun j hj => by omega⟩
    · exact ⟨(h3 i (by omega) (by omega)).1, fun j hj => (okB_take (by omega)).1 (h3 i (by omega) (by omega)).2 j hj⟩
  · rintro ⟨h1, h2, h3⟩
    refine ⟨by omega, (ht q (by omega)).2 h2, fun i hi1 hi2 => ⟨(h3 i (by omega)).1, (okB_take (by omega)).2 fun j hj => (h3 i (by omega)).2 j hj⟩⟩
def SymH (H : List Nat) : Prop := ∀ x y, x < H.length → y < H.length → (H.getD x 0).testBit y = (H.getD y 0).testBit x
def AutF (H : List Nat) (E : Nat → Nat → Bool) (n : Nat) (f : Nat → Nat) : Prop := (∀ i, i < n → f i < H.length) ∧ ∀ i j, i < n → j < n → i ≠ j → f i ≠ f j ∧ (H.getD (f i) 0).testBit (f j) = E i j
theorem aut_full {H Q : List Nat} {E : Nat → Nat → Bool} {n : Nat} {f : Nat → Nat} (hs : SymH H) (hE : ∀ i j, i < n → j < i → (Q.getD i 0).testBit j = E i j) (hEs : ∀ i j, i < n → j < n → E i j = E j i) : AutS H Q n f ↔ AutF H E n f := by
  constructor
  · intro h
    refine ⟨fun i hi => (h i hi).1, fun i j hi hj hne => ?_⟩
    rcases Nat.lt_or_gt_of_ne hne with hlt | hlt
    · have h1 := (h j hj).2 i hlt
      exact ⟨fun e => h1.1 e.symm, by rw [hs _ _ (h i hi).1 (h j hj).1, h1.2, hE j i hj hlt, hEs j i hj hi]⟩
    · have h1 := (h i hi).2 j hlt
      exact ⟨h1.1, by rw [h1.2, hE i j hi hlt]⟩
  · rintro ⟨h1, h2⟩ i hi
    exact ⟨h1 i hi, fun j hj => ⟨(h2 i j hi (by omega) (by omega)).1, by rw [(h2 i j hi (by omega) (by omega)).2, hE i j hi hj]⟩⟩
/-- The order that puts v first. -/
def ordV (v i : Nat) : Nat := if i = 0 then v else if i ≤ v then i - 1 else i
def posV (v x : Nat) : Nat := if x = v then 0 else if x < v then x + 1 else x
theorem ord_pos {v x : Nat} : ordV v (posV v x) = x := by unfold ordV posV; split <;> (try split) <;> (try split) <;> (try split) <;> omega
theorem pos_ord {v i : Nat} : posV v (ordV v i) = i := by unfold ordV posV; split <;> (try split) <;> (try split) <;> (try split) <;> omega
theorem ord_lt {v i n : Nat} (hv : v < n) (hi : i < n) : ordV v i < n := by unfold ordV; split <;> (try split) <;> omega
theorem pos_lt {v i n : Nat} (hv : v < n) (hi : i < n) : posV v i < n := by unfold posV; split <;> (try split) <;> omega
theorem getD_mapR {n i : Nat} (f : Nat → Nat) (hi : i < n) : ((List.range n).map f).getD i 0 = f i := by simp [hi]
/-- Is there an automorphism that takes v to u? -/
def movesB (H : List Nat) (u v : Nat) : Bool := (allF H H H.length []).any fun q => q.getD v 0 == u
theorem moves_iff {H Q : List Nat} {u v d : Nat} (hs : SymH H) (hn : H.length = d + 1) (hu : u < H.length) (hv : v < H.length) (hQ : ∀ i j, i < H.length → j < i → (Q.getD i 0).testBit j = (H.getD (ordV v i) 0).testBit (ordV v j)) : (allF H Q d [u]).isEmpty = !movesB H u v := by
  have hH : ∀ i j, i < H.length → j < i → (H.getD i 0).testBit j = (fun i j => (H.getD i 0).testBit j) i j := fun _ _ _ _ => rfl
  have hHs : ∀ i j, i < H.length → j < H.length → (fun i j => (H.getD i 0).testBit j) i j = (fun i j => (H.getD i 0).testBit j) j i := fun i j hi hj => hs i j hi hj
  have hOs : ∀ i j, i < H.length → j < H.length → (fun i j => (H.getD (ordV v i) 0).testBit (ordV v j)) i j = (fun i j => (H.getD (ordV v i) 0).testBit (ordV v j)) j i := fun i j hi hj => hs _ _ (ord_lt hv hi) (ord_lt hv hj)
  have key : (∃ q, q ∈ allF H Q d [u]) ↔ movesB H u v = true := by
    rw [movesB, List.any_eq_true]
    constructor
    · rintro ⟨q, hq⟩
      obtain ⟨h1, h2, h3⟩ := (all1 hu).1 hq
      rw [← hn] at h1 h3
      have h4 := (aut_full hs hQ hOs).1 h3
      refine ⟨(List.range H.length).map fun x => q.getD (posV v x) 0, all0.2 ⟨by simp, (aut_full hs hH hHs).2 ⟨fun i hi => ?_, fun i j hi hj hne => ?_⟩⟩, ?_⟩
      · simp only [getD_mapR _ hi]; exact h4.1 _ (pos_lt hv hi)
      · simp only [getD_mapR _ hi, getD_mapR _ hj]
        have h5 := h4.2 (posV v i) (posV v j) (pos_lt hv hi) (pos_lt hv hj) (fun e => hne (by rw [← ord_pos (v := v) (x := i), ← ord_pos (v := v) (x := j), e]))
        simp only [ord_pos] at h5
        exact h5
      · rw [getD_mapR _ hv, beq_iff_eq]
        have : posV v v = 0 := by simp [posV]
        rw [this]; exact h2
    · rintro ⟨q, hq, he⟩
      rw [beq_iff_eq] at he
      obtain ⟨h1, h3⟩ := all0.1 hq
      have h4 := (aut_full hs hH hHs).1 h3
      refine ⟨(List.range H.length).map fun x => q.getD (ordV v x) 0, (all1 hu).2 ⟨by simp [hn], ?_, ?_⟩⟩
      · rw [getD_mapR _ (by omega)]
        have : ordV v 0 = v := by simp [ordV]
        rw [this]; exact he
      · rw [← hn]
        refine (aut_full hs hQ hOs).2 ⟨fun i hi => ?_, fun i j hi hj hne => ?_⟩
        · simp only [getD_mapR _ hi]; exact h4.1 _ (ord_lt hv hi)
        · simp only [getD_mapR _ hi, getD_mapR _ hj]
          exact h4.2 (ordV v i) (ordV v j) (ord_lt hv hi) (ord_lt hv hj) (fun e => hne (by rw [← pos_ord (v := v) (i := i), ← pos_ord (v := v) (i := j), e]))
  cases hm : movesB H u v with
  | true =>
    obtain ⟨q, hq⟩ := key.2 hm
    cases hl : allF H Q d [u] with
    | nil => rw [hl] at hq; simp at hq
    | cons a t => rfl
  | false =>
    cases hl : allF H Q d [u] with
    | nil => rfl
    | cons a t =>
      have := key.1 ⟨a, by rw [hl]; simp⟩
      rw [hm] at this; cases this
theorem id_moves {H : List Nat} {v : Nat} (hs : SymH H) (hv : v < H.length) : movesB H v v = true := by
  rw [movesB, List.any_eq_true]
  refine ⟨List.range H.length, all0.2 ⟨by simp, fun i hi => ⟨by simp [hi], fun j hj => ?_⟩⟩, by simp [hv]⟩
  have hj2 : j < H.length := by omega
  simp [hi, hj2]; omega
def minQ (v : Nat) (m : Nat) (q : List Nat) : Nat := min m (q.getD v 0)
/-- The least vertex of v's orbit. -/
def orbV (H : List Nat) (v : Nat) : Nat := (allF H H H.length []).foldl (minQ v) v
theorem fold_min (v : Nat) : ∀ (L : List (List Nat)) (m : Nat), L.foldl (minQ v) m ≤ m ∧ (∀ q ∈ L, L.foldl (minQ v) m ≤ q.getD v 0) ∧ (L.foldl (minQ v) m = m ∨ ∃ q ∈ L, q.getD v 0 = L.foldl (minQ v) m)
  | [], m => by simp
  | q :: L, m => by
    obtain ⟨h1, h2, h3⟩ := fold_min v L (minQ v m q)
    have ha : minQ v m q ≤ m := Nat.min_le_left _ _
    have hb : minQ v m q ≤ q.getD v 0 := Nat.min_le_right _ _
    rw [List.foldl_cons]
    refine ⟨by omega, fun x hx => ?_, ?_⟩
    · rcases List.mem_cons.1 hx with rfl | hx
      · omega
      · exact h2 x hx
    · rcases h3 with h3 | ⟨x, hx, he⟩
      · rw [h3]
        by_cases hle : m ≤ q.getD v 0
        · exact .inl (Nat.min_eq_left hle)
        · exact .inr ⟨q, by simp, (Nat.min_eq_right (by omega)).symm⟩
      · exact .inr ⟨x, by simp [hx], he⟩
theorem orb_moves {H : List Nat} {v : Nat} (hs : SymH H) (hv : v < H.length) : movesB H (orbV H v) v = true := by
  obtain ⟨-, -, h3⟩ := fold_min v (allF H H H.length []) v
  rcases h3 with h3 | ⟨q, hq, he⟩
  · rw [show orbV H v = v from h3]; exact id_moves hs hv
  · rw [movesB, List.any_eq_true]
    exact ⟨q, hq, by rw [beq_iff_eq]; exact he⟩
theorem orb_le {H : List Nat} {u v : Nat} (h : movesB H u v = true) : orbV H v ≤ u := by
  rw [movesB, List.any_eq_true] at h
  obtain ⟨q, hq, he⟩ := h
  rw [beq_iff_eq] at he
  obtain ⟨-, h2, -⟩ := fold_min v (allF H H H.length []) v
  have := h2 q hq
  rw [he] at this; exact this
theorem orb_self {H : List Nat} {v : Nat} : orbV H v ≤ v := (fold_min v (allF H H H.length []) v).1
/-- What the program's fold makes of its list. -/
def minP (p s : List Nat) : List Nat := (List.range s.length).map fun v => min (s.getD v 0) (p.getD v 0)
theorem minP_len (p s : List Nat) : (minP p s).length = s.length := by simp [minP]
theorem minP_getD {p s : List Nat} {v : Nat} (hv : v < s.length) : (minP p s).getD v 0 = minQ v (s.getD v 0) p := by rw [minP, getD_mapR _ hv, minQ]
theorem fold_minP : ∀ (L : List (List Nat)) (s : List Nat), (L.foldl (fun s q => minP q s) s).length = s.length ∧ ∀ v, v < s.length → (L.foldl (fun s q => minP q s) s).getD v 0 = L.foldl (minQ v) (s.getD v 0)
  | [], s => by simp
  | q :: L, s => by
    obtain ⟨h1, h2⟩ := fold_minP L (minP q s)
    rw [List.foldl_cons]
    rw [minP_len] at h1 h2
    refine ⟨h1, fun v hv => ?_⟩
    rw [h2 v hv, minP_getD hv, List.foldl_cons]
def orbN (H : List Nat) : List Nat := (List.range H.length).map (orbV H)
theorem orb_run {H : List Nat} : (srchF H H (fun p s => (minP p s, false)) H.length [] (List.range H.length)).1 = orbN H := by
  rw [srch_fold]
  obtain ⟨h1, h2⟩ := fold_minP (allF H H H.length []) (List.range H.length)
  rw [List.length_range] at h1 h2
  apply List.ext_getElem
  · simpa [orbN] using h1
  · intro i hi hi2
    have hi3 : i < H.length := by simpa [orbN] using hi2
    have := h2 i hi3
    have e : (List.range H.length).getD i 0 = i := by simp [hi3]
    rw [e] at this
    simp only [List.getD_eq_getElem?_getD, List.getElem?_eq_getElem hi, Option.getD_some] at this
    simp only
    rw [this]; simp [orbN, orbV]
theorem sym_nets {g : List (List Int)} (hg : GOk g) : SymH (netsL g) := by
  intro x y hx hy
  rw [netsL_len] at hx hy
  rw [netsL_get hx, netsL_get hy, testBit_maskL (fun z hz => (hg.ge hx z hz).1), testBit_maskL (fun z hz => (hg.ge hy z hz).1), decide_eq_decide]
  have hS : ∀ {u v : Nat} (hu : u < g.length) (hv : v < g.length), (v : Int) ∈ g[u] → (u : Int) ∈ g[v] := fun {u v} hu hv h => by
    have := hg.symm u hu _ h
    rwa [Int.toNat_natCast, show g.getD v [] = g[v] by simp [hv]] at this
  exact ⟨hS hx hy, hS hy hx⟩
end Go.Proofs.Ytplohdnakllbiaa
