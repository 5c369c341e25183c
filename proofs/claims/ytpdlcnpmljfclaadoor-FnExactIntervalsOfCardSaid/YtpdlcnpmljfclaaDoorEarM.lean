/- Ears: what both sides compute, in plain terms. -/
import Derived.Test.YtpdlcnpmljfclaaDoorPairs
import Derived.Test.YtpdlcnpmljfclaaDoorJoin
import Derived.Test.YtpdlcnpmljfclaaDoorReachM
import Derived.Test.YtpdlcnpmljfclaaDoorSmall
namespace Go.Proofs.YtpdlcnpmljfclaaDoor
open Go.RowKit
def swP (s : NP) : NP := (s.2, s.1)
def stepsN (p : List Nat) (closed : Bool) : List NP := (List.range (p.length - 1)).map (fun i => (p.getD i 0, p.getD (i + 1) 0)) ++ if closed = true then [(p.getD (p.length - 1) 0, p.getD 0 0)] else []
def freeB (g : List (List Int)) (U : List NP) (s : NP) : Bool := decide ((s.2 : Int) ∈ g.getD s.1 []) && !decide (s ∈ U)
def vokB (n : Nat) (ear : List Int) (m : Nat) (first : Bool) (i : Nat) : Bool :=
  inB (ear.getD i 0) 0 ((n : Int) - 1) && !decide (ear.getD i 0 ∈ ear.take i) && (first || (m.testBit (ear.getD i 0).toNat == (decide (i = 0) || decide (i = ear.length - 1))))
def natsOf (ear : List Int) : List Nat := ear.map Int.toNat
def earB (g : List (List Int)) (ear : List Int) (m : Nat) (U : List NP) (first : Bool) : Bool :=
  decide ((if first = true then 3 else 2) ≤ ear.length) && (List.range ear.length).all (vokB g.length ear m first) && (stepsN (natsOf ear) first).all (freeB g U)
def useU (U S : List NP) : List NP := U ++ S.flatMap fun s => [s, swP s]
def earsF (g : List (List Int)) : List (List Int) → Nat → List NP → Option (Nat × List NP)
  | [], m, U => some (m, U)
  | e :: t, m, U => if earB g e m U (m == 0) = true then earsF g t (m ||| maskL e) (useU U (stepsN (natsOf e) (m == 0))) else none
def endsN (g : List (List Int)) : Nat := (g.map List.length).sum
def endB (g : List (List Int)) (m : Nat) (U : List NP) : Bool := decide (m = firstN g.length) && decide (U.length = endsN g)
noncomputable def earsOkB (g ears : List (List Int)) : Bool := gokB g && decide (0 < ears.length) && match earsF g ears 0 [] with | none => false | some (m, U) => endB g m U
theorem useU_nil (U : List NP) : useU U [] = U := by simp [useU]
theorem useU_snoc (U S : List NP) (s : NP) : useU U (S ++ [s]) = useU U S ++ [s, swP s] := by simp [useU]
theorem useU_take {U S : List NP} {k : Nat} (hk : k < S.length) : useU U (S.take (k + 1)) = useU U (S.take k) ++ [S[k], swP S[k]] := by
  rw [List.take_succ_eq_append_getElem hk, useU_snoc]
theorem useU_len (U S : List NP) : (useU U S).length = U.length + 2 * S.length := by
  unfold useU
  rw [List.length_append]
  congr 1
  induction S with
  | nil => rfl
  | cons a t ih => rw [List.flatMap_cons, List.length_append, ih]; simp; omega
theorem mem_useU {U S : List NP} {s : NP} : s ∈ useU U S ↔ s ∈ U ∨ ∃ t ∈ S, s = t ∨ s = swP t := by
  unfold useU
  rw [List.mem_append, List.mem_flatMap]
  simp
theorem swP_swP (s : NP) : swP (swP s) = s := rfl
theorem stepsN_len (p : List Nat) (c : Bool) : (stepsN p c).length = p.length - 1 + if c = true then 1 else 0 := by
  unfold stepsN; cases c <;> simp
theorem stepsN_get {p : List Nat} {c : Bool} {i : Nat} (h : i < (stepsN p c).length) : (stepsN p c)[i] = if i < p.length - 1 then (p.getD i 0, p.getD (i + 1) 0) else (p.getD (p.length - 1) 0, p.getD 0 0) := by
  have hl := h
  rw [stepsN_len] at hl
  by_cases hi : i < p.length - 1
  · rw [if_pos hi]
    simp only [stepsN]
    rw [List.getElem_append_left (by simpa using hi)]; simp
  · rw [if_neg hi]
    cases c with
    | false => simp at hl; omega
    | true =>
      simp only [stepsN, if_true]
      rw [List.getElem_append_right (by simpa using Nat.le_of_not_lt hi)]
      simp
/-- Two steps of one list never run along the same edge. -/
def OffP (s t : NP) : Prop := s ≠ t ∧ s ≠ swP t
theorem steps_off {p : List Nat} {c : Bool} (hn : p.Nodup) (h2 : 2 ≤ p.length) (h3 : c = true → 3 ≤ p.length) {i j : Nat} (hij : i < j) (hj : j < (stepsN p c).length) : OffP (stepsN p c)[j] ((stepsN p c)[i]'(by omega)) := by
  have hinj : ∀ a b, a < p.length → b < p.length → p.getD a 0 = p.getD b 0 → a = b := fun a b ha hb e => by
    simp only [List.getD_eq_getElem?_getD, List.getElem?_eq_getElem ha, List.getElem?_eq_getElem hb, Option.getD_some] at e
    have hpw := List.pairwise_iff_getElem.1 (List.nodup_iff_pairwise_ne.1 hn)
    rcases Nat.lt_trichotomy a b with h | h | h
    · exact absurd e (hpw a b ha hb h)
    · exact h
    · exact absurd e.symm (hpw b a hb ha h)
  have hl := stepsN_len p c
  have hi : i < p.length - 1 := by
    rw [hl] at hj
    cases c
    · simp at hj; omega
    · simp at hj; omega
  rw [stepsN_get, stepsN_get, if_pos hi]
  by_cases hj2 : j < p.length - 1
  · rw [if_pos hj2]
    refine ⟨fun e => ?_, fun e => ?_⟩
    · have := hinj _ _ (by omega) (by omega) (congrArg Prod.fst e); omega
    · have := hinj j (i + 1) (by omega) (by omega) (congrArg Prod.fst e)
      have := hinj (j + 1) i (by omega) (by omega) (congrArg Prod.snd e); omega
  · rw [if_neg hj2]
    have hc : c = true := by
      cases c
      · rw [hl] at hj; simp at hj; omega
      · rfl
    have := h3 hc
    refine ⟨fun e => ?_, fun e => ?_⟩
    · have := hinj _ _ (by omega) (by omega) (congrArg Prod.fst e); omega
    · have := hinj (p.length - 1) (i + 1) (by omega) (by omega) (congrArg Prod.fst e)
      have := hinj 0 i (by omega) (by omega) (congrArg Prod.snd e); omega
theorem free_off {g : List (List Int)} {U : List NP} {p : List Nat} {c : Bool} (hn : p.Nodup) (h2 : 2 ≤ p.length) (h3 : c = true → 3 ≤ p.length) {j : Nat} (hj : j < (stepsN p c).length) :
    freeB g (useU U ((stepsN p c).take j)) (stepsN p c)[j] = freeB g U (stepsN p c)[j] := by
  unfold freeB
  congr 2
  rw [decide_eq_decide, mem_useU]
  constructor
  · rintro (h | ⟨t, ht, h⟩)
    · exact h
    · obtain ⟨i, hi, rfl⟩ := List.getElem_of_mem ht
      rw [List.length_take] at hi
      rw [List.getElem_take] at h
      have := steps_off hn h2 h3 (show i < j by omega) hj
      rcases h with h | h
      · exact absurd h this.1
      · exact absurd h this.2
  · exact .inl
/-- What holds of the vertices and the edges that were used. -/
structure EInv (g : List (List Int)) (m : Nat) (U : List NP) : Prop where
  mask : m < 2 ^ g.length
  nodup : U.Nodup
  edge : ∀ s ∈ U, s.1 < g.length ∧ s.2 < g.length ∧ (s.2 : Int) ∈ g.getD s.1 []
  sym : ∀ s ∈ U, swP s ∈ U
theorem EInv.start (g : List (List Int)) : EInv g 0 [] := ⟨Nat.two_pow_pos _, by simp, by simp, by simp⟩
theorem GOk.symD {g : List (List Int)} (hg : GOk g) {u v : Nat} (hu : u < g.length) (h : (v : Int) ∈ g.getD u []) : v < g.length ∧ (u : Int) ∈ g.getD v [] ∧ u ≠ v := by
  have e : g.getD u [] = g[u] := by simp [hu]
  rw [e] at h
  have h1 := (hg.ge hu _ h).2
  have h2 := hg.symm u hu _ h
  rw [Int.toNat_natCast] at h2
  refine ⟨by omega, h2, fun e => ?_⟩
  subst e; exact hg.irrefl u hu h
theorem EInv.one {g : List (List Int)} (hg : GOk g) {m : Nat} {U : List NP} (h : EInv g m U) {s : NP} (hs : s.1 < g.length) (hf : freeB g U s = true) : EInv g m (U ++ [s, swP s]) := by
  simp only [freeB, Bool.and_eq_true, decide_eq_true_eq, Bool.not_eq_true', decide_eq_false_iff_not] at hf
  obtain ⟨hf1, hf2⟩ := hf
  obtain ⟨h1, h2, h3⟩ := hg.symD hs hf1
  have hne : s ≠ swP s := fun e => h3 (congrArg Prod.fst e)
  have hsw : swP s ∉ U := fun hin => hf2 (h.sym _ hin)
  refine ⟨h.mask, ?_, fun t ht => ?_, fun t ht => ?_⟩
  · rw [List.nodup_append]
    refine ⟨h.nodup, by simp [hne], fun a ha b hb e => ?_⟩
    subst e
    rcases List.mem_cons.1 hb with rfl | hb
    · exact hf2 ha
    · rw [List.mem_singleton] at hb; subst hb; exact hsw ha
  · rcases List.mem_append.1 ht with ht | ht
    · exact h.edge t ht
    · rcases List.mem_cons.1 ht with rfl | ht
      · exact ⟨hs, h1, hf1⟩
      · rw [List.mem_singleton] at ht; subst ht; exact ⟨h1, hs, h2⟩
  · rcases List.mem_append.1 ht with ht | ht
    · exact List.mem_append_left _ (h.sym t ht)
    · rcases List.mem_cons.1 ht with rfl | ht
      · simp
      · rw [List.mem_singleton] at ht; subst ht; rw [swP_swP]; simp
theorem inB_iff {x : Int} {n : Nat} : inB x 0 ((n : Int) - 1) = true ↔ 0 ≤ x ∧ x < n := by
  unfold inB
  rw [Bool.and_eq_true, decide_eq_true_eq, decide_eq_true_eq]; omega
/-- The vertices of an ear that passed. -/
theorem ear_nats {n m : Nat} {ear : List Int} {first : Bool} (h : (List.range ear.length).all (vokB n ear m first) = true) : natsI (natsOf ear) = ear ∧ (natsOf ear).length = ear.length ∧ GP n (natsOf ear) := by
  rw [List.all_eq_true] at h
  have h1 : ∀ i (hi : i < ear.length), 0 ≤ ear[i] ∧ ear[i] < n ∧ ear[i] ∉ ear.take i := fun i hi => by
    have := h i (List.mem_range.2 hi)
    have e : ear.getD i 0 = ear[i] := by simp [hi]
    simp only [vokB, e, Bool.and_eq_true, inB_iff, Bool.not_eq_true', decide_eq_false_iff_not] at this
    exact ⟨this.1.1.1, this.1.1.2, this.1.2⟩
  have h0 : ∀ x ∈ ear, 0 ≤ x ∧ x < n := fun x hx => by
    obtain ⟨i, hi, rfl⟩ := List.getElem_of_mem hx
    exact ⟨(h1 i hi).1, (h1 i hi).2.1⟩
  have hnd : ear.Nodup := by
    rw [List.nodup_iff_pairwise_ne, List.pairwise_iff_getElem]
    intro i j hi hj hij e
    refine (h1 j hj).2.2 ?_
    rw [← e, List.mem_iff_getElem]
    exact ⟨i, by rw [List.length_take]; omega, by rw [List.getElem_take]⟩
  have e1 : natsI (natsOf ear) = ear := by
    unfold natsI natsOf
    rw [List.map_map]
    conv => rhs; rw [← List.map_id ear]
    exact List.map_congr_left fun x hx => by have := (h0 x hx).1; simp; omega
  refine ⟨e1, by simp [natsOf], fun a ha => ?_, ?_⟩
  · obtain ⟨x, hx, rfl⟩ := List.mem_map.1 ha
    have := h0 x hx; omega
  · unfold natsOf
    rw [List.nodup_iff_pairwise_ne, List.pairwise_map]
    have := hnd
    rw [List.nodup_iff_pairwise_ne, List.pairwise_iff_getElem] at this
    rw [List.pairwise_iff_getElem]
    intro i j hi hj hij e
    have a := (h1 i hi).1
    have b := (h1 j hj).1
    exact this i j hi hj hij (by omega)
theorem steps_lt {n : Nat} {p : List Nat} {c : Bool} (h2 : 1 ≤ p.length) (hp : ∀ a ∈ p, a < n) : ∀ s ∈ stepsN p c, s.1 < n ∧ s.2 < n := fun s hs => by
  have hg : ∀ i, i < p.length → p.getD i 0 < n := fun i hi => by
    have : p.getD i 0 = p[i] := by simp [hi]
    rw [this]; exact hp _ (List.getElem_mem _)
  obtain ⟨i, hi, rfl⟩ := List.getElem_of_mem hs
  rw [stepsN_get]
  split
  · exact ⟨hg _ (by omega), hg _ (by omega)⟩
  · exact ⟨hg _ (by omega), hg _ (by omega)⟩
theorem EInv.all {g : List (List Int)} (hg : GOk g) {m : Nat} {U : List NP} (h : EInv g m U) {p : List Nat} {c : Bool} (hp : GP g.length p) (h2 : 2 ≤ p.length) (h3 : c = true → 3 ≤ p.length)
    (hf : ∀ s ∈ stepsN p c, freeB g U s = true) : ∀ k, k ≤ (stepsN p c).length → EInv g m (useU U ((stepsN p c).take k))
  | 0, _ => by rw [List.take_zero, useU_nil]; exact h
  | k + 1, hk => by
    rw [useU_take (by omega)]
    refine (EInv.all hg h hp h2 h3 hf k (by omega)).one hg (steps_lt (by omega) hp.1 _ (List.getElem_mem _)).1 ?_
    rw [free_off hp.2 h2 h3]
    exact hf _ (List.getElem_mem _)
theorem EInv.next {g : List (List Int)} (hg : GOk g) {m : Nat} {U : List NP} (h : EInv g m U) {e : List Int} {first : Bool} (hb : earB g e m U first = true) :
    EInv g (m ||| maskL e) (useU U (stepsN (natsOf e) first)) ∧ m ||| maskL e ≠ 0 ∧ U.length + 2 ≤ (useU U (stepsN (natsOf e) first)).length := by
  simp only [earB, Bool.and_eq_true, decide_eq_true_eq] at hb
  obtain ⟨⟨hb1, hb2⟩, hb3⟩ := hb
  obtain ⟨e1, e2, hp⟩ := ear_nats hb2
  rw [List.all_eq_true] at hb3
  have h2 : 2 ≤ (natsOf e).length := by rw [e2]; split at hb1 <;> omega
  have h3 : first = true → 3 ≤ (natsOf e).length := fun hf => by rw [e2]; rw [if_pos hf] at hb1; exact hb1
  have ha := h.all hg hp h2 h3 hb3 _ (Nat.le_refl _)
  rw [List.take_length] at ha
  have hge : ∀ x ∈ e, 0 ≤ x ∧ x < g.length := fun x hx => by
    rw [← e1] at hx
    obtain ⟨a, ha, rfl⟩ := List.mem_map.1 hx
    have := hp.1 a ha
    omega
  refine ⟨⟨Nat.or_lt_two_pow ha.mask (maskL_lt hge), ha.nodup, ha.edge, ha.sym⟩, fun h0 => ?_, ?_⟩
  · have hl : 0 < e.length := by omega
    have hx := hge e[0] (List.getElem_mem _)
    have : (m ||| maskL e).testBit e[0].toNat = true := by
      rw [Nat.testBit_or, testBit_maskL (fun x hx => (hge x hx).1)]
      have : ((e[0].toNat : Nat) : Int) = e[0] := by omega
      rw [this]; simp
    rw [h0] at this; simp at this
  · rw [useU_len, stepsN_len]; omega
/-- All pairs of a graph. -/
def allP (g : List (List Int)) : List NP := (List.range g.length).flatMap fun u => (g.getD u []).map fun v => (u, v.toNat)
theorem mem_allP {g : List (List Int)} (hg : GOk g) {s : NP} : s ∈ allP g ↔ s.1 < g.length ∧ (s.2 : Int) ∈ g.getD s.1 [] := by
  unfold allP
  rw [List.mem_flatMap]
  constructor
  · rintro ⟨u, hu, hs⟩
    rw [List.mem_range] at hu
    obtain ⟨v, hv, rfl⟩ := List.mem_map.1 hs
    have e : g.getD u [] = g[u] := by simp [hu]
    rw [e] at hv
    have := (hg.ge hu v hv).1
    refine ⟨hu, ?_⟩
    show ((v.toNat : Nat) : Int) ∈ g.getD u []
    rw [e, Int.toNat_of_nonneg this]; exact hv
  · rintro ⟨h1, h2⟩
    exact ⟨s.1, List.mem_range.2 h1, List.mem_map.2 ⟨_, h2, by simp⟩⟩
theorem allP_len (g : List (List Int)) : (allP g).length = endsN g := by
  unfold allP endsN
  rw [List.length_flatMap]
  congr 1
  apply List.ext_getElem
  · simp
  · intro i h1 h2
    have : i < g.length := by simpa using h2
    simp [this]
theorem nodup_sub {α : Type} [DecidableEq α] : ∀ {l E : List α}, l.Nodup → (∀ x ∈ l, x ∈ E) → l.length ≤ E.length ∧ (l.length = E.length → ∀ x ∈ E, x ∈ l)
  | [], E, _, _ => ⟨Nat.zero_le _, fun h x hx => by
      have : E = [] := List.eq_nil_of_length_eq_zero h.symm
      subst this; exact hx⟩
  | a :: t, E, hn, hs => by
    rw [List.nodup_cons] at hn
    have ha : a ∈ E := hs a (by simp)
    have hl := List.length_erase_of_mem ha
    have hpos : 0 < E.length := List.length_pos_of_mem ha
    obtain ⟨h1, h2⟩ := nodup_sub (l := t) (E := E.erase a) hn.2 (fun x hx => by
      refine (List.mem_erase_of_ne (fun e => ?_)).2 (hs x (by simp [hx]))
      subst e; exact hn.1 hx)
    refine ⟨by simp; omega, fun he x hx => ?_⟩
    by_cases e : x = a
    · subst e; simp
    · refine List.mem_cons_of_mem _ (h2 (by simp at he; omega) x ((List.mem_erase_of_ne e).2 hx))
theorem EInv.sub {g : List (List Int)} (hg : GOk g) {m : Nat} {U : List NP} (h : EInv g m U) : ∀ s ∈ U, s ∈ allP g := fun s hs => (mem_allP hg).2 ⟨(h.edge s hs).1, (h.edge s hs).2.2⟩
theorem EInv.le {g : List (List Int)} (hg : GOk g) {m : Nat} {U : List NP} (h : EInv g m U) : U.length ≤ endsN g := by
  rw [← allP_len]; exact (nodup_sub h.nodup (h.sub hg)).1
theorem allP_nodup {g : List (List Int)} (hg : GOk g) : (allP g).Nodup := by
  have hrow : ∀ u, u < g.length → ((g.getD u []).map fun v => ((u, v.toNat) : NP)).Nodup := fun u hu => by
    have e : g.getD u [] = g[u] := by simp [hu]
    rw [e, List.nodup_iff_pairwise_ne, List.pairwise_map]
    have hs := rise_sorted (hg.rise u hu)
    rw [List.pairwise_iff_getElem] at hs ⊢
    intro i j hi hj hij he
    have h1 := hs i j hi hj hij
    have h2 := (hg.ge hu _ (List.getElem_mem hi)).1
    have h3 := (hg.ge hu _ (List.getElem_mem hj)).1
    have h4 : g[u][i].toNat = g[u][j].toNat := congrArg Prod.snd he
    omega
  have key : ∀ n, n ≤ g.length → ((List.range n).flatMap fun u => (g.getD u []).map fun v => ((u, v.toNat) : NP)).Nodup := by
    intro n
    induction n with
    | zero => intro _; simp
    | succ n ih =>
      intro hn
      rw [List.range_succ, List.flatMap_append, List.nodup_append]
      refine ⟨ih (by omega), by simpa using hrow n (by omega), fun a ha b hb e => ?_⟩
      subst e
      obtain ⟨u, hu, h1⟩ := List.mem_flatMap.1 ha
      obtain ⟨u', hu', h2⟩ := List.mem_flatMap.1 hb
      rw [List.mem_singleton] at hu'
      obtain ⟨v, _, rfl⟩ := List.mem_map.1 h1
      obtain ⟨v', _, h3⟩ := List.mem_map.1 h2
      have := congrArg Prod.fst h3
      have := List.mem_range.1 hu
      simp at *; omega
  exact key _ (Nat.le_refl _)
theorem EInv.full {g : List (List Int)} (hg : GOk g) {m : Nat} {U : List NP} (h : EInv g m U) : U.length = endsN g ↔ ∀ s ∈ allP g, s ∈ U := by
  rw [← allP_len]
  constructor
  · exact (nodup_sub h.nodup (h.sub hg)).2
  · intro hs
    have h1 := (nodup_sub h.nodup (h.sub hg)).1
    have h2 := (nodup_sub (allP_nodup hg) hs).1
    omega
/-- The edges that are left. -/
def leftN (g : List (List Int)) (U : List NP) : List Nat := (List.range g.length).map fun u => maskL ((g.getD u []).filter fun v => !decide ((u, v.toNat) ∈ U))
theorem leftN_len (g : List (List Int)) (U : List NP) : (leftN g U).length = g.length := by simp [leftN]
theorem left_bit {g : List (List Int)} (hg : GOk g) (U : List NP) {u : Nat} (hu : u < g.length) (v : Nat) : ((leftN g U).getD u 0).testBit v = freeB g U (u, v) := by
  have e : g.getD u [] = g[u] := by simp [hu]
  have e2 : (leftN g U).getD u 0 = maskL (g[u].filter fun v => !decide ((u, v.toNat) ∈ U)) := by simp [leftN, hu]
  rw [e2, testBit_maskL (fun x hx => (hg.ge hu x (List.mem_filter.1 hx).1).1), freeB, Bool.eq_iff_iff]
  simp only [List.mem_filter, Int.toNat_natCast, decide_eq_true_eq, Bool.and_eq_true, e]
theorem leftN_start {g : List (List Int)} : leftN g [] = netsL g := by
  apply List.ext_getElem
  · rw [leftN_len, netsL_len]
  · intro i h1 h2
    have h3 : i < g.length := by rw [leftN_len] at h1; exact h1
    have hft : ∀ l : List Int, l.filter (fun _ => true) = l := fun l => by simp
    simp [leftN, netsL, h3, hft]
theorem leftN_lt {g : List (List Int)} (hg : GOk g) (U : List NP) : ∀ x ∈ leftN g U, x < 4294967296 := fun x hx => by
  obtain ⟨u, hu, rfl⟩ := List.mem_map.1 hx
  have hu := List.mem_range.1 hu
  have e : g.getD u [] = g[u] := by simp [hu]
  rw [e]
  exact maskL_lt32 fun y hy => hg.ge32 hu y (List.mem_filter.1 hy).1
def cutAt (a : List Nat) (u x : Nat) : List Nat := a.set u (andN (a.getD u 0) (bit x))
def cutN (a : List Nat) (u x : Nat) : List Nat := cutAt (cutAt a u x) x u
theorem cutAt_len (a : List Nat) (u x : Nat) : (cutAt a u x).length = a.length := by simp [cutAt]
theorem cutN_len (a : List Nat) (u x : Nat) : (cutN a u x).length = a.length := by simp [cutN, cutAt_len]
theorem andN_lt32 {a b : Nat} (ha : a < 4294967296) : andN a b < 4294967296 := Nat.lt_of_le_of_lt (andN_le _ _) ha
theorem cutAt_bit {a : List Nat} {u x y v : Nat} (ha : ∀ m ∈ a, m < 4294967296) (hu : u < a.length) (hx : x < 32) : ((cutAt a u x).getD y 0).testBit v = ((a.getD y 0).testBit v && !(decide (u = y) && decide (x = v))) := by
  unfold cutAt
  have hl := nat_getD ha u
  by_cases e : u = y
  · subst e
    have : (a.set u (andN (a.getD u 0) (bit x))).getD u 0 = andN (a.getD u 0) (bit x) := by simp [hu]
    rw [this, testBit_andN hl (bit_lt hx), testBit_bit, decide_eq_true rfl, Bool.true_and]
  · have : (a.set u (andN (a.getD u 0) (bit x))).getD y 0 = a.getD y 0 := by
      generalize andN (a.getD u 0) (bit x) = z
      simp [e]
    rw [this, decide_eq_false e]; simp
theorem cutAt_lt {a : List Nat} {u x : Nat} (ha : ∀ m ∈ a, m < 4294967296) : ∀ m ∈ cutAt a u x, m < 4294967296 := nat_all ha (andN_lt32 (nat_getD ha u))
theorem cutN_bit {a : List Nat} {u x y v : Nat} (ha : ∀ m ∈ a, m < 4294967296) (hu : u < a.length) (hx : x < a.length) (h16 : a.length ≤ 16) : ((cutN a u x).getD y 0).testBit v = ((a.getD y 0).testBit v && !(decide ((y, v) = (u, x)) || decide ((y, v) = (x, u)))) := by
  unfold cutN
  rw [cutAt_bit (cutAt_lt ha) (by rw [cutAt_len]; exact hx) (by omega), cutAt_bit ha hu (by omega)]
  rw [Bool.and_assoc]
  congr 1
  simp only [Prod.mk.injEq]
  rw [Bool.eq_iff_iff]
  simp only [Bool.and_eq_true, Bool.not_eq_true', Bool.and_eq_false_iff, decide_eq_false_iff_not, Bool.or_eq_false_iff, decide_eq_true_eq]
  constructor
  · rintro ⟨h1, h2⟩; exact ⟨by rintro ⟨rfl, rfl⟩; rcases h1 with h | h <;> exact h rfl, by rintro ⟨rfl, rfl⟩; rcases h2 with h | h <;> exact h rfl⟩
  · rintro ⟨h1, h2⟩
    refine ⟨?_, ?_⟩
    · by_cases e : u = y
      · right; intro e2; exact h1 ⟨e.symm, e2.symm⟩
      · exact .inl e
    · by_cases e : x = y
      · right; intro e2; exact h2 ⟨e.symm, e2.symm⟩
      · exact .inl e
theorem list_bits {a b : List Nat} (hl : a.length = b.length) (h : ∀ u, u < a.length → ∀ v, (a.getD u 0).testBit v = (b.getD u 0).testBit v) : a = b := by
  apply List.ext_getElem hl
  intro i h1 h2
  have := nat_ext (h i h1)
  simpa [h1, h2] using this
theorem leftN_cut {g : List (List Int)} (hg : GOk g) (U : List NP) {s : NP} (h1 : s.1 < g.length) (h2 : s.2 < g.length) : leftN g (U ++ [s, swP s]) = cutN (leftN g U) s.1 s.2 := by
  have h16 := hg.hi
  apply list_bits
  · rw [leftN_len, cutN_len, leftN_len]
  · intro u hu v
    rw [leftN_len] at hu
    rw [left_bit hg _ hu, cutN_bit (leftN_lt hg U) (by rw [leftN_len]; exact h1) (by rw [leftN_len]; exact h2) (by rw [leftN_len]; exact h16), left_bit hg _ hu, freeB, freeB, Bool.and_assoc]
    congr 1
    rw [← Bool.not_or]
    congr 1
    rw [Bool.eq_iff_iff]
    simp only [List.mem_append, List.mem_cons, List.not_mem_nil, or_false, decide_eq_true_eq, Bool.or_eq_true]
    have e1 : s = (s.1, s.2) := rfl
    rw [swP]
theorem left_zero {g : List (List Int)} (hg : GOk g) {m : Nat} {U : List NP} (h : EInv g m U) : (leftN g U).any (fun x => !decide (x = 0)) = !decide (U.length = endsN g) := by
  rw [Bool.eq_iff_iff, List.any_eq_true, Bool.not_eq_true', decide_eq_false_iff_not, h.full hg]
  constructor
  · rintro ⟨x, hx, hx0⟩ hall
    obtain ⟨u, hu, rfl⟩ := List.getElem_of_mem hx
    have hu2 : u < g.length := by rw [leftN_len] at hu; exact hu
    simp only [Bool.not_eq_true', decide_eq_false_iff_not] at hx0
    refine hx0 (Nat.eq_of_testBit_eq fun v => ?_)
    have h1 := left_bit hg U hu2 v
    have e : (leftN g U).getD u 0 = (leftN g U)[u] := by simp [hu]
    rw [e] at h1
    rw [h1, Nat.zero_testBit]
    by_cases hv : (v : Int) ∈ g.getD u []
    · have := hall (u, v) ((mem_allP hg).2 ⟨hu2, hv⟩)
      simp [freeB, this]
    · simp only [freeB, hv, decide_false, Bool.false_and]
  · intro hn
    have : ∃ s ∈ allP g, s ∉ U := by
      apply Classical.byContradiction
      intro hc
      exact hn fun s hs => Classical.byContradiction fun h => hc ⟨s, hs, h⟩
    obtain ⟨s, hs, hU⟩ := this
    obtain ⟨h1, h2⟩ := (mem_allP hg).1 hs
    have hlt : s.1 < (leftN g U).length := by rw [leftN_len]; exact h1
    refine ⟨(leftN g U)[s.1], List.getElem_mem _, ?_⟩
    have h3 := left_bit hg U h1 s.2
    have e : (leftN g U).getD s.1 0 = (leftN g U)[s.1] := by simp [hlt]
    rw [e] at h3
    simp only [Bool.not_eq_true', decide_eq_false_iff_not]
    intro h0
    rw [h0, Nat.zero_testBit] at h3
    have : freeB g U (s.1, s.2) = true := by simp [freeB, hU]; simpa using h2
    rw [this] at h3; cases h3
/-- Too many ears: one of them fails. -/
theorem earsF_many {g : List (List Int)} (hg : GOk g) : ∀ {ears : List (List Int)} {m : Nat} {U : List NP} {r : Nat × List NP}, EInv g m U → earsF g ears m U = some r → EInv g r.1 r.2 ∧ U.length + ears.length ≤ r.2.length
  | [], m, U, r, h, hr => by
    simp only [earsF, Option.some.injEq] at hr
    subst hr; exact ⟨h, by simp⟩
  | e :: t, m, U, r, h, hr => by
    rw [earsF] at hr
    split at hr
    · rename_i hb
      obtain ⟨h1, -, h3⟩ := h.next hg hb
      obtain ⟨h4, h5⟩ := earsF_many hg h1 hr
      exact ⟨h4, by simp; omega⟩
    · cases hr
theorem ears_many {g ears : List (List Int)} (hg : GOk g) (h : endsN g < ears.length) : earsOkB g ears = false := by
  unfold earsOkB
  cases hr : earsF g ears 0 [] with
  | none => simp
  | some r =>
    obtain ⟨h1, h2⟩ := earsF_many hg (EInv.start g) hr
    have := h1.le hg
    simp at h2; omega
def endsTo (g : List (List Int)) (k : Nat) : Nat := ((g.take k).map List.length).sum
theorem endsTo_succ {g : List (List Int)} {k : Nat} (hk : k < g.length) : endsTo g (k + 1) = endsTo g k + g[k].length := by
  unfold endsTo
  rw [List.take_succ_eq_append_getElem hk, List.map_append, List.sum_append]; simp
theorem endsTo_all (g : List (List Int)) : endsTo g g.length = endsN g := by unfold endsTo endsN; rw [List.take_length]
theorem endsTo_le {g : List (List Int)} (hg : GOk g) : ∀ k, k ≤ g.length → endsTo g k ≤ 32 * k
  | 0, _ => by simp [endsTo]
  | k + 1, hk => by
    have := endsTo_le hg k (by omega)
    have h2 := hg.rowlenS (x := k) (by omega)
    rw [endsTo_succ (by omega)]; omega
theorem endsN_le {g : List (List Int)} (hg : GOk g) : endsN g ≤ 512 := by
  have := endsTo_le hg g.length (Nat.le_refl _)
  rw [endsTo_all] at this
  have := hg.hi; omega
