/- Distances inside a set: layers and a queue say the same; plain facts. -/
import Derived.Test.YtpdlcnpmljfclaaDoorWidthM
namespace Go.Proofs.YtpdlcnpmljfclaaDoor
open Go.RowKit
/-- What is at most so far from v along vertices of wi. -/
def ballN (a : List Nat) (wi v : Nat) : Nat → Nat
  | 0 => bit v
  | k + 1 => ballN a wi v k ||| (orN a (bitsN (ballN a wi v k)) &&& wi)
structure DistI (a : List Nat) (wi v n : Nat) : Prop where
  wide : WideI a n
  wi : wi < 2 ^ n
  v : v < n
theorem ball_lt {a : List Nat} {wi v n : Nat} (h : DistI a wi v n) : ∀ k, ballN a wi v k < 2 ^ n
  | 0 => by
    apply lt_bits
    intro i hi
    unfold ballN at hi
    rw [testBit_bit] at hi
    have : v = i := by simpa using hi
    have := h.v; omega
  | k + 1 => by
    apply lt_bits
    intro i hi
    unfold ballN at hi
    rw [Nat.testBit_or, Nat.testBit_and, Bool.or_eq_true, Bool.and_eq_true] at hi
    rcases hi with hi | hi
    · exact bit_lt_of (ball_lt h k) hi
    · exact bit_lt_of h.wi hi.2
theorem ball_lt32 {a : List Nat} {wi v n : Nat} (h : DistI a wi v n) (k : Nat) : ballN a wi v k < 4294967296 := Nat.lt_trans (ball_lt h k) (pow16_lt h.wide.le)
theorem ball_succ {a : List Nat} {wi v n : Nat} (h : DistI a wi v n) (k u : Nat) : (ballN a wi v (k + 1)).testBit u = true ↔ (ballN a wi v k).testBit u = true ∨ (wi.testBit u = true ∧ ∃ x, (ballN a wi v k).testBit x = true ∧ (a.getD x 0).testBit u = true) := by
  rw [ballN, Nat.testBit_or, Nat.testBit_and, Bool.or_eq_true, Bool.and_eq_true, testBit_orN]
  simp only [mem_bitsN (ball_lt32 h k)]
  constructor
  · rintro (h1 | ⟨h1, h2⟩)
    · exact .inl h1
    · exact .inr ⟨h2, h1⟩
  · rintro (h1 | ⟨h1, h2⟩)
    · exact .inl h1
    · exact .inr ⟨h2, h1⟩
theorem ball_mono {a : List Nat} {wi v n : Nat} (h : DistI a wi v n) {k u : Nat} (hu : (ballN a wi v k).testBit u = true) : ∀ {l : Nat}, k ≤ l → (ballN a wi v l).testBit u = true
  | 0, hl => by
    have : k = 0 := by omega
    subst this; exact hu
  | l + 1, hl => by
    by_cases e : k = l + 1
    · subst e; exact hu
    · exact (ball_succ h l u).2 (.inl (ball_mono h hu (by omega)))
/-- D are the distances; -1 where there is no path. -/
def IsDist (a : List Nat) (wi v n : Nat) (D : Nat → Int) : Prop := ∀ u, u < n → (D u = -1 ∧ ∀ k, (ballN a wi v k).testBit u = false) ∨ ∃ k : Nat, D u = k ∧ (ballN a wi v k).testBit u = true ∧ ∀ j, j < k → (ballN a wi v j).testBit u = false
theorem IsDist.unique {a : List Nat} {wi v n : Nat} {D D' : Nat → Int} (h : IsDist a wi v n D) (h' : IsDist a wi v n D') {u : Nat} (hu : u < n) : D u = D' u := by
  rcases h u hu with ⟨h1, h2⟩ | ⟨k, h1, h2, h3⟩ <;> rcases h' u hu with ⟨g1, g2⟩ | ⟨l, g1, g2, g3⟩
  · rw [h1, g1]
  · rw [h2 l] at g2; cases g2
  · rw [g2 k] at h2; cases h2
  · have e1 : ¬ k < l := fun e => by rw [g3 k e] at h2; cases h2
    have e2 : ¬ l < k := fun e => by rw [h3 l e] at g2; cases g2
    rw [h1, g1]; omega
/-- Right as far as k steps. -/
def PartD (a : List Nat) (wi v n k : Nat) (D : Nat → Int) : Prop := ∀ u, u < n → (D u = -1 ∧ (ballN a wi v k).testBit u = false) ∨ ∃ j : Nat, j ≤ k ∧ D u = j ∧ (ballN a wi v j).testBit u = true ∧ ∀ i, i < j → (ballN a wi v i).testBit u = false
def LayI (a : List Nat) (wi v k L : Nat) : Prop := ∀ u, L.testBit u = true ↔ ((ballN a wi v k).testBit u = true ∧ ∀ i, i < k → (ballN a wi v i).testBit u = false)
theorem LayI.start {a : List Nat} {wi v : Nat} : LayI a wi v 0 (bit v) := fun u => by simp [ballN]
theorem PartD.start {a : List Nat} {wi v n : Nat} : PartD a wi v n 0 (fun u => if v = u then 0 else -1) := fun u _ => by
  by_cases e : v = u
  · subst e
    exact .inr ⟨0, Nat.le_refl _, by simp, by simp [ballN, testBit_bit], fun i h => by omega⟩
  · exact .inl ⟨by simp [e], by simp [ballN, testBit_bit, e]⟩
theorem LayI.lt {a : List Nat} {wi v n k L : Nat} (h : DistI a wi v n) (hL : LayI a wi v k L) : L < 2 ^ n := lt_bits fun i hi => bit_lt_of (ball_lt h k) ((hL i).1 hi).1
theorem LayI.next {a : List Nat} {wi v n k L : Nat} (h : DistI a wi v n) (hL : LayI a wi v k L) : LayI a wi v (k + 1) (andN (orN a (bitsN L) &&& wi) (ballN a wi v k)) := fun u => by
  have hp := pow16_lt h.wide.le
  have hw : orN a (bitsN L) &&& wi < 4294967296 := Nat.lt_of_le_of_lt Nat.and_le_right (Nat.lt_trans h.wi hp)
  have hL32 : L < 4294967296 := Nat.lt_trans (hL.lt h) hp
  rw [testBit_andN hw (ball_lt32 h k), Nat.testBit_and, Bool.and_eq_true, Bool.and_eq_true, testBit_orN, Bool.not_eq_true']
  simp only [mem_bitsN hL32]
  constructor
  · rintro ⟨⟨⟨x, hx, hb⟩, hwi⟩, hn⟩
    refine ⟨(ball_succ h k u).2 (.inr ⟨hwi, x, ((hL x).1 hx).1, hb⟩), fun i hi => ?_⟩
    cases e : (ballN a wi v i).testBit u
    · rfl
    · rw [ball_mono h e (show i ≤ k by omega)] at hn; cases hn
  · rintro ⟨h1, h2⟩
    have h3 := h2 k (by omega)
    rcases (ball_succ h k u).1 h1 with h4 | ⟨hwi, x, hx, hb⟩
    · rw [h3] at h4; cases h4
    · refine ⟨⟨⟨x, (hL x).2 ⟨hx, fun i hi => ?_⟩, hb⟩, hwi⟩, h3⟩
      cases e : (ballN a wi v i).testBit x
      · rfl
      · have : (ballN a wi v (i + 1)).testBit u = true := (ball_succ h i u).2 (.inr ⟨hwi, x, e, hb⟩)
        rw [ball_mono h this (show i + 1 ≤ k by omega)] at h3; cases h3
theorem LayI.seen {a : List Nat} {wi v n k M : Nat} (h : DistI a wi v n) (hM : LayI a wi v (k + 1) M) : ballN a wi v k ||| M = ballN a wi v (k + 1) := by
  apply nat_ext
  intro u
  rw [Bool.eq_iff_iff, Nat.testBit_or, Bool.or_eq_true, hM u]
  constructor
  · rintro (h1 | h1)
    · exact ball_mono h h1 (Nat.le_succ k)
    · exact h1.1
  · intro h1
    cases e : (ballN a wi v k).testBit u
    · refine .inr ⟨h1, fun i hi => ?_⟩
      cases e2 : (ballN a wi v i).testBit u
      · rfl
      · rw [ball_mono h e2 (show i ≤ k by omega)] at e; cases e
    · exact .inl rfl
theorem PartD.next {a : List Nat} {wi v n k M : Nat} {D D' : Nat → Int} (h : DistI a wi v n) (hD : PartD a wi v n k D) (hM : LayI a wi v (k + 1) M) (hd : ∀ u, u < n → D' u = if M.testBit u = true then ((k + 1 : Nat) : Int) else D u) : PartD a wi v n (k + 1) D' := fun u hu => by
  rw [hd u hu]
  by_cases e : M.testBit u = true
  · rw [if_pos e]
    obtain ⟨h1, h2⟩ := (hM u).1 e
    exact .inr ⟨k + 1, Nat.le_refl _, rfl, h1, h2⟩
  · rw [if_neg e]
    rcases hD u hu with ⟨h1, h2⟩ | ⟨j, h1, h2, h3⟩
    · refine .inl ⟨h1, ?_⟩
      rw [← hM.seen h, Nat.testBit_or, h2]
      simpa using e
    · exact .inr ⟨j, by omega, h2, h3⟩
theorem fix_all {a : List Nat} {wi v n k : Nat} (h : DistI a wi v n) (hk : ballN a wi v (k + 1) = ballN a wi v k) : ∀ j, ballN a wi v (k + j) = ballN a wi v k
  | 0 => rfl
  | j + 1 => by
    have ih := fix_all h hk j
    have e : ballN a wi v (k + (j + 1)) = ballN a wi v (k + j) ||| (orN a (bitsN (ballN a wi v (k + j))) &&& wi) := rfl
    rw [e, ih]
    exact hk
theorem PartD.end_ {a : List Nat} {wi v n k : Nat} {D : Nat → Int} (h : DistI a wi v n) (hD : PartD a wi v n k D) (hL : LayI a wi v k 0) : IsDist a wi v n D := by
  have h1 := hL.next h
  have h2 : andN (orN a (bitsN 0) &&& wi) (ballN a wi v k) = 0 := by
    have : orN a (bitsN 0) = 0 := by simp [bitsN_zero, orN]
    rw [this]
    have hz := andN_le (0 &&& wi) (ballN a wi v k)
    rw [Nat.zero_and] at hz ⊢
    omega
  rw [h2] at h1
  have h3 := h1.seen h
  rw [Nat.or_zero] at h3
  have hf := fix_all h h3.symm
  intro u hu
  rcases hD u hu with ⟨g1, g2⟩ | ⟨j, g1, g2, g3, g4⟩
  · refine .inl ⟨g1, fun l => ?_⟩
    by_cases hl : l ≤ k
    · cases e : (ballN a wi v l).testBit u
      · rfl
      · rw [ball_mono h e hl] at g2; cases g2
    · have := hf (l - k)
      rw [show k + (l - k) = l by omega] at this
      rw [this]; exact g2
  · exact .inr ⟨j, g2, g3, g4⟩
/-- The reference's queue: Q1 stand d steps off, Q2 one more; x is being looked at, T of its row is done. -/
structure DP (a : List Nat) (wi v n : Nat) (D : Nat → Int) (M d x : Nat) (T Q1 Q2 : List Nat) : Prop where
  cor : ∀ u, u < n → (D u = -1 ∧ M.testBit u = false) ∨ (M.testBit u = true ∧ ∃ j : Nat, j ≤ d + 1 ∧ D u = j ∧ (ballN a wi v j).testBit u = true ∧ ∀ i, i < j → (ballN a wi v i).testBit u = false)
  lt : M < 2 ^ n
  q1 : ∀ y ∈ Q1, M.testBit y = true ∧ D y = d
  q2 : ∀ y ∈ Q2, M.testBit y = true ∧ D y = d + 1
  far : ∀ y, M.testBit y = true → D y = d + 1 → y ∈ Q2
  all : ∀ u, (ballN a wi v d).testBit u = true → M.testBit u = true
  done : ∀ y, M.testBit y = true → y ≠ x → y ∉ Q1 → y ∉ Q2 → ∀ u, wi.testBit u = true → (a.getD y 0).testBit u = true → M.testBit u = true
  part : ∀ u ∈ T, wi.testBit u = true → M.testBit u = true
  hx : M.testBit x = true ∧ D x = d
structure DQ (a : List Nat) (wi v n : Nat) (D : Nat → Int) (M d : Nat) (Q1 Q2 : List Nat) : Prop where
  cor : ∀ u, u < n → (D u = -1 ∧ M.testBit u = false) ∨ (M.testBit u = true ∧ ∃ j : Nat, j ≤ d + 1 ∧ D u = j ∧ (ballN a wi v j).testBit u = true ∧ ∀ i, i < j → (ballN a wi v i).testBit u = false)
  lt : M < 2 ^ n
  q1 : ∀ y ∈ Q1, M.testBit y = true ∧ D y = d
  q2 : ∀ y ∈ Q2, M.testBit y = true ∧ D y = d + 1
  far : ∀ y, M.testBit y = true → D y = d + 1 → y ∈ Q2
  all : ∀ u, (ballN a wi v d).testBit u = true → M.testBit u = true
  done : ∀ y, M.testBit y = true → y ∉ Q1 → y ∉ Q2 → ∀ u, wi.testBit u = true → (a.getD y 0).testBit u = true → M.testBit u = true
theorem DQ.start {a : List Nat} {wi v n : Nat} (h : DistI a wi v n) : DQ a wi v n (fun u => if v = u then 0 else -1) (bit v) 0 [v] [] := by
  have hb : ∀ u, (bit v).testBit u = true ↔ v = u := fun u => by rw [testBit_bit]; simp
  refine ⟨fun u hu => ?_, ball_lt h 0, fun y hy => ?_, fun y hy => (by cases hy), fun y hy hd => ?_, fun u hu => hu, fun y hy h1 h2 u hw hu => ?_⟩
  · by_cases e : v = u
    · subst e
      exact .inr ⟨(hb v).2 rfl, 0, by omega, by simp, by simp [ballN, testBit_bit], fun i h => by omega⟩
    · refine .inl ⟨by simp [e], ?_⟩
      rw [testBit_bit]; simpa using e
  · have : y = v := by simpa using hy
    subst this
    exact ⟨(hb y).2 rfl, by simp⟩
  · have := (hb y).1 hy
    subst this
    simp at hd
  · have := (hb y).1 hy
    subst this
    exact absurd (List.mem_singleton.2 rfl) h1
theorem DQ.least {a : List Nat} {wi v n : Nat} {D : Nat → Int} {M d : Nat} {Q1 Q2 : List Nat} (h : DQ a wi v n D M d Q1 Q2) {x e : Nat} (hx : x < n) (hb : (ballN a wi v e).testBit x = true) : ∀ j : Nat, D x = j → j ≤ e := fun j hj => by
  rcases h.cor x hx with ⟨h1, _⟩ | ⟨_, l, _, h2, _, h3⟩
  · omega
  · have : l = j := by omega
    subst this
    apply Nat.le_of_not_lt
    intro hl
    rw [h3 e hl] at hb; cases hb
theorem DQ.shift {a : List Nat} {wi v n : Nat} {D : Nat → Int} {M d : Nat} {Q2 : List Nat} (hI : DistI a wi v n) (h : DQ a wi v n D M d [] Q2) : DQ a wi v n D M (d + 1) Q2 [] := by
  refine ⟨fun u hu => ?_, h.lt, fun y hy => ⟨(h.q2 y hy).1, by rw [(h.q2 y hy).2]; omega⟩, fun y hy => (by cases hy), fun y hy hd => ?_, fun u hu => ?_, fun y hy h1 _ => h.done y hy (by simp) h1⟩
  · rcases h.cor u hu with h1 | ⟨h1, j, h2, h3⟩
    · exact .inl h1
    · exact .inr ⟨h1, j, by omega, h3⟩
  · have hyn := bit_lt_of h.lt hy
    rcases h.cor y hyn with ⟨_, h1⟩ | ⟨_, j, h2, h3, _⟩
    · rw [h1] at hy; cases hy
    · omega
  · rcases (ball_succ hI d u).1 hu with h1 | ⟨hw, x, hx, hb⟩
    · exact h.all u h1
    · have hxn := bit_lt_of (ball_lt hI d) hx
      refine h.done x (h.all x hx) (by simp) (fun hq => ?_) u hw hb
      have := h.least hxn hx (d + 1) (by rw [(h.q2 x hq).2]; omega)
      omega
theorem DQ.norm {a : List Nat} {wi v n : Nat} {D : Nat → Int} {M d : Nat} {Q1 Q2 Q : List Nat} {x : Nat} (hI : DistI a wi v n) (h : DQ a wi v n D M d Q1 Q2) (e : Q1 ++ Q2 = x :: Q) : ∃ d' R1 R2, Q = R1 ++ R2 ∧ DQ a wi v n D M d' (x :: R1) R2 := by
  cases Q1 with
  | cons y R =>
    simp only [List.cons_append, List.cons.injEq] at e
    obtain ⟨rfl, rfl⟩ := e
    exact ⟨d, R, Q2, rfl, h⟩
  | nil =>
    simp only [List.nil_append] at e
    subst e
    exact ⟨d + 1, Q, [], by simp, h.shift hI⟩
theorem DQ.pop {a : List Nat} {wi v n : Nat} {D : Nat → Int} {M d x : Nat} {Q1 Q2 : List Nat} (h : DQ a wi v n D M d (x :: Q1) Q2) : DP a wi v n D M d x [] Q1 Q2 :=
  ⟨h.cor, h.lt, fun y hy => h.q1 y (List.mem_cons_of_mem _ hy), h.q2, h.far, h.all, fun y hy hne h1 h2 => h.done y hy (fun hm => by rcases List.mem_cons.1 hm with h | h; exact hne h; exact h1 h) h2, fun u hu => (by cases hu), h.q1 x (List.mem_cons_self ..)⟩
theorem DP.close {a : List Nat} {wi v n : Nat} {D : Nat → Int} {M d x : Nat} {T Q1 Q2 : List Nat} (h : DP a wi v n D M d x T Q1 Q2) (hT : ∀ u, (a.getD x 0).testBit u = true → u ∈ T) : DQ a wi v n D M d Q1 Q2 :=
  ⟨h.cor, h.lt, h.q1, h.q2, h.far, h.all, fun y hy h1 h2 u hw hu => by
    by_cases e : y = x
    · subst e; exact h.part u (hT u hu) hw
    · exact h.done y hy e h1 h2 u hw hu⟩
theorem DP.skip {a : List Nat} {wi v n : Nat} {D : Nat → Int} {M d x u : Nat} {T Q1 Q2 : List Nat} (h : DP a wi v n D M d x T Q1 Q2) (hu : wi.testBit u = true → M.testBit u = true) : DP a wi v n D M d x (T ++ [u]) Q1 Q2 :=
  ⟨h.cor, h.lt, h.q1, h.q2, h.far, h.all, h.done, fun y hy hw => by
    rw [List.mem_append, List.mem_singleton] at hy
    rcases hy with hy | rfl
    · exact h.part y hy hw
    · exact hu hw, h.hx⟩
theorem DP.neg {a : List Nat} {wi v n : Nat} {D : Nat → Int} {M d x u : Nat} {T Q1 Q2 : List Nat} (h : DP a wi v n D M d x T Q1 Q2) (hu : u < n) : D u < 0 ↔ M.testBit u = false := by
  rcases h.cor u hu with ⟨h1, h2⟩ | ⟨h1, j, _, h2, _⟩
  · rw [h1, h2]; simp
  · rw [h1, h2]; simp
theorem DP.bound {a : List Nat} {wi v n : Nat} {D : Nat → Int} {M d x u : Nat} {T Q1 Q2 : List Nat} (hn : n ≤ 16) (h : DP a wi v n D M d x T Q1 Q2) (hu : u < n) : -1 ≤ D u := by
  rcases h.cor u hu with ⟨h1, _⟩ | ⟨_, j, _, h2, _⟩ <;> omega
theorem DP.add {a : List Nat} {wi v n : Nat} {D : Nat → Int} {M d x u : Nat} {T Q1 Q2 : List Nat} (hI : DistI a wi v n) (h : DP a wi v n D M d x T Q1 Q2) (hu : u < n) (hw : wi.testBit u = true) (hb : (a.getD x 0).testBit u = true) (hM : M.testBit u = false) :
    DP a wi v n (fun y => if u = y then D x + 1 else D y) (M ||| bit u) d x (T ++ [u]) Q1 (Q2 ++ [u]) := by
  have hM' : ∀ y, (M ||| bit u).testBit y = true ↔ M.testBit y = true ∨ u = y := fun y => by rw [Nat.testBit_or, testBit_bit]; simp
  have hne : ∀ y, M.testBit y = true → u ≠ y := fun y hy e => by subst e; rw [hM] at hy; cases hy
  have hxn := bit_lt_of h.lt h.hx.1
  have hDx : D x + 1 = ((d + 1 : Nat) : Int) := by rw [h.hx.2]; omega
  have hbx : (ballN a wi v d).testBit x = true := by
    rcases h.cor x hxn with ⟨h1, _⟩ | ⟨_, j, _, h2, h3, _⟩
    · have := h.hx.2; omega
    · have : j = d := by have := h.hx.2; omega
      subst this; exact h3
  refine ⟨fun y hy => ?_, hI.wide.or_lt h.lt hu, fun y hy => ?_, fun y hy => ?_, fun y hy hd => ?_, fun y hy => (hM' y).2 (.inl (h.all y hy)), fun y hy h1 h2 h3 z hz hbz => ?_, fun y hy hwy => ?_, ?_⟩
  · by_cases e : u = y
    · subst e
      rw [if_pos rfl]
      refine .inr ⟨(hM' u).2 (.inr rfl), d + 1, Nat.le_refl _, hDx, (ball_succ hI d u).2 (.inr ⟨hw, x, hbx, hb⟩), fun i hi => ?_⟩
      cases e2 : (ballN a wi v i).testBit u
      · rfl
      · rw [h.all u (ball_mono hI e2 (show i ≤ d by omega))] at hM; cases hM
    · rw [if_neg e]
      rcases h.cor y hy with ⟨h1, h2⟩ | ⟨h1, h2⟩
      · refine .inl ⟨h1, ?_⟩
        rw [Nat.testBit_or, testBit_bit, h2]; simpa using e
      · exact .inr ⟨(hM' y).2 (.inl h1), h2⟩
  · obtain ⟨h1, h2⟩ := h.q1 y hy
    exact ⟨(hM' y).2 (.inl h1), by rw [if_neg (hne y h1)]; exact h2⟩
  · rw [List.mem_append, List.mem_singleton] at hy
    rcases hy with hy | rfl
    · obtain ⟨h1, h2⟩ := h.q2 y hy
      exact ⟨(hM' y).2 (.inl h1), by rw [if_neg (hne y h1)]; exact h2⟩
    · exact ⟨(hM' y).2 (.inr rfl), by rw [if_pos rfl, hDx]; omega⟩
  · rw [List.mem_append, List.mem_singleton]
    by_cases e : u = y
    · exact .inr e.symm
    · rw [if_neg e] at hd
      rcases (hM' y).1 hy with h1 | h1
      · exact .inl (h.far y h1 hd)
      · exact absurd h1 e
  · rw [List.mem_append, List.mem_singleton, not_or] at h3
    rcases (hM' y).1 hy with h4 | h4
    · exact (hM' z).2 (.inl (h.done y h4 h1 h2 h3.1 z hz hbz))
    · exact absurd h4.symm h3.2
  · rw [List.mem_append, List.mem_singleton] at hy
    rcases hy with hy | rfl
    · exact (hM' y).2 (.inl (h.part y hy hwy))
    · exact (hM' y).2 (.inr rfl)
  · obtain ⟨h1, h2⟩ := h.hx
    exact ⟨(hM' x).2 (.inl h1), by rw [if_neg (hne x h1)]; exact h2⟩
theorem DQ.end_ {a : List Nat} {wi v n : Nat} {D : Nat → Int} {M d : Nat} (hI : DistI a wi v n) (h : DQ a wi v n D M d [] []) : IsDist a wi v n D := by
  have hall : ∀ k u, (ballN a wi v k).testBit u = true → M.testBit u = true := by
    intro k
    induction k with
    | zero => exact fun u hu => h.all u (ball_mono hI hu (Nat.zero_le d))
    | succ k ih =>
      intro u hu
      rcases (ball_succ hI k u).1 hu with h1 | ⟨hw, x, hx, hb⟩
      · exact ih u h1
      · exact h.done x (ih x hx) (by simp) (by simp) u hw hb
  intro u hu
  rcases h.cor u hu with ⟨h1, h2⟩ | ⟨_, j, _, h2⟩
  · refine .inl ⟨h1, fun k => ?_⟩
    cases e : (ballN a wi v k).testBit u
    · rfl
    · rw [hall k u e] at h2; cases h2
  · exact .inr ⟨j, h2⟩
end Go.Proofs.YtpdlcnpmljfclaaDoor
