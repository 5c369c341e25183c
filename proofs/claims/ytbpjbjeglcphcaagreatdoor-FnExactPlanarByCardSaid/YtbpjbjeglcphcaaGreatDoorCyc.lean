/- Cycles of a permutation of a finite set: plain facts. -/
import Derived.Test.YtbpjbjeglcphcaaGreatDoorAroM
namespace Go.Proofs.YtbpjbjeglcphcaaGreatDoor
def itF {α : Type} (f : α → α) : Nat → α → α
  | 0, x => x
  | k + 1, x => itF f k (f x)
theorem itF_succ {α : Type} (f : α → α) : ∀ (k : Nat) (x : α), itF f (k + 1) x = f (itF f k x)
  | 0, _ => rfl
  | k + 1, x => by rw [itF, itF_succ f k]; rfl
theorem itF_add {α : Type} (f : α → α) : ∀ (k m : Nat) (x : α), itF f (k + m) x = itF f m (itF f k x)
  | k, 0, x => rfl
  | k, m + 1, x => by rw [← Nat.add_assoc, itF_succ, itF_add f k m, itF_succ]
structure PermF {α : Type} (D : List α) (f : α → α) : Prop where
  maps : ∀ x, x ∈ D → f x ∈ D
  inj : ∀ x y, x ∈ D → y ∈ D → f x = f y → x = y
theorem itF_in {α : Type} {D : List α} {f : α → α} (h : PermF D f) {x : α} (hx : x ∈ D) : ∀ k, itF f k x ∈ D
  | 0 => hx
  | k + 1 => by rw [itF_succ]; exact h.maps _ (itF_in h hx k)
theorem itF_inj {α : Type} {D : List α} {f : α → α} (h : PermF D f) : ∀ (k : Nat) {x y : α}, x ∈ D → y ∈ D → itF f k x = itF f k y → x = y
  | 0, _, _, _, _, e => e
  | k + 1, _, _, hx, hy, e => h.inj _ _ hx hy (itF_inj h k (h.maps _ hx) (h.maps _ hy) e)
theorem itF_period {α : Type} {D : List α} {f : α → α} (h : PermF D f) {x : α} (hx : x ∈ D) : ∃ p, 0 < p ∧ itF f p x = x := by
  classical
  apply Classical.byContradiction
  intro hno
  have hnd : ((List.range (D.length + 1)).map fun i => itF f i x).Nodup := by
    rw [List.Nodup, List.pairwise_map]
    refine List.Pairwise.imp_of_mem ?_ List.pairwise_lt_range
    intro i j _ _ hij e
    obtain ⟨d, rfl⟩ : ∃ d, j = i + d := ⟨j - i, by omega⟩
    rw [Nat.add_comm, itF_add] at e
    exact hno ⟨d, by omega, (itF_inj h i hx (itF_in h hx d) e).symm⟩
  have := nodup_lenA hnd (E := D) (fun y hy => by obtain ⟨i, -, rfl⟩ := List.mem_map.1 hy; exact itF_in h hx i)
  simp at this
  omega
def LeadF {α : Type} (f : α → α) (x y : α) : Prop := ∃ k, itF f k x = y
theorem LeadF.refl {α : Type} (f : α → α) (x : α) : LeadF f x x := ⟨0, rfl⟩
theorem LeadF.step {α : Type} (f : α → α) (x : α) : LeadF f x (f x) := ⟨1, rfl⟩
theorem LeadF.trans {α : Type} {f : α → α} {x y z : α} (h : LeadF f x y) (k : LeadF f y z) : LeadF f x z := by
  obtain ⟨i, rfl⟩ := h; obtain ⟨j, rfl⟩ := k
  exact ⟨i + j, itF_add f i j x⟩
theorem LeadF.isIn {α : Type} {D : List α} {f : α → α} (h : PermF D f) {x y : α} (hx : x ∈ D) (hl : LeadF f x y) : y ∈ D := by
  obtain ⟨k, rfl⟩ := hl; exact itF_in h hx k
theorem itF_mul {α : Type} {f : α → α} {p : Nat} {x : α} (h : itF f p x = x) : ∀ k, itF f (k * p) x = x
  | 0 => by rw [Nat.zero_mul]; rfl
  | k + 1 => by rw [Nat.succ_mul, itF_add, itF_mul h k, h]
theorem LeadF.symm {α : Type} {D : List α} {f : α → α} (h : PermF D f) {x y : α} (hx : x ∈ D) (hl : LeadF f x y) : LeadF f y x := by
  obtain ⟨k, rfl⟩ := hl
  obtain ⟨p, hp, e⟩ := itF_period h hx
  have h1 : k ≤ k * p := Nat.le_mul_of_pos_right k hp
  refine ⟨k * p - k, ?_⟩
  rw [← itF_add, Nat.add_sub_cancel' h1]
  exact itF_mul e k
/-- Closed sets hold what is led to. -/
theorem LeadF.closed {α : Type} {f : α → α} {C : α → Prop} (hC : ∀ x, C x → C (f x)) {x y : α} (hx : C x) (hl : LeadF f x y) : C y := by
  obtain ⟨k, rfl⟩ := hl
  have : ∀ k, C (itF f k x) := fun k => by
    induction k with
    | zero => exact hx
    | succ k ih => rw [itF_succ]; exact hC _ ih
  exact this k
/-- One of each cycle. -/
structure RepF {α : Type} (D : List α) (f : α → α) (S : List α) : Prop where
  all : ∀ s, s ∈ S → s ∈ D
  apart : S.Pairwise fun a b => ¬ LeadF f a b
  cover : ∀ y, y ∈ D → ∃ s, s ∈ S ∧ LeadF f s y
theorem rep_ex {α : Type} {D : List α} {f : α → α} (h : PermF D f) : ∃ S, RepF D f S := by
  have key : ∀ L : List α, (∀ x, x ∈ L → x ∈ D) → ∃ S : List α, (∀ s, s ∈ S → s ∈ D) ∧ (S.Pairwise fun a b => ¬ LeadF f a b) ∧ ∀ y, y ∈ L → ∃ s, s ∈ S ∧ LeadF f s y := fun L => by
    induction L with
    | nil => intro _; exact ⟨[], by simp, by simp, by simp⟩
    | cons x L ih =>
      intro hL
      obtain ⟨S, h1, h2, h3⟩ := ih (fun y hy => hL y (by simp [hy]))
      by_cases hc : ∃ s, s ∈ S ∧ LeadF f s x
      · refine ⟨S, h1, h2, fun y hy => ?_⟩
        rcases List.mem_cons.1 hy with rfl | hy
        · exact hc
        · exact h3 y hy
      · have hx := hL x (by simp)
        refine ⟨x :: S, fun s hs => ?_, ?_, fun y hy => ?_⟩
        · rcases List.mem_cons.1 hs with rfl | hs
          · exact hx
          · exact h1 s hs
        · rw [List.pairwise_cons]
          exact ⟨fun s hs hl => hc ⟨s, hs, hl.symm h hx⟩, h2⟩
        · rcases List.mem_cons.1 hy with rfl | hy
          · exact ⟨y, by simp, LeadF.refl f y⟩
          · obtain ⟨s, hs, hl⟩ := h3 y hy
            exact ⟨s, by simp [hs], hl⟩
  obtain ⟨S, h1, h2, h3⟩ := key D (fun _ h => h)
  exact ⟨S, h1, h2, h3⟩
/-- Where elements go to elements and cycles to cycles, there are no more of the first. -/
theorem rep_le {α β : Type} [DecidableEq β] {D : List α} {f : α → α} {S : List α} {D' : List β} {f' : β → β} {S' : List β} (h' : PermF D' f') (hS : RepF D f S) (hS' : RepF D' f' S') (r : α → β) (hr : ∀ x, x ∈ D → r x ∈ D')
    (hb : ∀ x y, x ∈ D → y ∈ D → LeadF f' (r x) (r y) → LeadF f x y) : S.length ≤ S'.length := by
  by_cases hne : ∃ b : β, b ∈ S'
  case neg =>
    have : S = [] := by
      apply List.eq_nil_iff_forall_not_mem.2
      intro x hx
      obtain ⟨s, hs, -⟩ := hS'.cover _ (hr x (hS.all x hx))
      exact hne ⟨s, hs⟩
    simp [this]
  obtain ⟨b0, -⟩ := hne
  have key : ∀ x, ∃ y, x ∈ D → y ∈ S' ∧ LeadF f' y (r x) := fun x => by
    by_cases hx : x ∈ D
    · obtain ⟨s, h1, h2⟩ := hS'.cover (r x) (hr x hx)
      exact ⟨s, fun _ => ⟨h1, h2⟩⟩
    · exact ⟨b0, fun h => absurd h hx⟩
  obtain ⟨c, hc⟩ := Classical.axiomOfChoice key
  have hnd : (S.map c).Nodup := by
    rw [List.Nodup, List.pairwise_map]
    refine List.Pairwise.imp_of_mem ?_ hS.apart
    intro a b ha hb' hab e
    obtain ⟨h1, h2⟩ := hc a (hS.all a ha)
    obtain ⟨h3, h4⟩ := hc b (hS.all b hb')
    rw [← e] at h4
    exact hab (hb a b (hS.all a ha) (hS.all b hb') ((h2.symm h' (hS'.all _ h1)).trans h4))
  have := nodup_lenA hnd (E := S') (fun y hy => by obtain ⟨x, hx, rfl⟩ := List.mem_map.1 hy; exact (hc x (hS.all x hx)).1)
  simpa using this
theorem rep_len {α : Type} [DecidableEq α] {D : List α} {f : α → α} {S S' : List α} (h : PermF D f) (hS : RepF D f S) (hS' : RepF D f S') : S.length = S'.length :=
  Nat.le_antisymm (rep_le h hS hS' id (fun _ h => h) (fun _ _ _ _ h => h)) (rep_le h hS' hS id (fun _ h => h) (fun _ _ _ _ h => h))
open Classical in
/-- How many cycles. -/
noncomputable def cycF {α : Type} (D : List α) (f : α → α) : Nat := if h : ∃ S, RepF D f S then (Classical.choose h).length else 0
theorem cyc_eq {α : Type} [DecidableEq α] {D : List α} {f : α → α} {S : List α} (h : PermF D f) (hS : RepF D f S) : cycF D f = S.length := by
  have he : ∃ S, RepF D f S := ⟨S, hS⟩
  unfold cycF
  rw [dif_pos he]
  exact rep_len h (Classical.choose_spec he) hS
/-- Two elements exchanged ahead of it. -/
def swapF {α : Type} [DecidableEq α] (a b : α) (f : α → α) (x : α) : α := if x = a then f b else if x = b then f a else f x
theorem swap_a {α : Type} [DecidableEq α] (a b : α) (f : α → α) : swapF a b f a = f b := by rw [swapF, if_pos rfl]
theorem swap_b {α : Type} [DecidableEq α] {a b : α} (f : α → α) : swapF a b f b = f a := by
  unfold swapF
  by_cases h : b = a
  · rw [if_pos h, h]
  · rw [if_neg h, if_pos rfl]
theorem swap_o {α : Type} [DecidableEq α] {a b x : α} (f : α → α) (h1 : x ≠ a) (h2 : x ≠ b) : swapF a b f x = f x := by rw [swapF, if_neg h1, if_neg h2]
theorem swap_swap {α : Type} [DecidableEq α] (a b : α) (f : α → α) : swapF a b (swapF a b f) = f := by
  funext x
  by_cases h1 : x = a
  · subst h1; rw [swap_a, swap_b]
  · by_cases h2 : x = b
    · subst h2; rw [swap_b, swap_a]
    · rw [swap_o _ h1 h2, swap_o _ h1 h2]
theorem swap_perm {α : Type} [DecidableEq α] {D : List α} {f : α → α} (h : PermF D f) {a b : α} (ha : a ∈ D) (hb : b ∈ D) : PermF D (swapF a b f) := by
  refine ⟨fun x hx => ?_, fun x y hx hy e => ?_⟩
  · unfold swapF
    split
    · exact h.maps _ hb
    · split
      · exact h.maps _ ha
      · exact h.maps _ hx
  · have hs : ∀ z, z ∈ D → ∃ z', z' ∈ D ∧ swapF a b f z = f z' ∧ ((z = a ∧ z' = b) ∨ (z = b ∧ z' = a) ∨ (z ≠ a ∧ z ≠ b ∧ z' = z)) := fun z hz => by
      by_cases h1 : z = a
      · exact ⟨b, hb, by rw [h1, swap_a], .inl ⟨h1, rfl⟩⟩
      · by_cases h2 : z = b
        · exact ⟨a, ha, by rw [h2, swap_b], .inr (.inl ⟨h2, rfl⟩)⟩
        · exact ⟨z, hz, swap_o _ h1 h2, .inr (.inr ⟨h1, h2, rfl⟩)⟩
    obtain ⟨x', hx', e1, hcx⟩ := hs x hx
    obtain ⟨y', hy', e2, hcy⟩ := hs y hy
    rw [e1, e2] at e
    have := h.inj _ _ hx' hy' e
    subst this
    rcases hcx with ⟨h1, h2⟩ | ⟨h1, h2⟩ | ⟨h1, h2, h3⟩ <;> rcases hcy with ⟨k1, k2⟩ | ⟨k1, k2⟩ | ⟨k1, k2, k3⟩ <;> simp_all
theorem least_ex {p : Nat → Prop} (h : ∃ k, p k) : ∃ k, p k ∧ ∀ j, j < k → ¬ p j := by
  obtain ⟨k, hk⟩ := h
  induction k using Nat.strongRecOn with
  | _ k ih =>
    by_cases hc : ∃ j, j < k ∧ p j
    · obtain ⟨j, hj, hp⟩ := hc
      exact ih j hj hp
    · exact ⟨k, hk, fun j hj hp => hc ⟨j, hj, hp⟩⟩
/-- A cycle falls apart. -/
theorem cyc_split {α : Type} [DecidableEq α] {D : List α} {f : α → α} (h : PermF D f) {a b : α} (ha : a ∈ D) (hb : b ∈ D) (hab : a ≠ b) (hl : LeadF f a b) :
    cycF D (swapF a b f) = cycF D f + 1 ∧ ¬ LeadF (swapF a b f) a b := by
  have hp := swap_perm h ha hb
  have hback := hl.symm h ha
  -- the way from b to a
  have hleast : ∃ k, 0 < k ∧ itF f k b = a ∧ ∀ j, 0 < j → j < k → itF f j b ≠ a := by
    obtain ⟨k, hk, hm⟩ := least_ex hback
    refine ⟨k, ?_, hk, fun j _ hj => hm j hj⟩
    apply Nat.pos_of_ne_zero
    intro h0
    subst h0
    exact hab hk.symm
  obtain ⟨k, hk, hka, hmin⟩ := hleast
  have hnb : ∀ i, 0 < i → i ≤ k → itF f i b ≠ b := fun i h1 h2 e => by
    by_cases hik : i = k
    · subst hik; exact hab (hka.symm.trans e)
    · have h3 : itF f (k - i) b = a := by
        have := itF_add f i (k - i) b
        rw [e, Nat.add_sub_cancel' h2, hka] at this
        exact this.symm
      exact hmin (k - i) (by omega) (by omega) h3
  have hno : ¬ LeadF (swapF a b f) a b := fun hc => by
    have := LeadF.closed (C := fun x => ∃ i, 0 < i ∧ i ≤ k ∧ itF f i b = x) (fun x hx => by
      obtain ⟨i, h1, h2, rfl⟩ := hx
      by_cases hik : i = k
      · subst hik
        rw [hka, swap_a]
        exact ⟨1, by omega, hk, rfl⟩
      · rw [swap_o _ (hmin i h1 (by omega)) (hnb i h1 h2)]
        exact ⟨i + 1, by omega, by omega, itF_succ f i b⟩) ⟨k, hk, Nat.le_refl _, hka⟩ hc
    obtain ⟨i, h1, h2, e⟩ := this
    exact hnb i h1 h2 e
  refine ⟨?_, hno⟩
  obtain ⟨S, hS⟩ := rep_ex h
  obtain ⟨s0, hs0, hl0⟩ := hS.cover a ha
  -- without the representative of a
  obtain ⟨T, hT1, hT2, hT3⟩ : ∃ T : List α, (∀ t, t ∈ T → t ∈ D ∧ ¬ LeadF f t a) ∧ (T.Pairwise fun a b => ¬ LeadF f a b) ∧ ∀ y, y ∈ D → ¬ LeadF f y a → ∃ t, t ∈ T ∧ LeadF f t y := by
    classical
    refine ⟨S.filter fun s => decide (¬ LeadF f s a), fun t ht => ?_, hS.apart.filter _, fun y hy hn => ?_⟩
    · obtain ⟨h1, h2⟩ := List.mem_filter.1 ht
      exact ⟨hS.all t h1, of_decide_eq_true h2⟩
    · obtain ⟨s, hs, hl2⟩ := hS.cover y hy
      exact ⟨s, List.mem_filter.2 ⟨hs, decide_eq_true (fun hc => hn ((hl2.symm h (hS.all s hs)).trans hc))⟩, hl2⟩
  have hR1 : RepF D f (a :: T) := by
    refine ⟨fun s hs => ?_, ?_, fun y hy => ?_⟩
    · rcases List.mem_cons.1 hs with rfl | hs
      · exact ha
      · exact (hT1 s hs).1
    · rw [List.pairwise_cons]
      exact ⟨fun t ht hc => (hT1 t ht).2 (hc.symm h ha), hT2⟩
    · by_cases hc : LeadF f y a
      · exact ⟨a, by simp, hc.symm h hy⟩
      · obtain ⟨t, ht, h2⟩ := hT3 y hy hc
        exact ⟨t, by simp [ht], h2⟩
  have hoff : ∀ x, x ∈ D → ¬ LeadF f x a → ∀ k, itF (swapF a b f) k x = itF f k x := fun x hx hn k => by
    induction k with
    | zero => rfl
    | succ k ih =>
      rw [itF_succ, itF_succ, ih]
      exact swap_o _ (fun e => hn ⟨k, e⟩) (fun e => hn (LeadF.trans ⟨k, e⟩ hback))
  have hoffL : ∀ x y, x ∈ D → ¬ LeadF f x a → (LeadF (swapF a b f) x y ↔ LeadF f x y) := fun x y hx hn => by
    constructor
    · rintro ⟨k, e⟩; exact ⟨k, by rw [← hoff x hx hn k]; exact e⟩
    · rintro ⟨k, e⟩; exact ⟨k, by rw [hoff x hx hn k]; exact e⟩
  have hcov : ∀ i, LeadF (swapF a b f) a (itF f i a) ∨ LeadF (swapF a b f) b (itF f i a) := fun i => by
    induction i with
    | zero => exact .inl (LeadF.refl _ _)
    | succ i ih =>
      rw [itF_succ]
      by_cases h1 : itF f i a = a
      · rw [h1]; right; exact ⟨1, swap_b f⟩
      · by_cases h2 : itF f i a = b
        · rw [h2]; left; exact ⟨1, swap_a a b f⟩
        · have e : f (itF f i a) = swapF a b f (itF f i a) := (swap_o f h1 h2).symm
          rw [e]
          rcases ih with ih | ih
          · exact .inl (ih.trans (LeadF.step _ _))
          · exact .inr (ih.trans (LeadF.step _ _))
  have hR2 : RepF D (swapF a b f) (a :: b :: T) := by
    refine ⟨fun s hs => ?_, ?_, fun y hy => ?_⟩
    · rcases List.mem_cons.1 hs with rfl | hs
      · exact ha
      · rcases List.mem_cons.1 hs with rfl | hs
        · exact hb
        · exact (hT1 s hs).1
    · rw [List.pairwise_cons, List.pairwise_cons]
      refine ⟨fun t ht => ?_, fun t ht => ?_, ?_⟩
      · rcases List.mem_cons.1 ht with rfl | ht
        · exact hno
        · intro hc
          have := (hoffL t a (hT1 t ht).1 (hT1 t ht).2).1 (hc.symm hp ha)
          exact (hT1 t ht).2 this
      · intro hc
        have := (hoffL t b (hT1 t ht).1 (hT1 t ht).2).1 (hc.symm hp hb)
        exact (hT1 t ht).2 (this.trans hback)
      · refine List.Pairwise.imp_of_mem ?_ hT2
        intro x y hx hy hn hc
        exact hn ((hoffL x y (hT1 x hx).1 (hT1 x hx).2).1 hc)
    · by_cases hc : LeadF f y a
      · obtain ⟨i, rfl⟩ := hc.symm h hy
        rcases hcov i with h1 | h1
        · exact ⟨a, by simp, h1⟩
        · exact ⟨b, by simp, h1⟩
      · obtain ⟨t, ht, h2⟩ := hT3 y hy hc
        exact ⟨t, by simp [ht], (hoffL t y (hT1 t ht).1 (hT1 t ht).2).2 h2⟩
  rw [cyc_eq hp hR2, cyc_eq h hR1]
  simp
/-- Two cycles become one. -/
theorem cyc_join {α : Type} [DecidableEq α] {D : List α} {f : α → α} (h : PermF D f) {a b : α} (ha : a ∈ D) (hb : b ∈ D) (hl : ¬ LeadF f a b) :
    cycF D f = cycF D (swapF a b f) + 1 ∧ LeadF (swapF a b f) a b := by
  have hp := swap_perm h ha hb
  have hab : a ≠ b := fun e => hl (by rw [e]; exact LeadF.refl f b)
  have hlead : LeadF (swapF a b f) a b := by
    obtain ⟨p, hp0, e⟩ := itF_period h hb
    have key : ∀ i, i < p → ∃ j, itF (swapF a b f) j a = itF f (i + 1) b := fun i hi => by
      induction i with
      | zero => exact ⟨1, swap_a a b f⟩
      | succ i ih =>
        obtain ⟨j, hj⟩ := ih (by omega)
        by_cases h2 : itF f (i + 1) b = b
        · exact ⟨1, by rw [itF_succ f (i + 1) b, h2]; exact swap_a a b f⟩
        · refine ⟨j + 1, ?_⟩
          rw [itF_succ, hj, itF_succ f (i + 1)]
          exact swap_o _ (fun e2 => hl (LeadF.symm h hb ⟨i + 1, e2⟩)) h2
    obtain ⟨j, hj⟩ := key (p - 1) (by omega)
    exact ⟨j, by rw [hj, Nat.sub_add_cancel hp0]; exact e⟩
  have := (cyc_split hp ha hb hab hlead).1
  rw [swap_swap] at this
  exact ⟨this, hlead⟩
end Go.Proofs.YtbpjbjeglcphcaaGreatDoor
