/- Trees of parts: walks from the root, the stack of open nodes; plain facts. -/
import Derived.Test.YtfccpencgengaaaDoorParts2
import Derived.Test.YtfccpencgengaaaDoorInto
namespace Go.Proofs.YtfccpencgengaaaDoor
open Go.RowKit

def nd (t : List PNode) (i : Nat) : PNode := t.getD i ⟨0, 0, []⟩
theorem nd_get {t : List PNode} {i : Nat} (h : i < t.length) : nd t i = t[i] := by simp [nd, h]
/-- Through the kids from the last to the first. -/
def kidsWalk (wf : Nat → Int) : List Int → Int → Int → Int
  | [], many, _ => many
  | k :: ks, many, next => if next < 0 ∨ k ≠ next then -1 else if wf next.toNat < 0 then -1 else kidsWalk wf ks (many + wf next.toNat) (next - wf next.toNat)
def walkF : Nat → List PNode → Nat → Int
  | 0, _, _ => -1
  | f + 1, t, i => if (nd t i).kind = 1 then (if 0 < (nd t i).kids.length ∨ ¬ (0 ≤ (nd t i).vertex ∧ (nd t i).vertex ≤ 15) then -1 else 1)
      else if ¬ (2 ≤ (nd t i).kind ∧ (nd t i).kind ≤ 4) ∨ (nd t i).vertex ≠ 0 ∨ (nd t i).kids.length < 2 then -1 else kidsWalk (walkF f t) (nd t i).kids.reverse 1 ((i : Int) - 1)
/-- The bounds that keep the numbers small. -/
def WB (wf : Nat → Int) (n : Nat) : Prop := ∀ i, i < n → wf i = -1 ∨ 1 ≤ wf i ∧ wf i ≤ i + 1
theorem kidsWalk_bound {wf : Nat → Int} {i : Nat} (hw : WB wf i) : ∀ (ks : List Int) (many next : Int), 1 ≤ many → -1 ≤ next → many + next = i → kidsWalk wf ks many next = -1 ∨ 1 ≤ kidsWalk wf ks many next ∧ kidsWalk wf ks many next ≤ i + 1
  | [], many, next, h1, h2, h3 => by simp only [kidsWalk]; omega
  | k :: ks, many, next, h1, h2, h3 => by
    rw [kidsWalk]
    split
    · exact .inl rfl
    split
    · exact .inl rfl
    · rename_i h4 h5
      have hn : 0 ≤ next := by omega
      have := hw next.toNat (by omega)
      exact kidsWalk_bound hw ks _ _ (by omega) (by omega) (by omega)
theorem walkF_bound (t : List PNode) : ∀ (f i : Nat), walkF f t i = -1 ∨ 1 ≤ walkF f t i ∧ walkF f t i ≤ i + 1
  | 0, i => .inl rfl
  | f + 1, i => by
    rw [walkF]
    split
    · split
      · exact .inl rfl
      · omega
    · split
      · exact .inl rfl
      · exact kidsWalk_bound (fun j hj => walkF_bound t f j) _ _ _ (by omega) (by omega) (by omega)

/-- The open nodes before node i, the last one last. -/
def openF (t : List PNode) : Nat → List Nat
  | 0 => []
  | i + 1 => (if (nd t i).kind = 1 then openF t i else (openF t i).take ((openF t i).length - (nd t i).kids.length)) ++ [i]
def natsZ (l : List Nat) : List Int := l.map fun n : Nat => (n : Int)
/-- A node stands right behind those before it. -/
def SOk (t : List PNode) (i : Nat) : Prop :=
  ((nd t i).kind = 1 ∧ (nd t i).kids = [] ∧ 0 ≤ (nd t i).vertex ∧ (nd t i).vertex ≤ 15) ∨
  ((nd t i).kind ≠ 1 ∧ (2 ≤ (nd t i).kind ∧ (nd t i).kind ≤ 4) ∧ (nd t i).vertex = 0 ∧ 2 ≤ (nd t i).kids.length ∧ (nd t i).kids.length ≤ (openF t i).length ∧
    (nd t i).kids = natsZ ((openF t i).drop ((openF t i).length - (nd t i).kids.length)))
theorem openF_lt (t : List PNode) : ∀ i, ∀ x ∈ openF t i, x < i
  | 0, x, h => by simp [openF] at h
  | i + 1, x, h => by
    rw [openF, List.mem_append, List.mem_singleton] at h
    rcases h with h | rfl
    · have : x ∈ openF t i := by
        split at h
        · exact h
        · exact List.mem_of_mem_take h
      have := openF_lt t i x this; omega
    · omega
/-- An open node's own stack is the stack up to it. -/
theorem openF_prefix (t : List PNode) : ∀ (m : Nat) (l r : List Nat) (a : Nat), openF t m = l ++ a :: r → openF t (a + 1) = l ++ [a]
  | 0, l, r, a, h => by simp [openF] at h
  | m + 1, l, r, a, h => by
    by_cases hr : r = []
    · subst hr
      have : a = m := by
        rw [openF] at h
        have := congrArg List.getLast? h
        simp at this; omega
      subst this; exact h
    · obtain ⟨r', b, rfl⟩ : ∃ r' b, r = r' ++ [b] := ⟨r.dropLast, r.getLast hr, (List.dropLast_concat_getLast hr).symm⟩
      rw [openF, ← List.cons_append, ← List.append_assoc] at h
      have h1 := (List.append_inj' h rfl).1
      split at h1
      · exact openF_prefix t m l r' a h1
      · have h2 : openF t m = l ++ a :: (r' ++ (openF t m).drop ((openF t m).length - (nd t m).kids.length)) := by
          have := List.take_append_drop ((openF t m).length - (nd t m).kids.length) (openF t m)
          rw [h1] at this
          refine this.symm.trans ?_
          simp
        exact openF_prefix t m l _ a h2
theorem openF_last (t : List PNode) (i : Nat) : ∃ l, openF t (i + 1) = l ++ [i] := ⟨_, rfl⟩

/-- Down the stack: the sizes of the open nodes are the gaps. -/
def prevI (l : List Nat) : Int := match l.getLast? with | some a => (a : Int) | none => -1
theorem prevI_snoc (l : List Nat) (a : Nat) : prevI (l ++ [a]) = a := by simp [prevI]
theorem natsZ_append (a b : List Nat) : natsZ (a ++ b) = natsZ a ++ natsZ b := by simp [natsZ]
theorem natsZ_len (a : List Nat) : (natsZ a).length = a.length := by simp [natsZ]
theorem rev_ind {α : Type} {P : List α → Prop} (h0 : P []) (h1 : ∀ l a, P l → P (l ++ [a])) (l : List α) : P l := by
  have : ∀ n (l : List α), l.length = n → P l := by
    intro n
    induction n with
    | zero => intro l h; rw [List.eq_nil_of_length_eq_zero h]; exact h0
    | succ n ih =>
      intro l h
      have hne : l ≠ [] := fun e => by rw [e] at h; simp at h
      rw [← List.dropLast_concat_getLast hne]
      exact h1 _ _ (ih _ (by simp [h]))
  exact this _ l rfl
theorem kids_down {t : List PNode} {m : Nat} {wf : Nat → Int} (hw : ∀ (l r : List Nat) (a : Nat), openF t m = l ++ a :: r → wf a = a - prevI l) :
    ∀ (ks l r : List Nat) (many : Int), openF t m = l ++ ks ++ r → kidsWalk wf (natsZ ks).reverse many (prevI (l ++ ks)) = many + prevI (l ++ ks) - prevI l := by
  intro ks
  refine rev_ind (P := fun ks => ∀ (l r : List Nat) (many : Int), openF t m = l ++ ks ++ r → kidsWalk wf (natsZ ks).reverse many (prevI (l ++ ks)) = many + prevI (l ++ ks) - prevI l) ?_ ?_ ks
  · intro l r many _; simp [natsZ, kidsWalk]
  · intro ks a ih l r many h
    have e1 : (natsZ (ks ++ [a])).reverse = (a : Int) :: (natsZ ks).reverse := by simp [natsZ]
    have e2 : prevI (l ++ (ks ++ [a])) = a := by rw [← List.append_assoc, prevI_snoc]
    have h3 := hw (l ++ ks) r a (by rw [h]; simp)
    have hp : -1 ≤ prevI (l ++ ks) := by unfold prevI; split <;> omega
    have hpl : prevI (l ++ ks) < a := by
      have h4 := openF_prefix t m (l ++ ks) r a (by rw [h]; simp)
      unfold prevI
      split
      · rename_i b hb
        have hb2 : b ∈ l ++ ks := List.mem_of_getLast? hb
        have h5 : openF t (a + 1) = (if (nd t a).kind = 1 then openF t a else (openF t a).take ((openF t a).length - (nd t a).kids.length)) ++ [a] := rfl
        rw [h4] at h5
        have h6 := (List.append_inj' h5 rfl).1
        rw [h6] at hb2
        have : b ∈ openF t a := by
          split at hb2
          · exact hb2
          · exact List.mem_of_mem_take hb2
        have := openF_lt t a b this; omega
      · omega
    rw [e1, e2, kidsWalk, if_neg (by omega), Int.toNat_natCast, if_neg (by omega), h3]
    have e3 : (a : Int) - (a - prevI (l ++ ks)) = prevI (l ++ ks) := by omega
    rw [e3, ih l (a :: r) _ (by rw [h]; simp)]
    omega
theorem sok_walk (t : List PNode) : ∀ (j f : Nat), j < f → (∀ i, i ≤ j → SOk t i) → ∃ l, openF t (j + 1) = l ++ [j] ∧ walkF f t j = j - prevI l := by
  intro j
  induction j using Nat.strongRecOn with
  | _ j ih =>
    intro f hf hok
    obtain ⟨f, rfl⟩ : ∃ f', f = f' + 1 := ⟨f - 1, by omega⟩
    have hlast : prevI (openF t j) = (j : Int) - 1 := by
      cases j with
      | zero => simp [openF, prevI]
      | succ j => rw [openF, prevI_snoc]; omega
    have hw : ∀ (l r : List Nat) (a : Nat), openF t j = l ++ a :: r → walkF f t a = a - prevI l := by
      intro l r a h
      have ha : a < j := openF_lt t j a (by rw [h]; simp)
      obtain ⟨l', h1, h2⟩ := ih a ha f (by omega) (fun i hi => hok i (by omega))
      rw [openF_prefix t j l r a h] at h1
      have := (List.append_inj' h1 rfl).1
      rw [this]; exact h2
    refine ⟨_, rfl, ?_⟩
    rcases hok j (Nat.le_refl _) with ⟨h1, h2, h3, h4⟩ | ⟨h1, h2, h3, h4, h5, h6⟩
    · rw [walkF, if_pos h1, if_neg (by rw [h2]; simp; omega), if_pos h1, hlast]; omega
    · rw [walkF, if_neg h1, if_neg (by omega), if_neg h1]
      have hk := kids_down hw ((openF t j).drop ((openF t j).length - (nd t j).kids.length)) ((openF t j).take ((openF t j).length - (nd t j).kids.length)) [] 1 (by simp)
      rw [List.take_append_drop, hlast, ← h6] at hk
      rw [hk]; omega
/-- A walk that succeeds: all nodes of its tree stand right. -/
theorem walk_sok (t : List PNode) : ∀ (f i : Nat), i < f → ∀ s : Int, walkF f t i = s → 0 ≤ s → ∃ lo : Nat, (lo : Int) = i + 1 - s ∧ lo ≤ i ∧ (∀ j, lo ≤ j → j ≤ i → SOk t j) ∧ openF t (i + 1) = openF t lo ++ [i] := by
  intro f
  induction f with
  | zero => intro i h; omega
  | succ f ih =>
    intro i hi s hs h0
    have hlast : i + 1 = i + 1 := rfl
    rw [walkF] at hs
    by_cases h1 : (nd t i).kind = 1
    · rw [if_pos h1] at hs
      by_cases h2 : 0 < (nd t i).kids.length ∨ ¬ (0 ≤ (nd t i).vertex ∧ (nd t i).vertex ≤ 15)
      · rw [if_pos h2] at hs; omega
      · rw [if_neg h2] at hs
        have hk : (nd t i).kids = [] := List.eq_nil_of_length_eq_zero (by omega)
        refine ⟨i, by omega, Nat.le_refl _, fun j hj1 hj2 => ?_, ?_⟩
        · obtain rfl : j = i := by omega
          exact .inl ⟨h1, hk, by omega⟩
        · rw [openF, if_pos h1]
    · rw [if_neg h1] at hs
      by_cases h2 : ¬ (2 ≤ (nd t i).kind ∧ (nd t i).kind ≤ 4) ∨ (nd t i).vertex ≠ 0 ∨ (nd t i).kids.length < 2
      · rw [if_pos h2] at hs; omega
      · rw [if_neg h2] at hs
        have key : ∀ (ks : List Int) (many next : Int), 1 ≤ many → -1 ≤ next → many + next = i → kidsWalk (walkF f t) ks.reverse many next = s →
            ∃ (lo : Nat) (ns : List Nat), (lo : Int) = next + 1 - (s - many) ∧ (lo : Int) ≤ next + 1 ∧ ks = natsZ ns ∧ (∀ j, lo ≤ j → (j : Int) ≤ next → SOk t j) ∧ openF t (next + 1).toNat = openF t lo ++ ns := by
          intro ks
          refine rev_ind (P := fun ks => ∀ (many next : Int), 1 ≤ many → -1 ≤ next → many + next = i → kidsWalk (walkF f t) ks.reverse many next = s →
            ∃ (lo : Nat) (ns : List Nat), (lo : Int) = next + 1 - (s - many) ∧ (lo : Int) ≤ next + 1 ∧ ks = natsZ ns ∧ (∀ j, lo ≤ j → (j : Int) ≤ next → SOk t j) ∧ openF t (next + 1).toNat = openF t lo ++ ns) ?_ ?_ ks
          · intro many next g1 g2 g3 g4
            simp only [List.reverse_nil, kidsWalk] at g4
            exact ⟨(next + 1).toNat, [], by omega, by omega, rfl, fun j _ _ => by omega, by simp⟩
          · intro ks k ih2 many next g1 g2 g3 g4
            rw [List.reverse_append, List.reverse_cons, List.reverse_nil, List.nil_append, List.singleton_append, kidsWalk] at g4
            by_cases g5 : next < 0 ∨ k ≠ next
            · rw [if_pos g5] at g4; omega
            rw [if_neg g5] at g4
            by_cases g6 : walkF f t next.toNat < 0
            · rw [if_pos g6] at g4; omega
            rw [if_neg g6] at g4
            have hb := walkF_bound t f next.toNat
            obtain ⟨lo1, e1, e2, e3, e4⟩ := ih next.toNat (by omega) _ rfl (by omega)
            obtain ⟨lo, ns, f1, f2, f3, f4, f5⟩ := ih2 _ _ (by omega) (by omega) (by omega) g4
            refine ⟨lo, ns ++ [next.toNat], by omega, by omega, ?_, fun j hj1 hj2 => ?_, ?_⟩
            · rw [f3, natsZ_append]
              have : k = ((next.toNat : Nat) : Int) := by omega
              rw [this]; rfl
            · by_cases hj : (j : Int) ≤ next - walkF f t next.toNat
              · exact f4 j hj1 hj
              · exact e3 j (by omega) (by omega)
            · have e5 : (next + 1).toNat = next.toNat + 1 := by omega
              have e6 : (next - walkF f t next.toNat + 1).toNat = lo1 := by omega
              rw [e5, e4, ← e6, f5, List.append_assoc]
        obtain ⟨lo, ns, f1, f2, f3, f4, f5⟩ := key (nd t i).kids 1 (i - 1) (by omega) (by omega) (by omega) hs
        have e5 : ((i : Int) - 1 + 1).toNat = i := by omega
        rw [e5] at f5
        have hl : (nd t i).kids.length = ns.length := by rw [f3, natsZ_len]
        have e6 : (openF t i).length - (nd t i).kids.length = (openF t lo).length := by rw [f5, List.length_append, hl]; omega
        refine ⟨lo, by omega, by omega, fun j hj1 hj2 => ?_, ?_⟩
        · by_cases hj : j = i
          · subst hj
            refine .inr ⟨h1, by omega, by omega, by omega, by rw [f5, List.length_append]; omega, ?_⟩
            rw [e6, f5, List.drop_left, ← f3]
          · exact f4 j hj1 (by omega)
        · rw [openF, if_neg h1, e6, f5, List.take_left]
/-- The tree as a whole. -/
theorem walk_all (t : List PNode) (f : Nat) (hf : t.length ≤ f) (h0 : 0 < t.length) : walkF f t (t.length - 1) = t.length ↔ (∀ i, i < t.length → SOk t i) ∧ (openF t t.length).length = 1 := by
  obtain ⟨n, hn⟩ : ∃ n, t.length = n + 1 := ⟨t.length - 1, by omega⟩
  rw [hn]
  simp only [Nat.add_sub_cancel]
  constructor
  · intro h
    obtain ⟨lo, h1, h2, h3, h4⟩ := walk_sok t f n (by omega) _ h (by omega)
    obtain rfl : lo = 0 := by omega
    exact ⟨fun i hi => h3 i (by omega) (by omega), by rw [h4]; simp [openF]⟩
  · rintro ⟨h1, h2⟩
    obtain ⟨l, h3, h4⟩ := sok_walk t n f (by omega) (fun i hi => h1 i (by omega))
    rw [h3] at h2
    obtain rfl : l = [] := List.eq_nil_of_length_eq_zero (by simpa using h2)
    rw [h4]; simp [prevI]
end Go.Proofs.YtfccpencgengaaaDoor
