/- The first path of four vertices: plain facts. -/
import Derived.Test.YtplohdnakllbiaaDoorFit4
namespace Go.Proofs.YtplohdnakllbiaaDoor
open Go.RowKit
/-- The path of four vertices. -/
def q4 : List Nat := [2, 5, 10, 4]
/-- Two places of a list of vertices. -/
def pairB (g : List (List Int)) (p : List Nat) (i k : Nat) : Bool := !decide (p.getD i 0 = p.getD k 0) && (decide (((p.getD k 0 : Nat) : Int) ∈ g.getD (p.getD i 0) []) == decide (k = i + 1))
def PathP (g : List (List Int)) (p : List Nat) : Prop := ∀ i k, i < k → k < p.length → pairB g p i k = true
open Classical in
noncomputable def pathB (g : List (List Int)) (p : List Nat) : Bool := decide (PathP g p)
theorem pathB_true {g : List (List Int)} {p : List Nat} (h : PathP g p) : pathB g p = true := by simp [pathB, h]
theorem pathB_false {g : List (List Int)} {p : List Nat} (h : ¬ PathP g p) : pathB g p = false := by simp [pathB, h]
theorem pathB_nil (g : List (List Int)) : pathB g [] = true := pathB_true fun i k _ h => by simp at h
theorem q4_bit : ∀ n j, n < 4 → j < n → (q4.getD n 0).testBit j = decide (n = j + 1) := fun n j hn hj => (show ∀ n : Fin 4, ∀ j : Fin 4, j.1 < n.1 → (q4.getD n.1 0).testBit j.1 = decide (n.1 = j.1 + 1) by decide) ⟨n, hn⟩ ⟨j, by omega⟩ hj
theorem pair_last {g : List (List Int)} {p : List Nat} {v j : Nat} (hg : GOk g) (hp : ∀ a ∈ p, a < g.length) (hv : v < g.length) (hl : p.length < 4) (hj : j < p.length) :
    pairB g (p ++ [v]) j p.length = (!decide (p.getD j 0 = v) && (((netsL g).getD v 0).testBit (p.getD j 0) == (q4.getD p.length 0).testBit j)) := by
  have e1 : (p ++ [v]).getD j 0 = p.getD j 0 := by simp [List.getElem?_append_left hj]
  have e2 : (p ++ [v]).getD p.length 0 = v := by simp
  have hpj : p.getD j 0 < g.length := by
    have : p.getD j 0 = p[j] := by simp [hj]
    rw [this]; exact hp _ (List.getElem_mem hj)
  unfold pairB
  rw [e1, e2, nets_bit hg hv, q4_bit _ _ hl hj]
  have h2 : decide ((v : Int) ∈ g.getD (p.getD j 0) []) = decide (((p.getD j 0 : Nat) : Int) ∈ g.getD v []) := decide_eq_decide.2 (edge_symm hg hpj hv)
  rw [h2]
theorem path_snoc {g : List (List Int)} {p : List Nat} {v : Nat} (hg : GOk g) (hp : ∀ a ∈ p, a < g.length) (hv : v < g.length) (hl : p.length < 4) (hpp : pathB g p = true) :
    pathB g (p ++ [v]) = okB (netsL g) q4 p v := by
  have hpp : PathP g p := by simpa [pathB] using hpp
  have h1 : PathP g (p ++ [v]) ↔ ∀ j, j < p.length → pairB g (p ++ [v]) j p.length = true := by
    constructor
    · intro h j hj
      exact h j p.length hj (by simp)
    · intro h i k hik hk
      by_cases e : k < p.length
      · have := hpp i k hik e
        unfold pairB at this ⊢
        have e1 : (p ++ [v]).getD i 0 = p.getD i 0 := by simp [List.getElem?_append_left (show i < p.length by omega)]
        have e2 : (p ++ [v]).getD k 0 = p.getD k 0 := by simp [List.getElem?_append_left e]
        rw [e1, e2]; exact this
      · have : k = p.length := by simp at hk; omega
        subst this
        exact h i hik
  have h2 : okB (netsL g) q4 p v = true ↔ ∀ j, j < p.length → pairB g (p ++ [v]) j p.length = true := by
    unfold okB fitTo
    rw [Bool.and_eq_true, List.all_eq_true]
    constructor
    · rintro ⟨h3, h4⟩ j hj
      rw [pair_last hg hp hv hl hj, h4 j (List.mem_range.2 hj), Bool.and_true]
      have : ¬ p.getD j 0 = v := fun e => by
        have e2 : p.getD j 0 = p[j] := by simp [hj]
        have : v ∈ p := by rw [← e, e2]; exact List.getElem_mem _
        simp [this] at h3
      simpa using this
    · intro h
      refine ⟨?_, fun j hj => ?_⟩
      · have : ¬ v ∈ p := fun hm => by
          obtain ⟨j, hj, e⟩ := List.getElem_of_mem hm
          have h5 := h j hj
          rw [pair_last hg hp hv hl hj] at h5
          have e2 : p.getD j 0 = p[j] := by simp [hj]
          rw [e2, e] at h5
          simp at h5
        simpa using this
      · have h5 := h j (List.mem_range.1 hj)
        rw [pair_last hg hp hv hl (List.mem_range.1 hj), Bool.and_eq_true] at h5
        exact h5.2
  have : pathB g (p ++ [v]) = true ↔ okB (netsL g) q4 p v = true := by rw [h2, ← h1]; simp [pathB]
  cases h3 : pathB g (p ++ [v]) <;> cases h4 : okB (netsL g) q4 p v <;> simp_all
def orE {α : Type} (x y : α × Bool) : α × Bool := if x.2 = true then x else y
/-- What is left of the search behind a path, from the vertex k on. -/
noncomputable def restR (g : List (List Int)) (d : Nat) (p : List Nat) (k : Nat) : Option (List Nat) × Bool :=
  if pathB g p = true then loopS (fun v s => if okB (netsL g) q4 p v = true then srchF (netsL g) q4 fitEf d (p ++ [v]) s else (s, false)) (List.range' k (g.length - k)) none else (none, false)
theorem restR_no {g : List (List Int)} {d : Nat} {p : List Nat} {k : Nat} (h : pathB g p = false) : restR g d p k = (none, false) := by simp [restR, h]
theorem restR_end {g : List (List Int)} {d : Nat} {p : List Nat} : restR g d p g.length = (none, false) := by
  unfold restR; split
  · exact loopS_end
  · rfl
theorem restR_step {g : List (List Int)} {d : Nat} {p : List Nat} {k : Nat} (hg : GOk g) (hp : ∀ a ∈ p, a < g.length) (hk : k < g.length) (hl : p.length < 4) (hpp : pathB g p = true) :
    restR g (d + 1) p k = orE (restR g d (p ++ [k]) 0) (restR g (d + 1) p (k + 1)) := by
  unfold restR
  rw [if_pos hpp, if_pos hpp, loopS_step hk, path_snoc hg hp hk hl hpp]
  by_cases hok : okB (netsL g) q4 p k = true
  · simp only [hok, if_true, orE]
    have e : srchF (netsL g) q4 fitEf (d + 1) (p ++ [k]) none = loopS (fun v s => if okB (netsL g) q4 (p ++ [k]) v = true then srchF (netsL g) q4 fitEf d (p ++ [k] ++ [v]) s else (s, false)) (List.range' 0 (g.length - 0)) none := by
      rw [srchF, loopS_start, netsL_len]
    rw [← e]
    rcases srch_fit (netsL g) q4 (d + 1) (p ++ [k]) none with ⟨h1, h2⟩ | ⟨h1, r, h2, h3⟩
    · simp [h1, h2]
    · simp only [h1, if_true]; exact Prod.ext rfl h1.symm
  · simp [hok, orE]
theorem restR_leaf {g : List (List Int)} {p : List Nat} {k : Nat} (hg : GOk g) (hp : ∀ a ∈ p, a < g.length) (hk : k < g.length) (hl : p.length < 4) (hpp : pathB g p = true) :
    restR g 0 p k = if pathB g (p ++ [k]) = true then (some (p ++ [k]), true) else restR g 0 p (k + 1) := by
  unfold restR
  rw [if_pos hpp, if_pos hpp, loopS_step hk, path_snoc hg hp hk hl hpp]
  by_cases hok : okB (netsL g) q4 p k = true
  · simp [hok, srchF, fitEf]
  · simp [hok]
theorem restR_all (g : List (List Int)) : restR g 3 [] 0 = srchF (netsL g) q4 fitEf 4 [] none := by
  rw [restR, if_pos (pathB_nil g), srchF, loopS_start, netsL_len]
theorem orE_no {α : Type} {x : α} {y : α × Bool} : orE (x, false) y = y := by simp [orE]
noncomputable def fourF (g : List (List Int)) : Option (List Nat) := if gokB g then fitO (netsL g) q4 else none
theorem fitO_four (g : List (List Int)) : fitO (netsL g) q4 = (restR g 3 [] 0).1 := by rw [restR_all]; rfl
theorem four_any (g : List (List Int)) : (restR g 3 [] 0).2 = (restR g 3 [] 0).1.isSome := by
  rw [restR_all]
  rcases srch_fit (netsL g) q4 4 [] none with ⟨h1, h2⟩ | ⟨h1, r, h2, h3⟩
  · simp [h1, h2]
  · simp [h1, h2]
theorem four_len {g : List (List Int)} {r : List Nat} (h : fitO (netsL g) q4 = some r) : r.length = 4 := by
  rw [fitO_four, restR_all] at h
  rcases srch_fit (netsL g) q4 4 [] none with ⟨h1, h2⟩ | ⟨h1, r', h2, h3⟩
  · rw [h2] at h; cases h
  · rw [h2] at h; cases h; simpa using h3
theorem fourF_long (g : List (List Int)) : (natsI ((fourF g).getD [])).length ≤ 1048576 := by
  rw [natsI_len]
  rcases h : fourF g with _ | r
  · simp
  · unfold fourF at h
    split at h
    · have := four_len h; simp; omega
    · cases h
/-- The pairs that are told right so far. -/
def PairsTo (g : List (List Int)) (p : List Nat) (n : Nat) : Prop := ∀ i k, i < n → i < k → k < p.length → pairB g p i k = true
def RowTo (g : List (List Int)) (p : List Nat) (i n : Nat) : Prop := ∀ k, i < k → k < n → pairB g p i k = true
theorem pairsTo_succ {g : List (List Int)} {p : List Nat} {i n : Nat} (h : PairsTo g p i) (h2 : RowTo g p i n) (hn : p.length ≤ n) : PairsTo g p (i + 1) := fun j k hj hjk hk => by
  by_cases e : j = i
  · subst e; exact h2 k hjk (by omega)
  · exact h j k (by omega) hjk hk
theorem rowTo_succ {g : List (List Int)} {p : List Nat} {i n : Nat} (h : RowTo g p i n) (h2 : pairB g p i n = true) : RowTo g p i (n + 1) := fun k hk hkn => by
  by_cases e : k = n
  · subst e; exact h2
  · exact h k hk (by omega)
end Go.Proofs.YtplohdnakllbiaaDoor
