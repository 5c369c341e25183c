/- Trees of union and join, made part by part: plain facts. -/
import Derived.Test.YthpbeiihlembnaaDoorReachM
import Derived.Test.YthpbeiihlembnaaDoorParts
namespace Go.Proofs.YthpbeiihlembnaaDoor
open Go.RowKit
theorem len_split {α : Type} (p q : α → Bool) : ∀ l : List α, (l.filter p).length = (l.filter fun x => p x && q x).length + (l.filter fun x => p x && !q x).length
  | [] => rfl
  | x :: l => by
    have ih := len_split p q l
    rw [List.filter_cons, List.filter_cons, List.filter_cons]
    cases p x <;> cases q x <;> simp [ih] <;> omega
theorem pop_splitC {s r : Nat} (hs : s < 4294967296) (hr : r < 4294967296) (h : ∀ i, r.testBit i = true → s.testBit i = true) : popN s = popN r + popN (andN s r) := by
  unfold popN bitsN
  rw [len_split s.testBit r.testBit]
  congr 1
  · congr 1
    apply List.filter_congr
    intro i _
    cases hri : r.testBit i
    · simp
    · rw [h i hri]; rfl
  · congr 1
    apply List.filter_congr
    intro i _
    rw [testBit_andN hs hr]
def sumP : List Nat → Nat | [] => 0 | p :: ps => popN p + sumP ps
theorem sumP_append (a b : List Nat) : sumP (a ++ b) = sumP a + sumP b := by
  induction a with
  | nil => simp [sumP]
  | cons x a ih => simp only [List.cons_append, sumP, ih]; omega
theorem sum_parts {a : List Nat} : ∀ {n wi : Nat}, wi < 4294967296 → popN wi < n → sumP (partsF a n wi) = popN wi
  | 0, _, _, h => by omega
  | n + 1, wi, hw, h => by
    rw [partsF]
    by_cases h0 : wi = 0
    · rw [if_pos h0, h0]; rfl
    · rw [if_neg h0, sumP]
      have hc := ctz_bit h0 hw
      have hr := reachN_lt a wi (Lib.ctz 32 wi)
      have hs := pop_splitC hw hr (fun i hi => reach_sub hw hc hi)
      have hp : 0 < popN (reachN a wi (Lib.ctz 32 wi)) := by
        have h1 := reach_start (a := a) hw (bit_lt_of (n := 32) hw hc)
        have := popN_lt (a := 0) hr (fun i hi => by rw [Nat.zero_testBit] at hi; cases hi) h1 (Nat.zero_testBit _)
        omega
      rw [sum_parts (Nat.lt_of_le_of_lt (andN_le _ _) hw) (by omega)]
      exact hs.symm
theorem sumP_parts {a : List Nat} {wi : Nat} (hw : wi < 4294967296) : sumP (partsN a wi) = popN wi := sum_parts hw (by have := popN_32 wi; omega)
theorem part_pos {a : List Nat} : ∀ {n wi x : Nat}, wi < 4294967296 → x ∈ partsF a n wi → 0 < popN x ∧ x < 4294967296 ∧ ∀ i, x.testBit i = true → wi.testBit i = true
  | 0, _, _, _, h => by simp [partsF] at h
  | n + 1, wi, x, hw, h => by
    rw [partsF] at h
    split at h
    · cases h
    · rename_i h0
      have hc := ctz_bit h0 hw
      have hr := reachN_lt a wi (Lib.ctz 32 wi)
      rcases List.mem_cons.1 h with rfl | h
      · have h1 := reach_start (a := a) hw (bit_lt_of (n := 32) hw hc)
        have := popN_lt (a := 0) hr (fun i hi => by rw [Nat.zero_testBit] at hi; cases hi) h1 (Nat.zero_testBit _)
        exact ⟨by omega, hr, fun i hi => reach_sub hw hc hi⟩
      · have hA := Nat.lt_of_le_of_lt (andN_le wi (reachN a wi (Lib.ctz 32 wi))) hw
        obtain ⟨h1, h2, h3⟩ := part_pos hA h
        exact ⟨h1, h2, fun i hi => by
          have := h3 i hi
          rw [testBit_andN hw hr, Bool.and_eq_true] at this
          exact this.1⟩
theorem part_in {a : List Nat} {wi x : Nat} (hw : wi < 4294967296) (h : x ∈ partsN a wi) : 0 < popN x ∧ x < 4294967296 ∧ ∀ i, x.testBit i = true → wi.testBit i = true := part_pos hw h
theorem sub_lt {x wi n : Nat} (hw : wi < 2 ^ n) (h : ∀ i, x.testBit i = true → wi.testBit i = true) : x < 2 ^ n := lt_bits fun i hi => bit_lt_of hw (h i hi)
theorem sumP_mem {ps : List Nat} {p : Nat} (h : p ∈ ps) : popN p ≤ sumP ps := by
  induction ps with
  | nil => cases h
  | cons x ps ih =>
    rw [sumP]
    rcases List.mem_cons.1 h with rfl | h
    · omega
    · have := ih h; omega
theorem sumP_two {ps : List Nat} (hl : ps.length ≠ 1) (hp : ∀ p ∈ ps, 0 < popN p) {p : Nat} (h : p ∈ ps) : popN p < sumP ps := by
  match ps, hl, hp, h with
  | [], _, _, h => cases h
  | [x], hl, _, _ => simp at hl
  | x :: y :: ps, _, hp, h =>
    have h1 := hp x (by simp)
    have h2 := hp y (by simp)
    simp only [sumP]
    rcases List.mem_cons.1 h with rfl | h
    · omega
    · rcases List.mem_cons.1 h with rfl | h
      · omega
      · have := sumP_mem h; omega
/-- The kids, one behind the other. -/
def coKids (f : Nat → List PNode → Option (List PNode)) : List Nat → List PNode → List Int → Option (List PNode × List Int)
  | [], t, ks => some (t, ks)
  | p :: ps, t, ks => match f p t with
    | none => none
    | some t' => coKids f ps t' (ks ++ [(t'.length : Int) - 1])
noncomputable def coKind (a : List Nat) (s : Nat) : Int := if (partsN a s).length = 1 then 3 else 2
noncomputable def coParts (a b : List Nat) (s : Nat) : List Nat := if (partsN a s).length = 1 then partsN b s else partsN a s
noncomputable def coT (a b : List Nat) : Nat → Nat → List PNode → Option (List PNode)
  | 0, _, _ => none
  | n + 1, s, tree =>
    if popN s = 1 then some (tree ++ [⟨1, (Lib.ctz 32 s : Nat), []⟩])
    else if (coParts a b s).length = 1 then none
    else match coKids (coT a b n) (coParts a b s) tree [] with
      | none => none
      | some (t, ks) => some (t ++ [⟨coKind a s, 0, ks⟩])
theorem coParts_in {a b : List Nat} {s x : Nat} (hs : s < 4294967296) (h : x ∈ coParts a b s) : 0 < popN x ∧ x < 4294967296 ∧ ∀ i, x.testBit i = true → s.testBit i = true := by
  unfold coParts at h
  split at h
  · exact part_in hs h
  · exact part_in hs h
theorem coParts_sum {a b : List Nat} {s : Nat} (hs : s < 4294967296) : sumP (coParts a b s) = popN s := by
  unfold coParts
  split
  · exact sumP_parts hs
  · exact sumP_parts hs
theorem coParts_len (a b : List Nat) (s : Nat) : (coParts a b s).length ≤ 33 := by
  unfold coParts; split
  · exact partsN_len _ _
  · exact partsN_len _ _
/-- What the kids' loop keeps, at the k-th part. -/
structure KidsI (f : Nat → List PNode → Option (List PNode)) (ps : List Nat) (tree t : List PNode) (ks : List Int) (k : Nat) : Prop where
  rest : coKids f (ps.drop k) t ks = coKids f ps tree []
  len : t.length + k ≤ tree.length + 2 * sumP (ps.take k)
  kids : ks.length = k
theorem KidsI.start (f : Nat → List PNode → Option (List PNode)) (ps : List Nat) (tree : List PNode) : KidsI f ps tree tree [] 0 := ⟨rfl, by simp [sumP], rfl⟩
theorem KidsI.next {f : Nat → List PNode → Option (List PNode)} {ps : List Nat} {tree t t' : List PNode} {ks : List Int} {k : Nat} (h : KidsI f ps tree t ks k) (hk : k < ps.length) (hf : f ps[k] t = some t') (hl : t'.length + 1 ≤ t.length + 2 * popN ps[k]) :
    KidsI f ps tree t' (ks ++ [(t'.length : Int) - 1]) (k + 1) := by
  refine ⟨?_, ?_, by simp [h.kids]⟩
  · rw [← h.rest, List.drop_eq_getElem_cons hk, coKids, hf]
  · rw [List.take_succ_eq_append_getElem hk, sumP_append]
    have := h.len
    simp only [sumP]; omega
theorem KidsI.fail {f : Nat → List PNode → Option (List PNode)} {ps : List Nat} {tree t : List PNode} {ks : List Int} {k : Nat} (h : KidsI f ps tree t ks k) (hk : k < ps.length) (hf : f ps[k] t = none) : coKids f ps tree [] = none := by
  rw [← h.rest, List.drop_eq_getElem_cons hk, coKids, hf]
theorem KidsI.done {f : Nat → List PNode → Option (List PNode)} {ps : List Nat} {tree t : List PNode} {ks : List Int} {k : Nat} (h : KidsI f ps tree t ks k) (hk : ps.length ≤ k) : coKids f ps tree [] = some (t, ks) := by
  rw [← h.rest, List.drop_eq_nil_of_le hk, coKids]
theorem sumP_take {ps : List Nat} {k : Nat} (hk : k < ps.length) : sumP (ps.take k) + popN ps[k] ≤ sumP ps := by
  have h1 : sumP (ps.take (k + 1)) + sumP (ps.drop (k + 1)) = sumP ps := by rw [← sumP_append, List.take_append_drop]
  rw [List.take_succ_eq_append_getElem hk, sumP_append] at h1
  simp only [sumP] at h1; omega
theorem coT_zero {a b : List Nat} {s : Nat} {t : List PNode} : coT a b 0 s t = none := rfl
theorem coT_leaf {a b : List Nat} {n s : Nat} {t : List PNode} (h : popN s = 1) : coT a b (n + 1) s t = some (t ++ [⟨1, (Lib.ctz 32 s : Nat), []⟩]) := by rw [coT, if_pos h]
theorem coT_none {a b : List Nat} {n s : Nat} {t : List PNode} (h : popN s ≠ 1) (h1 : (coParts a b s).length = 1) : coT a b (n + 1) s t = none := by rw [coT, if_neg h, if_pos h1]
theorem coT_kids_none {a b : List Nat} {n s : Nat} {t : List PNode} (h : popN s ≠ 1) (h1 : (coParts a b s).length ≠ 1) (h2 : coKids (coT a b n) (coParts a b s) t [] = none) : coT a b (n + 1) s t = none := by rw [coT, if_neg h, if_neg h1, h2]
theorem coT_kids {a b : List Nat} {n s : Nat} {t t2 : List PNode} {ks : List Int} (h : popN s ≠ 1) (h1 : (coParts a b s).length ≠ 1) (h2 : coKids (coT a b n) (coParts a b s) t [] = some (t2, ks)) : coT a b (n + 1) s t = some (t2 ++ [⟨coKind a s, 0, ks⟩]) := by rw [coT, if_neg h, if_neg h1, h2]
/-- The length of what a search for a tree adds. -/
theorem coT_len {a b : List Nat} : ∀ {n s : Nat} {t r : List PNode}, s < 4294967296 → 0 < popN s → coT a b n s t = some r → r.length + 1 ≤ t.length + 2 * popN s
  | 0, _, _, _, _, _, h => by rw [coT_zero] at h; cases h
  | n + 1, s, t, r, hs, hp, h => by
    by_cases h1 : popN s = 1
    · rw [coT_leaf h1, Option.some.injEq] at h
      subst h; simp; omega
    · by_cases h2 : (coParts a b s).length = 1
      · rw [coT_none h1 h2] at h; cases h
      · cases hk : coKids (coT a b n) (coParts a b s) t [] with
        | none => rw [coT_kids_none h1 h2 hk] at h; cases h
        | some x =>
          obtain ⟨t2, ks⟩ := x
          rw [coT_kids h1 h2 hk, Option.some.injEq] at h
          subst h
          have hall : ∀ (k : Nat) (t1 : List PNode) (ks1 : List Int), k ≤ (coParts a b s).length → KidsI (coT a b n) (coParts a b s) t t1 ks1 k → t2.length + (coParts a b s).length ≤ t.length + 2 * popN s := by
            intro k
            obtain ⟨d, hd⟩ : ∃ d, (coParts a b s).length - k = d := ⟨_, rfl⟩
            induction d generalizing k with
            | zero =>
              intro t1 ks1 hkl hI
              have := hI.done (by omega)
              rw [hk] at this
              simp only [Option.some.injEq, Prod.mk.injEq] at this
              have hl := hI.len
              have hks : k = (coParts a b s).length := by omega
              rw [hks, List.take_length, coParts_sum hs] at hl
              rw [this.1]; omega
            | succ d ih =>
              intro t1 ks1 hkl hI
              have hlt : k < (coParts a b s).length := by omega
              have hin := coParts_in hs (List.getElem_mem hlt)
              cases hf : coT a b n (coParts a b s)[k] t1 with
              | none => have := hI.fail hlt hf; rw [hk] at this; cases this
              | some t1' => exact ih (k + 1) (by omega) t1' _ (by omega) (hI.next hlt hf (coT_len hin.2.1 hin.1 hf))
          have := hall 0 t [] (Nat.zero_le _) (KidsI.start _ _ _)
          have h0 : (coParts a b s).length ≠ 0 := fun e => by
            have h3 := coParts_sum (a := a) (b := b) hs
            rw [List.eq_nil_of_length_eq_zero e] at h3
            simp [sumP] at h3; omega
          simp; omega
open Classical in
noncomputable def coF (g : List (List Int)) : Option (List PNode) := if gokB g = true then coT (netsL g) (complN (netsL g)) g.length (firstN g.length) [] else none
end Go.Proofs.YthpbeiihlembnaaDoor
