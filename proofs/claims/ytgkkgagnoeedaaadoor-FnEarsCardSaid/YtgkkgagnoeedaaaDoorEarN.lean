/- Ears: what the program tests, against what an ear is. -/
import Derived.Test.YtgkkgagnoeedaaaDoorTrail
namespace Go.Proofs.YtgkkgagnoeedaaaDoor
open Go.RowKit
theorem natsI_at {l : List Nat} {k : Nat} (hk : k < (natsI l).length) (hk2 : k < l.length) : (natsI l)[k] = (l[k] : Nat) := by simp [natsI]
theorem natsOf_natsI (p : List Nat) : natsOf (natsI p) = p := by
  unfold natsOf natsI
  induction p with
  | nil => rfl
  | cons a t ih => rw [List.map_cons, List.map_cons, ih]; simp
theorem trail_vok {g : List (List Int)} {p : List Int} (h : trailB g p = true) (m : Nat) : (List.range p.length).all (vokB g.length p m true) = true := by
  rw [trailB, List.all_eq_true] at h
  rw [List.all_eq_true]
  intro i hi
  have := h i hi
  simp only [tokB, Bool.and_eq_true] at this
  rw [vokB, Bool.true_or, Bool.and_true, Bool.and_eq_true]
  exact this.1
theorem trail_step {g : List (List Int)} (hg : GOk g) {p : List Nat} (h : trailB g (natsI p) = true) {i : Nat} (hi : i + 1 < p.length) : ((p.getD (i + 1) 0 : Nat) : Int) ∈ g.getD (p.getD i 0) [] := by
  have hr := (ear_nats (trail_vok h 0)).2.2
  rw [trailB, List.all_eq_true] at h
  have := h (i + 1) (List.mem_range.2 (by rw [natsI_len]; exact hi))
  have e : ∀ j, j < p.length → (natsI p).getD j 0 = ((p.getD j 0 : Nat) : Int) := fun j hj => by simp [natsI, hj]
  simp only [tokB, Bool.and_eq_true, Bool.or_eq_true, decide_eq_true_eq, inB_iff] at this
  obtain ⟨⟨h1, -⟩, h3⟩ := this
  rw [e _ hi] at h1 h3
  rcases h3 with h3 | h3
  · omega
  · rw [Int.toNat_natCast, Nat.add_sub_cancel, e i (by omega)] at h3
    exact (hg.symD (by omega) h3).2.1
def vendB (ear : List Int) (m : Nat) (i : Nat) : Bool := m.testBit (ear.getD i 0).toNat == (decide (i = 0) || decide (i = ear.length - 1))
theorem vok_split (n : Nat) (ear : List Int) (m : Nat) (first : Bool) : (List.range ear.length).all (vokB n ear m first) = ((List.range ear.length).all (vokB n ear m true) && (first || (List.range ear.length).all (vendB ear m))) := by
  rw [Bool.eq_iff_iff]
  cases first with
  | true => simp
  | false =>
    simp only [Bool.false_or, Bool.and_eq_true, List.all_eq_true]
    constructor
    · intro h
      refine ⟨fun i hi => ?_, fun i hi => ?_⟩
      · have := h i hi
        simp only [vokB, Bool.false_or, Bool.and_eq_true] at this
        simp only [vokB, Bool.true_or, Bool.and_true, Bool.and_eq_true]; exact this.1
      · have := h i hi
        simp only [vokB, Bool.false_or, Bool.and_eq_true] at this
        exact this.2
    · rintro ⟨h1, h2⟩ i hi
      have a := h1 i hi
      simp only [vokB, Bool.true_or, Bool.and_true] at a
      simp only [vokB, Bool.false_or]
      rw [a, Bool.true_and]; exact h2 i hi
/-- What the program tests at the vertices of an ear behind others. -/
def endsB (m : Nat) (p : List Nat) : Bool := m.testBit (p.getD 0 0) && (m.testBit (p.getD (p.length - 1) 0) && decide (maskL ((natsI (p.take (p.length - 1))).drop 1) &&& m = 0))
theorem ends_eq {p : List Nat} {m : Nat} (h2 : 2 ≤ p.length) : (List.range (natsI p).length).all (vendB (natsI p) m) = endsB m p := by
  have e : ∀ j, j < p.length → (natsI p).getD j 0 = ((p.getD j 0 : Nat) : Int) := fun j hj => by simp [natsI, hj]
  have key : ∀ j, j < p.length → vendB (natsI p) m j = (m.testBit (p.getD j 0) == (decide (j = 0) || decide (j = p.length - 1))) := fun j hj => by
    rw [vendB, e j hj, Int.toNat_natCast, natsI_len]
  have hml : ∀ y ∈ (natsI (p.take (p.length - 1))).drop 1, 0 ≤ y := fun y hy => by
    obtain ⟨a, _, rfl⟩ := List.mem_map.1 (List.mem_of_mem_drop hy); omega
  have hin : ∀ x : Nat, (x : Int) ∈ (natsI (p.take (p.length - 1))).drop 1 ↔ ∃ j, 1 ≤ j ∧ j < p.length - 1 ∧ p.getD j 0 = x := fun x => by
    rw [List.mem_iff_getElem]
    constructor
    · rintro ⟨j, hj, hx⟩
      rw [List.length_drop, natsI_len, List.length_take] at hj
      refine ⟨j + 1, by omega, by omega, ?_⟩
      have hjl : j + 1 < p.length := by omega
      simp only [natsI, List.getElem_drop, List.getElem_map, List.getElem_take] at hx
      have e3 : p.getD (j + 1) 0 = p[j + 1] := by simp [hjl]
      rw [e3]
      have : 1 + j = j + 1 := by omega
      simp only [this] at hx
      omega
    · rintro ⟨j, h1, h3, hx⟩
      have hjl : j < p.length := by omega
      refine ⟨j - 1, by rw [List.length_drop, natsI_len, List.length_take]; omega, ?_⟩
      simp only [natsI, List.getElem_drop, List.getElem_map, List.getElem_take]
      have : 1 + (j - 1) = j := by omega
      simp only [this]
      have e3 : p.getD j 0 = p[j] := by simp [hjl]
      rw [← e3, hx]
  rw [natsI_len, Bool.eq_iff_iff, List.all_eq_true, endsB]
  simp only [Bool.and_eq_true, decide_eq_true_eq]
  constructor
  · intro h
    have h0 := h 0 (List.mem_range.2 (by omega))
    have h1 := h (p.length - 1) (List.mem_range.2 (by omega))
    rw [key _ (by omega)] at h0 h1
    simp only [decide_true, Bool.true_or, Bool.or_true, beq_iff_eq] at h0 h1
    refine ⟨h0, h1, Nat.eq_of_testBit_eq fun x => ?_⟩
    rw [Nat.testBit_and, Nat.zero_testBit, testBit_maskL hml, Bool.and_eq_false_iff]
    by_cases hx : (x : Int) ∈ (natsI (p.take (p.length - 1))).drop 1
    · right
      obtain ⟨j, hj1, hj2, rfl⟩ := (hin x).1 hx
      have := h j (List.mem_range.2 (by omega))
      rw [key _ (by omega), decide_eq_false (by omega), decide_eq_false (by omega)] at this
      simpa using this
    · left; exact decide_eq_false hx
  · rintro ⟨h0, h1, h3⟩ j hj
    have hj := List.mem_range.1 hj
    rw [key j hj]
    by_cases e0 : j = 0
    · subst e0; rw [h0]; simp
    · by_cases e1 : j = p.length - 1
      · subst e1; rw [h1]; simp
      · rw [decide_eq_false e0, decide_eq_false e1]
        have hx := (hin (p.getD j 0)).2 ⟨j, by omega, by omega, rfl⟩
        have := congrArg (fun z => z.testBit (p.getD j 0)) h3
        simp only [Nat.testBit_and, Nat.zero_testBit, testBit_maskL hml, decide_eq_true hx, Bool.true_and] at this
        rw [this]; rfl
/-- An ear that is a trail. -/
theorem ear_trail {g : List (List Int)} {p : List Nat} {m : Nat} {U : List NP} {first : Bool} (h : trailB g (natsI p) = true) (h2 : 2 ≤ p.length) :
    earB g (natsI p) m U first = (decide ((if first = true then 3 else 2) ≤ p.length) && ((first || endsB m p) && (stepsN p first).all (freeB g U))) := by
  rw [earB, vok_split, trail_vok h, Bool.true_and, ends_eq h2, natsOf_natsI, natsI_len, Bool.and_assoc]
theorem ear_is_trail {g : List (List Int)} (hg : GOk g) {ear : List Int} {m : Nat} {U : List NP} {first : Bool} (h : earB g ear m U first = true) : trailB g ear = true := by
  simp only [earB, Bool.and_eq_true] at h
  obtain ⟨⟨h1, h2⟩, h3⟩ := h
  obtain ⟨e1, e2, hp⟩ := ear_nats h2
  rw [List.all_eq_true] at h2 h3
  rw [trailB, List.all_eq_true]
  intro i hi
  have h4 := h2 i hi
  have hi := List.mem_range.1 hi
  simp only [vokB, Bool.and_eq_true] at h4
  rw [tokB, Bool.and_eq_true, Bool.and_eq_true]
  refine ⟨h4.1, ?_⟩
  by_cases e : i = 0
  · simp [e]
  · have hl : i - 1 < (stepsN (natsOf ear) first).length := by rw [stepsN_len, e2]; omega
    have hs := h3 _ (List.getElem_mem hl)
    rw [stepsN_get, if_pos (by rw [e2]; omega)] at hs
    simp only [freeB, Bool.and_eq_true, decide_eq_true_eq] at hs
    have hlt : (natsOf ear).getD (i - 1) 0 < g.length := by
      have : (natsOf ear).getD (i - 1) 0 = (natsOf ear)[i - 1]'(by rw [e2]; omega) := by simp; rw [List.getElem?_eq_getElem (by rw [e2]; omega)]; rfl
      rw [this]; exact hp.1 _ (List.getElem_mem _)
    have h5 := (hg.symD hlt hs.1).2.1
    have ee : ∀ j, j < ear.length → ear.getD j 0 = (((natsOf ear).getD j 0 : Nat) : Int) := fun j hj => by
      have this : (natsI (natsOf ear)).getD j 0 = ear.getD j 0 := by rw [e1]
      rw [← this]
      have hj2 : j < (natsOf ear).length := by omega
      simp [natsI, hj2]
    rw [ee i hi, ee (i - 1) (by omega), Int.toNat_natCast]
    have e4 : i - 1 + 1 = i := by omega
    rw [e4] at h5
    simp only [Bool.or_eq_true, decide_eq_true_eq]
    exact .inr h5
end Go.Proofs.YtgkkgagnoeedaaaDoor
