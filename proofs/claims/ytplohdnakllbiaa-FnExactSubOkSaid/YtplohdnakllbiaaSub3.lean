/- The hubs of a pattern: plain facts. -/
import Derived.Test.YtplohdnakllbiaaSub2
import Derived.Test.YtplohdnakllbiaaSub1
import Derived.Test.YtplohdnakllbiaaPop
namespace Go.Proofs.Ytplohdnakllbiaa
open Go.RowKit
/-- Rising, as far as place k. -/
def IncTo (xs : List Int) (k : Nat) : Prop := ∀ i, 0 < i → i < k → i < xs.length → xs.getD (i - 1) 0 < xs.getD i 0
def IncP (xs : List Int) : Prop := IncTo xs xs.length
theorem incTo_one (xs : List Int) : IncTo xs 1 := fun i h0 h1 _ => by omega
theorem incTo_succ {xs : List Int} {k : Nat} (h : IncTo xs k) (h1 : xs.getD (k - 1) 0 < xs.getD k 0) : IncTo xs (k + 1) := fun i h0 hi hl => by
  by_cases e : i = k
  · subst e; exact h1
  · exact h i h0 (by omega) hl
theorem getD_get {α : Type} {xs : List α} {d : α} {i : Nat} (h : i < xs.length) : xs.getD i d = xs[i] := by simp [h]
theorem inc_lt {xs : List Int} (h : IncP xs) : ∀ (i j : Nat), j < i → i < xs.length → xs.getD j 0 < xs.getD i 0
  | 0, j, h1, _ => by omega
  | i + 1, j, h1, h2 => by
    have h3 := h (i + 1) (by omega) (by omega) h2
    rw [Nat.add_sub_cancel] at h3
    by_cases e : j = i
    · subst e; exact h3
    · have := inc_lt h i j (by omega) (by omega); omega
theorem rise_iff {xs : List Int} {n : Int} : Rise xs n ↔ IncP xs ∧ ∀ x ∈ xs, 0 ≤ x ∧ x < n := by
  constructor
  · intro h
    refine ⟨fun i h0 hi hl => ?_, fun x hx => ?_⟩
    · have := (h i hl hl).2.2 (i - 1) (by omega)
      rw [getD_get (by omega), getD_get hl]; exact this
    · obtain ⟨i, hi, rfl⟩ := List.getElem_of_mem hx
      have := h i hi hi
      exact ⟨this.1, by omega⟩
  · rintro ⟨h1, h2⟩ i hi _
    have := h2 _ (List.getElem_mem hi)
    refine ⟨this.1, by omega, fun j hj => ?_⟩
    have := inc_lt h1 i j hj hi
    rw [getD_get (by omega), getD_get hi] at this; exact this
structure HubAt (n : Nat) (xs : List Int) (i : Nat) : Prop where
  lo : 0 ≤ xs.getD i 0
  hi : xs.getD i 0 < n
  new : xs.getD i 0 ∉ xs.take i
structure HubsP (n : Nat) (k : Int) (xs : List Int) : Prop where
  some : side1 k ≠ 0
  len : xs.length = side1 k + side2 k
  inc1 : IncP (xs.take (side1 k))
  inc2 : IncP (xs.drop (side1 k))
  first : k = 2 → xs.getD 0 0 < xs.getD 3 0
  all : ∀ i, i < xs.length → HubAt n xs i
open Classical in
noncomputable def hubsB (n : Nat) (k : Int) (xs : List Int) : Bool := decide (HubsP n k xs)
theorem hubs_true {n : Nat} {k : Int} {xs : List Int} (h : HubsP n k xs) : hubsB n k xs = true := by simp [hubsB, h]
theorem hubs_false {n : Nat} {k : Int} {xs : List Int} (h : ¬ HubsP n k xs) : hubsB n k xs = false := by simp [hubsB, h]
theorem hubs_iff {n : Nat} {k : Int} {xs : List Int} : hubsB n k xs = true ↔ HubsP n k xs := by simp [hubsB]
theorem HubsP.range {n : Nat} {k : Int} {xs : List Int} (h : HubsP n k xs) : ∀ x ∈ xs, 0 ≤ x ∧ x < n := fun x hx => by
  obtain ⟨i, hi, rfl⟩ := List.getElem_of_mem hx
  have := h.all i hi
  have e := getD_get (d := (0 : Int)) hi
  exact ⟨by rw [← e]; exact this.lo, by rw [← e]; exact this.hi⟩
theorem HubsP.rise1 {n : Nat} {k : Int} {xs : List Int} (h : HubsP n k xs) : Rise (xs.take (side1 k)) n := rise_iff.2 ⟨h.inc1, fun x hx => h.range x (List.mem_of_mem_take hx)⟩
theorem HubsP.rise2 {n : Nat} {k : Int} {xs : List Int} (h : HubsP n k xs) : Rise (xs.drop (side1 k)) n := rise_iff.2 ⟨h.inc2, fun x hx => h.range x (List.mem_of_mem_drop hx)⟩
theorem nodup_take {xs : List Int} : xs.Nodup ↔ ∀ i, i < xs.length → xs.getD i 0 ∉ xs.take i := by
  rw [List.Nodup, List.pairwise_iff_getElem]
  constructor
  · intro h i hi hm
    rw [getD_get hi] at hm
    obtain ⟨j, hj, e⟩ := List.getElem_of_mem hm
    rw [List.length_take] at hj
    rw [List.getElem_take] at e
    exact h j i (by omega) hi (by omega) e
  · intro h i j hi hj hij e
    refine h j hj ?_
    rw [getD_get hj, ← e]
    exact List.mem_iff_getElem.2 ⟨i, by rw [List.length_take]; omega, by rw [List.getElem_take]⟩
theorem bitsI_nodup (m : Nat) : (bitsI m).Nodup := by
  unfold bitsI
  rw [List.Nodup, List.pairwise_map]
  exact (bitsN_sorted m).imp fun h => by omega
theorem mem_bits_mask {xs : List Int} (h : ∀ x ∈ xs, 0 ≤ x ∧ x < 32) (x : Int) : x ∈ bitsI (maskL xs) ↔ x ∈ xs := by
  unfold bitsI
  simp only [List.mem_map, mem_bitsN (maskL_lt32 h), testBit_maskL (fun v hv => (h v hv).1), decide_eq_true_eq]
  constructor
  · rintro ⟨i, hi, rfl⟩; exact hi
  · intro hx
    exact ⟨x.toNat, by rw [Int.toNat_of_nonneg (h x hx).1]; exact hx, Int.toNat_of_nonneg (h x hx).1⟩
theorem mask_size {xs : List Int} (h : ∀ x ∈ xs, 0 ≤ x ∧ x < 32) : (bitsI (maskL xs)).length = xs.length ↔ xs.Nodup := by
  constructor
  · intro he
    refine nodup_take.2 fun i hi hm => ?_
    have hsub : ∀ x ∈ bitsI (maskL xs), x ∈ xs.take i ++ xs.drop (i + 1) := fun x hx => by
      have hx2 := (mem_bits_mask h x).1 hx
      have e : xs = xs.take i ++ xs.getD i 0 :: xs.drop (i + 1) := by
        rw [getD_get hi, List.getElem_cons_drop, List.take_append_drop]
      rw [e, List.mem_append, List.mem_cons] at hx2
      rw [List.mem_append]
      rcases hx2 with k | k | k
      · exact .inl k
      · rw [k]; exact .inl hm
      · exact .inr k
    have := (nodup_sub (bitsI_nodup _) hsub).1
    rw [List.length_append, List.length_take, List.length_drop] at this
    omega
  · intro hn
    have h1 := (nodup_sub hn (fun x hx => (mem_bits_mask h x).2 hx)).1
    have h2 := (nodup_sub (bitsI_nodup (maskL xs)) (fun x hx => (mem_bits_mask h x).1 hx)).1
    omega
theorem maskL_lt16 {xs : List Int} (h : ∀ x ∈ xs, 0 ≤ x ∧ x < 16) : maskL xs < 65536 := lt_bits (n := 16) fun i hi => by
  rw [testBit_maskL (fun v hv => (h v hv).1), decide_eq_true_eq] at hi
  have := h i hi; omega
theorem HubsP.of {n : Nat} {k : Int} {xs : List Int} (h0 : side1 k ≠ 0) (hl : xs.length = side1 k + side2 k) (h1 : Rise (xs.take (side1 k)) n) (h2 : Rise (xs.drop (side1 k)) n) (hd : xs.Nodup) (h3 : k = 2 → xs.getD 0 0 < xs.getD 3 0) : HubsP n k xs := by
  have r1 := rise_iff.1 h1
  have r2 := rise_iff.1 h2
  have hr : ∀ x ∈ xs, 0 ≤ x ∧ x < (n : Int) := fun x hx => by
    rw [← List.take_append_drop (side1 k) xs, List.mem_append] at hx
    rcases hx with hx | hx
    · exact r1.2 x hx
    · exact r2.2 x hx
  refine ⟨h0, hl, r1.1, r2.1, h3, fun i hi => ?_⟩
  have := hr _ (List.getElem_mem hi)
  rw [← getD_get (d := (0 : Int)) hi] at this
  exact ⟨this.1, this.2, nodup_take.1 hd i hi⟩
theorem HubsP.nodup {n : Nat} {k : Int} {xs : List Int} (h : HubsP n k xs) : xs.Nodup := nodup_take.2 fun i hi => (h.all i hi).new
theorem rise_range {xs : List Int} {n : Int} {a : Nat} (h1 : Rise (xs.take a) n) (h2 : Rise (xs.drop a) n) : ∀ x ∈ xs, 0 ≤ x ∧ x < n := fun x hx => by
  rw [← List.take_append_drop a xs, List.mem_append] at hx
  rcases hx with hx | hx
  · exact (rise_iff.1 h1).2 x hx
  · exact (rise_iff.1 h2).2 x hx
/-- What is used when the paths up to place k are laid. -/
def innerI (p : List Int) : List Int := (p.drop 1).take (p.length - 2)
def usedTo (hubs : List Int) (paths : List (List Int)) (k : Nat) : List Int := hubs ++ (paths.take k).flatMap innerI
/-- The path at place i stands rightly. -/
structure PathOk (g : List (List Int)) (k : Int) (hubs : List Int) (paths : List (List Int)) (i : Nat) : Prop where
  two : 2 ≤ (paths.getD i []).length
  trail : trailB g (paths.getD i []) = true
  from_ : (paths.getD i []).getD 0 0 = hubs.getD ((pairsK k).getD i (0, 0)).1 0
  to_ : (paths.getD i []).getD ((paths.getD i []).length - 1) 0 = hubs.getD ((pairsK k).getD i (0, 0)).2 0
  free : ∀ x ∈ innerI (paths.getD i []), x ∉ usedTo hubs paths i
structure SubP (g : List (List Int)) (k : Int) (hubs : List Int) (paths : List (List Int)) : Prop where
  gok : GOk g
  hub : HubsP g.length k hubs
  len : paths.length = (pairsK k).length
  path : ∀ i, i < paths.length → PathOk g k hubs paths i
open Classical in
noncomputable def subB (g : List (List Int)) (k : Int) (hubs : List Int) (paths : List (List Int)) : Bool := decide (SubP g k hubs paths)
theorem sub_true {g : List (List Int)} {k : Int} {hubs : List Int} {paths : List (List Int)} (h : SubP g k hubs paths) : subB g k hubs paths = true := by simp [subB, h]
theorem sub_false {g : List (List Int)} {k : Int} {hubs : List Int} {paths : List (List Int)} (h : ¬ SubP g k hubs paths) : subB g k hubs paths = false := by simp [subB, h]
theorem usedTo_succ {hubs : List Int} {paths : List (List Int)} {k : Nat} (hk : k < paths.length) : usedTo hubs paths (k + 1) = usedTo hubs paths k ++ innerI paths[k] := by
  unfold usedTo
  rw [List.take_succ_eq_append_getElem hk, List.flatMap_append, List.append_assoc]; simp
theorem innerI_len (p : List Int) : (innerI p).length = p.length - 2 := by unfold innerI; rw [List.length_take, List.length_drop]; omega
theorem innerI_get {p : List Int} {i : Nat} (h : i + 2 < p.length) : (innerI p)[i]'(by rw [innerI_len]; omega) = p[i + 1] := by
  simp only [innerI, List.getElem_take, List.getElem_drop]; congr 1; omega
/-- A trail is no longer than there are vertices. -/
theorem trail_all {g : List (List Int)} {p : List Int} (h : trailB g p = true) : TrailTo g p p.length := fun i hi => List.all_eq_true.1 h i (List.mem_range.2 hi)
theorem trail_nodup {g : List (List Int)} {p : List Int} (h : trailB g p = true) : p.Nodup := nodup_take.2 fun i hi hm => by
  have h1 := trail_all h i hi
  have hr := (trail_all h).range
  rw [List.take_length] at hr
  have hx := hr _ (List.getElem_mem hi)
  obtain ⟨x, hx2⟩ := Int.eq_ofNat_of_zero_le hx.1
  rw [getD_get hi, hx2] at hm
  rw [tok_at hi hx2 (by omega)] at h1
  simp [hm] at h1
theorem trail_len {g : List (List Int)} {p : List Int} (h : trailB g p = true) : p.length ≤ g.length := by
  have hr := (trail_all h).range
  rw [List.take_length] at hr
  have := (nodup_sub (trail_nodup h) (E := rangeI g.length) (fun x hx => mem_rangeI.2 (hr x hx))).1
  simpa [rangeI] using this
end Go.Proofs.Ytplohdnakllbiaa
