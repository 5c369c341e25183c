/- Intervals out of a line of cliques: plain facts. -/
import Derived.Test.YtpdlcnpmljfclaaDoorLinM
namespace Go.Proofs.YtpdlcnpmljfclaaDoor
open Go.RowKit
/-- Each greatest clique is listed. -/
theorem clqL_full {H : List Nat} {k n : Nat} (hs : ∀ x y, (H.getD x 0).testBit y = true → (H.getD y 0).testBit x = true) (hirr : ∀ v, (H.getD v 0).testBit v = false) {f : Nat → Nat → Nat → List Nat} {c : Nat}
    (hf : ∀ c o x M, CXI H k c o x → o < 4294967296 → popN o < n → MaxC H k M → (∀ i, c.testBit i = true → M.testBit i = true) → (∀ i, M.testBit i = true → c.testBit i = true ∨ o.testBit i = true) → (∀ i, M.testBit i = true → x.testBit i = false) → M ∈ f c o x)
    {M : Nat} (hM : MaxC H k M) (hc : ∀ i, c.testBit i = true → M.testBit i = true) : ∀ (l : List Nat) (o x : Nat), o < 4294967296 → bitsN o = l → popN o ≤ n → CXI H k c o x → (∃ i, M.testBit i = true ∧ c.testBit i = false) → (∀ i, M.testBit i = true → c.testBit i = true ∨ o.testBit i = true) → (∀ i, M.testBit i = true → x.testBit i = false) → M ∈ clqL f H c l o x
  | [], o, x, ho, hl, _, hi, ⟨i, h1, h2⟩, ho2, hx => by
    rcases ho2 i h1 with h | h
    · rw [h] at h2; cases h2
    · have := (mem_bitsN ho).2 h
      rw [hl] at this; cases this
  | v :: t, o, x, ho, hl, hp, hi, hne, ho2, hx => by
    have hv : o.testBit v = true := (mem_bitsN ho).1 (by rw [hl]; simp)
    have hv32 := bit_lt_of (n := 32) ho hv
    rw [clqL, List.mem_append]
    cases hMv : M.testBit v with
    | true =>
      left
      refine hf _ _ _ M (hi.go hs hv) (and_ltC ho) ?_ hM (fun i hi2 => ?_) (fun i hi2 => ?_) (fun i hi2 => ?_)
      · have := popN_lt (a := o &&& H.getD v 0) (b := o) (i := v) ho (fun j hj => by rw [Nat.testBit_and, Bool.and_eq_true] at hj; exact hj.1) hv (by rw [Nat.testBit_and, hirr]; simp)
        omega
      · rcases or_bitC.1 hi2 with h | rfl
        · exact hc i h
        · exact hMv
      · by_cases e : i = v
        · exact .inl (or_bitC.2 (.inr e))
        · rcases ho2 i hi2 with h | h
          · exact .inl (or_bitC.2 (.inl h))
          · right
            rw [Nat.testBit_and, h, hM.cl v i hMv hi2 (fun e2 => e e2.symm)]; rfl
      · rw [Nat.testBit_and, hx i hi2]; rfl
    | false =>
      right
      refine clqL_full hs hirr hf hM hc t _ _ (Nat.lt_of_le_of_lt (andN_le _ _) ho) (bits_tailC ho hl) ?_ (hi.next ho hv) hne (fun i hi2 => ?_) (fun i hi2 => ?_)
      · have := popN_lt (a := andN o (bit v)) (b := o) (i := v) ho (fun j hj => by rw [testBit_andN ho (bit_lt hv32), Bool.and_eq_true] at hj; exact hj.1) hv (by rw [testBit_andN ho (bit_lt hv32), testBit_bit]; simp)
        omega
      · rcases ho2 i hi2 with h | h
        · exact .inl h
        · right
          rw [testBit_andN ho (bit_lt hv32), h, testBit_bit]
          have : v ≠ i := fun e => by subst e; rw [hMv] at hi2; cases hi2
          simp [this]
      · cases hb : (x ||| bit v).testBit i
        · rfl
        · rcases or_bitC.1 hb with h | h
          · rw [hx i hi2] at h; cases h
          · subst h; rw [hMv] at hi2; cases hi2
theorem clqF_full {H : List Nat} {k : Nat} (hs : ∀ x y, (H.getD x 0).testBit y = true → (H.getD y 0).testBit x = true) (hirr : ∀ v, (H.getD v 0).testBit v = false) : ∀ (n c o x M : Nat), CXI H k c o x → o < 4294967296 → popN o < n → MaxC H k M → (∀ i, c.testBit i = true → M.testBit i = true) → (∀ i, M.testBit i = true → c.testBit i = true ∨ o.testBit i = true) → (∀ i, M.testBit i = true → x.testBit i = false) → M ∈ clqF H n c o x
  | 0, _, _, _, _, _, _, hp, _, _, _, _ => by omega
  | n + 1, c, o, x, M, hi, ho, hp, hM, hc, ho2, hx => by
    rw [clqF]
    by_cases hne : ∃ i, M.testBit i = true ∧ c.testBit i = false
    · obtain ⟨i, h1, h2⟩ := hne
      have ho0 : o ≠ 0 := fun e => by
        rcases ho2 i h1 with h | h
        · rw [h] at h2; cases h2
        · rw [e, Nat.zero_testBit] at h; cases h
      rw [if_neg ho0]
      exact clqL_full hs hirr (clqF_full hs hirr n) hM hc _ o x ho rfl (by omega) hi ⟨i, h1, h2⟩ ho2 hx
    · have e : c = M := nat_ext fun i => by
        rw [Bool.eq_iff_iff]
        refine ⟨hc i, fun h => ?_⟩
        cases hb : c.testBit i
        · exact absurd ⟨i, h, hb⟩ hne
        · rfl
      have ho0 : o = 0 := nat_ext fun i => by
        rw [Nat.zero_testBit]
        cases hb : o.testBit i
        · rfl
        · have hik := hi.olt i hb
          exact (hM.max i hik fun u hu => (hi.all i hik).1 (.inl hb) u (by rw [e]; exact hu)).elim
      have hx0 : x = 0 := nat_ext fun i => by
        rw [Nat.zero_testBit]
        cases hb : x.testBit i
        · rfl
        · have hik := hi.xlt i hb
          exact (hM.max i hik fun u hu => (hi.all i hik).1 (.inr hb) u (by rw [e]; exact hu)).elim
      rw [if_pos ho0, if_pos hx0, e]; simp
theorem max_exC {H : List Nat} {k : Nat} (hk : k ≤ 16) (hs : ∀ x y, (H.getD x 0).testBit y = true → (H.getD y 0).testBit x = true) (hirr : ∀ v, (H.getD v 0).testBit v = false) : ∀ (d c : Nat), k - popN c ≤ d → CliqN H c → (∀ i, c.testBit i = true → i < k) → ∃ M, MaxC H k M ∧ ∀ i, c.testBit i = true → M.testBit i = true
  | d, c, hd, hcl, hlt => by
    have hc2 : c < 2 ^ k := lt_bits hlt
    have hc32 : c < 4294967296 := Nat.lt_of_lt_of_le hc2 (Nat.le_trans (Nat.pow_le_pow_right (by omega) hk) (by decide))
    by_cases hmax : ∃ v, v < k ∧ ∀ u, c.testBit u = true → (H.getD u 0).testBit v = true
    · obtain ⟨v, hv, hu⟩ := hmax
      have hvc : c.testBit v = false := by
        cases hb : c.testBit v
        · rfl
        · have := hu v hb; rw [hirr] at this; cases this
      have hpp := popN_add hc32 (show v < 32 by omega) hvc
      have hcl2 : CliqN H (c ||| bit v) := fun a b ha hb hne => by
        rcases or_bitC.1 ha with ha1 | ha1
        · rcases or_bitC.1 hb with hb1 | hb1
          · exact hcl a b ha1 hb1 hne
          · rw [hb1]; exact hu a ha1
        · rcases or_bitC.1 hb with hb1 | hb1
          · rw [ha1]; exact hs _ _ (hu b hb1)
          · exact absurd (ha1.trans hb1.symm) hne
      have hlt2 : ∀ i, (c ||| bit v).testBit i = true → i < k := fun i hi => by
        rcases or_bitC.1 hi with h | rfl
        · exact hlt i h
        · exact hv
      have hle : popN (c ||| bit v) ≤ k := by
        have h2 : c ||| bit v < 4294967296 := Nat.or_lt_two_pow (n := 32) hc32 (bit_lt (by omega))
        have := popN_firstN hk
        have h3 : popN (c ||| bit v) ≤ popN (firstN k) := by
          by_cases e : c ||| bit v = firstN k
          · rw [e]; exact Nat.le_refl _
          · obtain ⟨i, h4, h5⟩ : ∃ i, (firstN k).testBit i = true ∧ (c ||| bit v).testBit i = false := by
              apply Classical.byContradiction
              intro hno
              refine e (nat_ext fun i => ?_)
              rw [Bool.eq_iff_iff, testBit_firstN, decide_eq_true_eq]
              refine ⟨hlt2 i, fun hi => ?_⟩
              cases hb : (c ||| bit v).testBit i
              · exact absurd ⟨i, by rw [testBit_firstN, decide_eq_true_eq]; exact hi, hb⟩ hno
              · rfl
            exact Nat.le_of_lt (popN_lt (i := i) (by have := firstN_lt hk; omega) (fun j hj => by rw [testBit_firstN, decide_eq_true_eq]; exact hlt2 j hj) h4 h5)
        omega
      match d, hd with
      | 0, hd => omega
      | d + 1, hd =>
        obtain ⟨M, h1, h2⟩ := max_exC hk hs hirr d (c ||| bit v) (by omega) hcl2 hlt2
        exact ⟨M, h1, fun i hi => h2 i (or_bitC.2 (.inl hi))⟩
    · exact ⟨c, ⟨hcl, hlt, fun v hv h => hmax ⟨v, hv, h⟩⟩, fun _ h => h⟩
/-- Each vertex is in a greatest clique. -/
theorem clqs_cover {H : List Nat} (h16 : H.length ≤ 16) (hs : ∀ x y, (H.getD x 0).testBit y = true → (H.getD y 0).testBit x = true) (hirr : ∀ v, (H.getD v 0).testBit v = false) {v : Nat} (hv : v < H.length) : ∃ r ∈ clqs H, r.testBit v = true := by
  have hb : ∀ i, (bit v).testBit i = true → i = v := fun i hi => by rw [testBit_bit, decide_eq_true_eq] at hi; exact hi.symm
  obtain ⟨M, h1, h2⟩ := max_exC (k := H.length) h16 hs hirr _ (bit v) (Nat.le_refl _) (fun x y hx hy hne => absurd ((hb x hx).trans (hb y hy).symm) hne) (fun i hi => by rw [hb i hi]; exact hv)
  have hf := firstN_lt h16
  have hp := popN_firstN h16
  refine ⟨M, clqF_full hs hirr 33 0 (firstN H.length) 0 M (CXI.start H) (by omega) (by omega) h1 (fun i hi => by rw [Nat.zero_testBit] at hi; cases hi) (fun i hi => .inr (by rw [testBit_firstN, decide_eq_true_eq]; exact h1.lt i hi)) (fun i _ => Nat.zero_testBit i), h2 v (by rw [testBit_bit]; simp)⟩
/-- All cliques stand in the line. -/
theorem lineF_all {cs : List Nat} (hm : cs.length ≤ 16) : ∀ (n s : Nat) (r : List Nat), s < 2 ^ cs.length → lineF cs n s = some r → ∀ k, k < cs.length → s.testBit k = false → k ∈ r
  | 0, s, r, _, h, k, hk, hb => by
    rw [lineF] at h
    split at h
    · rename_i e; rw [e, testBit_firstN, decide_eq_false_iff_not] at hb; exact absurd hk hb
    · cases h
  | n + 1, s, r, hs, h, k, hk, hb => by
    rw [lineF] at h
    split at h
    · rename_i e; rw [e, testBit_firstN, decide_eq_false_iff_not] at hb; exact absurd hk hb
    · obtain ⟨j, hj, h2⟩ := try_mem h
      rw [List.mem_filter, mem_leftC hm hs] at hj
      cases hx : lineF cs n (s ||| bit j) with
      | none => rw [hx] at h2; cases h2
      | some q =>
        rw [hx] at h2
        simp only [Option.map_some, Option.some.injEq] at h2
        subst h2
        by_cases e : k = j
        · subst e; simp
        · have := lineF_all hm n _ q (more_lt hs hj.1.1) hx k hk (by
            cases hb2 : (s ||| bit j).testBit k
            · rfl
            · rcases or_bitC.1 hb2 with h3 | h3
              · rw [hb] at h3; cases h3
              · exact absurd h3 e)
          simp [this]
/-- The first and the last place of a vertex, as far as some places; z where there is none. -/
def ivStep (p : Int × Int) (k : Nat) (hit : Bool) : Int × Int := if hit = true then (if p.1 < 0 then (k : Int) else p.1, (k : Int)) else p
def ivTo (cs r : List Nat) (v : Nat) (z : Int) : Nat → Int × Int
  | 0 => (-1, z)
  | k + 1 => ivStep (ivTo cs r v z k) k ((cs.getD (r.getD k 0) 0).testBit v)
theorem ivTo_bound (cs r : List Nat) (v : Nat) (z : Int) : ∀ k, (ivTo cs r v z k).1 < 0 ∧ (ivTo cs r v z k) = (-1, z) ∨ 0 ≤ (ivTo cs r v z k).1 ∧ (ivTo cs r v z k).1 < k ∧ 0 ≤ (ivTo cs r v z k).2 ∧ (ivTo cs r v z k).2 < k
  | 0 => .inl ⟨by simp [ivTo], rfl⟩
  | k + 1 => by
    have ih := ivTo_bound cs r v z k
    rw [ivTo]
    generalize ivTo cs r v z k = p at *
    generalize (cs.getD (r.getD k 0) 0).testBit v = b
    unfold ivStep
    cases b
    · rw [if_neg (by simp)]
      rcases ih with h | h
      · exact .inl h
      · right; omega
    · rw [if_pos rfl]
      right
      rcases ih with ⟨h1, h2⟩ | h
      · simp only [if_pos h1]; omega
      · simp only [if_neg (show ¬ p.1 < 0 by omega)]; omega
theorem ivTo_same (cs r : List Nat) (v : Nat) (z z' : Int) : ∀ k, (ivTo cs r v z k).1 = (ivTo cs r v z' k).1 ∧ (0 ≤ (ivTo cs r v z k).1 → ivTo cs r v z k = ivTo cs r v z' k)
  | 0 => ⟨rfl, fun h => by simp [ivTo] at h⟩
  | k + 1 => by
    obtain ⟨h1, h2⟩ := ivTo_same cs r v z z' k
    rw [ivTo, ivTo]
    generalize ivTo cs r v z k = p at *
    generalize ivTo cs r v z' k = q at *
    generalize (cs.getD (r.getD k 0) 0).testBit v = b
    unfold ivStep
    cases b
    · rw [if_neg (by simp), if_neg (by simp)]; exact ⟨h1, h2⟩
    · rw [if_pos rfl, if_pos rfl, h1]; exact ⟨rfl, fun _ => rfl⟩
theorem ivTo_hit (cs r : List Nat) (v : Nat) (z : Int) : ∀ k j, j < k → (cs.getD (r.getD j 0) 0).testBit v = true → 0 ≤ (ivTo cs r v z k).1
  | 0, _, hj, _ => by omega
  | k + 1, j, hj, hb => by
    have hbd := ivTo_bound cs r v z k
    rw [ivTo]
    by_cases e : j = k
    · subst e
      rw [hb]
      unfold ivStep
      rw [if_pos rfl]
      simp only
      split
      · omega
      · omega
    · have ih := ivTo_hit cs r v z k j (by omega) hb
      unfold ivStep
      split
      · simp only
        split
        · omega
        · exact ih
      · exact ih
/-- Where all cliques stand in the line, it does not matter what stood there at first. -/
theorem iv_any {H r : List Nat} (h1 : 0 < H.length) (h16 : H.length ≤ 16) (hH : ∀ v, H.getD v 0 < 4294967296) (hs : ∀ x y, (H.getD x 0).testBit y = true → (H.getD y 0).testBit x = true) (hirr : ∀ v, (H.getD v 0).testBit v = false) (hp : peo H ≠ none) (hr : lineG (clqs H) 0 = some r) {v : Nat} (hv : v < H.length) (z z' : Int) :
    ivTo (clqs H) r v z r.length = ivTo (clqs H) r v z' r.length := by
  have hm : (clqs H).length ≤ 16 := Nat.le_trans ((clqs_facts h1 h16 hH hs hirr).2.2.2 hp) h16
  obtain ⟨M, hM, hMv⟩ := clqs_cover h16 hs hirr hv
  obtain ⟨k, hk, rfl⟩ := List.getElem_of_mem hM
  have hkr := lineF_all hm _ 0 r (Nat.two_pow_pos _) hr k hk (Nat.zero_testBit k)
  obtain ⟨j, hj, e⟩ := List.getElem_of_mem hkr
  have hhit := ivTo_hit (clqs H) r v z r.length j hj (by
    rw [show r.getD j 0 = k by simp [hj, e], show (clqs H).getD k 0 = (clqs H)[k] by simp [hk]]
    exact hMv)
  exact (ivTo_same _ _ _ _ _ _).2 hhit
end Go.Proofs.YtpdlcnpmljfclaaDoor
