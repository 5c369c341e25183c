/- The tree of modules: it is always there; the greatest modules by both searches: plain facts. -/
import Derived.Test.YthpbeiihlembnaaDoorModTN
namespace Go.Proofs.YthpbeiihlembnaaDoor
open Go.RowKit
theorem coKids_some {f : Nat → List PNode → Option (List PNode)} : ∀ {ps : List Nat} {t : List PNode} {ks : List Int}, (∀ p ∈ ps, ∀ t, ∃ r, f p t = some r) → ∃ r, coKids f ps t ks = some r
  | [], t, ks, _ => ⟨(t, ks), rfl⟩
  | p :: ps, t, ks, h => by
    obtain ⟨r, hr⟩ := h p (by simp) t
    rw [coKids, hr]
    exact coKids_some fun q hq => h q (by simp [hq])
theorem mdT_some {g : List (List Int)} (hg : GOk g) : ∀ {n s : Nat} (t : List PNode), s < 2 ^ g.length → 0 < popN s → popN s ≤ n → ∃ r, mdT g n s t = some r
  | 0, _, _, _, h, h2 => by omega
  | n + 1, s, t, hs, hp, hn => by
    by_cases h1 : popN s = 1
    · exact ⟨_, mdT_leaf h1⟩
    · have hok := mdParts_ok hg hs (by omega)
      obtain ⟨⟨t2, ks⟩, hk⟩ := coKids_some (f := mdT g n) (ps := mdParts g s) (t := t) (ks := []) (fun p hp t => by
        have h := hok.in_ p hp
        exact mdT_some hg t (sub_lt hs h.2.2.1) h.1 (by omega))
      exact ⟨_, mdT_kids h1 hk⟩
/-- The modules so far: those found, what they hold. -/
structure GrtI (g : List (List Int)) (s : Nat) (out : List Nat) (D : Nat) : Prop where
  lt : D < 4294967296
  sub : ∀ i, D.testBit i = true → s.testBit i = true
  whole : WholeR g s (andN s D)
  rest : out ++ grtF g s 33 (andN s D) = grtN g s
theorem GrtI.start {g : List (List Int)} {s : Nat} (hs : s < 4294967296) : GrtI g s [] 0 := by
  have : andN s 0 = s := by
    apply nat_ext; intro i
    rw [testBit_andN hs (by omega), Nat.zero_testBit]; simp
  exact ⟨by omega, (fun i h => by rw [Nat.zero_testBit] at h; cases h), by rw [this]; exact whole_all hs, by rw [this]; rfl⟩
theorem GrtI.next {g : List (List Int)} (hg : GOk g) {s D v : Nat} {out : List Nat} (hp : PrimeS g s) (hs : s < 4294967296) (h : GrtI g s out D) (hv : s.testBit v = true) (hvD : D.testBit v = false) (hl : ∀ i, s.testBit i = true → i < v → D.testBit i = true) :
    GrtI g s (out ++ [mdM g s v]) (D ||| mdM g s v) := by
  have hr := mdM_lt (g := g) (v := v) hs
  have hA : andN s D < 4294967296 := Nat.lt_of_le_of_lt (andN_le _ _) hs
  have hvA : (andN s D).testBit v = true := by rw [testBit_andN hs h.lt, hv, hvD]; rfl
  have hA0 : andN s D ≠ 0 := fun e => by rw [e, Nat.zero_testBit] at hvA; cases hvA
  have hctz : Lib.ctz 32 (andN s D) = v := by
    refine Nat.le_antisymm (ctz_least hA0 hA hvA) ?_
    apply Nat.le_of_not_lt
    intro hlt
    have hc := ctz_bit hA0 hA
    rw [testBit_andN hs h.lt, Bool.and_eq_true, Bool.not_eq_true'] at hc
    rw [hl _ hc.1 hlt] at hc; cases hc.2
  have hw := h.whole.next hg hp hs hA hvA
  have e := andN_andN hs h.lt hr
  refine ⟨Nat.or_lt_two_pow (n := 32) h.lt hr, fun i hi => ?_, by rw [← e]; exact hw, ?_⟩
  · rw [Nat.testBit_or, Bool.or_eq_true] at hi
    rcases hi with hi | hi
    · exact h.sub i hi
    · exact mdM_sub hs hi
  · have hstep : grtF g s 33 (andN s D) = mdM g s v :: grtF g s 33 (andN s (D ||| mdM g s v)) := by
      have h33 : grtF g s 33 (andN s D) = grtF g s 34 (andN s D) := by
        have := popN_32 (andN s D)
        exact grtF_enough hg hp hs hA h.whole (by omega) (by omega)
      rw [h33, grtF, if_neg hA0, hctz, e]
    rw [← h.rest, hstep]
    simp
theorem GrtI.done {g : List (List Int)} {s D : Nat} {out : List Nat} (hs : s < 4294967296) (h : GrtI g s out D) (ha : ∀ i, s.testBit i = true → D.testBit i = true) : out = grtN g s := by
  have := h.rest
  rw [(andN_zero_iff hs h.lt).2 ha, grtF, if_pos rfl, List.append_nil] at this
  exact this
theorem GrtI.len {g : List (List Int)} {s D : Nat} {out : List Nat} (h : GrtI g s out D) : out.length ≤ 33 := by
  have h1 := congrArg List.length h.rest
  have h2 := grtF_len (g := g) (s := s) 33 s
  rw [List.length_append] at h1
  unfold grtN at h1
  omega
/-- Whether a pair's closure is not all: the second lies in the first's greatest module. -/
theorem clos_pair {g : List (List Int)} {s v u : Nat} (hp : PrimeS g s) (hs : s < 4294967296) (hv : s.testBit v = true) (hu : s.testBit u = true) : (closW g (bitsI s) (pairI (v : Int) (u : Int)) ≠ bitsI s) ↔ (mdM g s v).testBit u = true := by
  have hvi : (v : Int) ∈ bitsI s := (mem_bitsI hs).2 ⟨by omega, by simpa using hv⟩
  have hui : (u : Int) ∈ bitsI s := (mem_bitsI hs).2 ⟨by omega, by simpa using hu⟩
  rw [testBit_mdM hs, mem_modW]
  constructor
  · intro h
    exact ⟨hui, .inr h⟩
  · rintro ⟨-, h | h⟩
    · rw [h]
      refine (closW_ne (bitsI_sorted s)).2 ?_
      obtain ⟨x, hx, hxv⟩ := hp.two (v : Int) hvi
      refine ⟨x, hx, fun hm => hxv ?_⟩
      have hmod : IsModW g (bitsI s) [(v : Int)] := mod_of (by simp) (fun y hy => by simp at hy; rw [hy]; exact hvi) (fun y _ _ => by
        by_cases hy : (v : Int) ∈ g.getD y.toNat []
        · exact .inl fun z hz => by simp at hz; rw [hz]; exact hy
        · exact .inr fun z hz => by simp at hz; rw [hz]; exact hy)
      have := closW_sub hmod (s := pairI (v : Int) v) (fun z hz => by
        rcases mem_pairI.1 hz with e | e <;> simp [e]) x hm
      simpa using this
    · exact h
theorem clos_len {g : List (List Int)} {I s : List Int} (hI : I.Pairwise (· < ·)) : (closW g I s).length < I.length ↔ closW g I s ≠ I := by
  constructor
  · intro h e; rw [e] at h; omega
  · intro h
    refine Nat.lt_of_le_of_ne (List.length_filter_le _ _) fun e => h ?_
    unfold closW at e ⊢
    exact List.filter_eq_self.2 (List.length_filter_eq_length_iff.1 e)
/-- The program's union: of v and the closures with those of R so far that are not all. -/
structure InMod (g : List (List Int)) (s v : Nat) (R : List Nat) (j M : Nat) : Prop where
  lt : M < 4294967296
  sub : ∀ i, M.testBit i = true → (mdM g s v).testBit i = true
  self : M.testBit v = true
  has : ∀ (i : Nat) (h : i < R.length), i < j → (mdM g s v).testBit R[i] = true → M.testBit R[i] = true
theorem InMod.start {g : List (List Int)} {s v : Nat} {R : List Nat} (hs : s < 4294967296) (hv : s.testBit v = true) : InMod g s v R 0 (bit v) :=
  ⟨bit_lt (by have := bit_lt_of (n := 32) hs hv; omega), fun i hi => by
    rw [testBit_bit, decide_eq_true_eq] at hi
    subst hi; exact mdM_self hs hv, by rw [testBit_bit]; simp, fun i _ h => by omega⟩
theorem InMod.skip {g : List (List Int)} {s v j M : Nat} {R : List Nat} (h : InMod g s v R j M) (hj : j < R.length) (hn : (mdM g s v).testBit R[j] = false) : InMod g s v R (j + 1) M :=
  ⟨h.lt, h.sub, h.self, fun i hi hij hb => by
    by_cases e : i = j
    · subst e; rw [hn] at hb; cases hb
    · exact h.has i hi (by omega) hb⟩
theorem InMod.put {g : List (List Int)} {s v j M : Nat} {R : List Nat} (hs : s < 4294967296) (h : InMod g s v R j M) (hj : j < R.length) (hv : s.testBit v = true) (hu : s.testBit R[j] = true) (hc : closW g (bitsI s) (pairI (v : Int) (R[j] : Nat)) ≠ bitsI s) :
    InMod g s v R (j + 1) (M ||| maskL (closW g (bitsI s) (pairI (v : Int) (R[j] : Nat)))) := by
  have hvi : (v : Int) ∈ bitsI s := (mem_bitsI hs).2 ⟨by omega, by simpa using hv⟩
  have hui : ((R[j] : Nat) : Int) ∈ bitsI s := (mem_bitsI hs).2 ⟨by omega, by simpa using hu⟩
  have hpin := pair_in hvi hui
  have hm := closW_mod (g := g) (bitsI_sorted s) hpin
  have hne := (closW_ne (bitsI_sorted s)).1 hc
  have hcin : ∀ x ∈ closW g (bitsI s) (pairI (v : Int) (R[j] : Nat)), x ∈ bitsI s := fun x hx => (mem_closW.1 hx).1
  have hbit : ∀ i, (maskL (closW g (bitsI s) (pairI (v : Int) (R[j] : Nat)))).testBit i = true ↔ (i : Int) ∈ closW g (bitsI s) (pairI (v : Int) (R[j] : Nat)) := fun i => by
    rw [testBit_maskL (fun x hx => ((mem_bitsI hs).1 (hcin x hx)).1), decide_eq_true_eq]
  have hclt : maskL (closW g (bitsI s) (pairI (v : Int) (R[j] : Nat))) < 4294967296 := lt_bits (n := 32) fun i hi => by
    have := ((mem_bitsI hs).1 (hcin _ ((hbit i).1 hi))).2
    exact bit_lt_of (n := 32) hs (by simpa using this)
  refine ⟨Nat.or_lt_two_pow (n := 32) h.lt hclt, fun i hi => ?_, by rw [Nat.testBit_or, h.self]; rfl, fun i hi hij hb => ?_⟩
  · rw [Nat.testBit_or, Bool.or_eq_true] at hi
    rcases hi with hi | hi
    · exact h.sub i hi
    · exact (testBit_mdM hs i).2 (modW_all hm (closW_in hpin _ (mem_pairI.2 (.inl rfl))) hne _ ((hbit i).1 hi))
  · rw [Nat.testBit_or, Bool.or_eq_true]
    by_cases e : i = j
    · subst e
      exact .inr ((hbit _).2 (closW_in hpin _ (mem_pairI.2 (.inr rfl))))
    · exact .inl (h.has i hi (by omega) hb)
theorem InMod.done {g : List (List Int)} {s v j M : Nat} {R : List Nat} (h : InMod g s v R j M) (hj : R.length ≤ j) (hR : ∀ i, (mdM g s v).testBit i = true → i ≠ v → i ∈ R) : M = mdM g s v := by
  apply nat_ext
  intro i
  rw [Bool.eq_iff_iff]
  refine ⟨h.sub i, fun hi => ?_⟩
  by_cases e : i = v
  · rw [e]; exact h.self
  · obtain ⟨k, hk, rfl⟩ := List.getElem_of_mem (hR i hi e)
    exact h.has k hk (by omega) hi
/-- The reference's part: of set's vertices so far those in v's greatest module. -/
theorem md_take {g : List (List Int)} {s v k : Nat} {L : List Nat} (hk : k < L.length) : ((L.take (k + 1)).filter fun u => (mdM g s v).testBit u) = ((L.take k).filter fun u => (mdM g s v).testBit u) ++ if (mdM g s v).testBit L[k] = true then [L[k]] else [] := by
  rw [List.take_succ_eq_append_getElem hk, List.filter_append]
  congr 1
  by_cases h : (mdM g s v).testBit L[k] = true
  · rw [if_pos h]; simp [h]
  · rw [if_neg h]; simp [h]
theorem md_all {g : List (List Int)} {s v : Nat} (hs : s < 4294967296) : ((bitsN s).filter fun u => (mdM g s v).testBit u) = bitsN (mdM g s v) := by
  have hm := mdM_lt (g := g) (v := v) hs
  unfold bitsN
  rw [List.filter_filter]
  apply List.filter_congr
  intro u _
  cases h : (mdM g s v).testBit u
  · rfl
  · rw [mdM_sub hs h]; rfl
end Go.Proofs.YthpbeiihlembnaaDoor
