/- The tree of modules: plain facts. -/
import Derived.Test.YthpbeiihlembnaaDoorModTM
import Derived.Test.YthpbeiihlembnaaDoorCoTM
namespace Go.Proofs.YthpbeiihlembnaaDoor
open Go.RowKit
noncomputable def mdM (g : List (List Int)) (s v : Nat) : Nat := maskL (modW g (bitsI s) (v : Int))
theorem testBit_mdM {g : List (List Int)} {s v : Nat} (hs : s < 4294967296) (i : Nat) : (mdM g s v).testBit i = true ↔ (i : Int) ∈ modW g (bitsI s) v := by
  unfold mdM
  rw [testBit_maskL (fun x hx => ((mem_bitsI hs).1 (mem_modW.1 hx).1).1), decide_eq_true_eq]
theorem mdM_sub {g : List (List Int)} {s v i : Nat} (hs : s < 4294967296) (h : (mdM g s v).testBit i = true) : s.testBit i = true := by
  have := ((mem_bitsI hs).1 (mem_modW.1 ((testBit_mdM hs i).1 h)).1).2
  simpa using this
theorem mdM_self {g : List (List Int)} {s v : Nat} (hs : s < 4294967296) (hv : s.testBit v = true) : (mdM g s v).testBit v = true :=
  (testBit_mdM hs v).2 (modW_self ((mem_bitsI hs).2 ⟨by omega, by simpa using hv⟩))
theorem mdM_lt {g : List (List Int)} {s v : Nat} (hs : s < 4294967296) : mdM g s v < 4294967296 := lt_bits (n := 32) fun i hi => bit_lt_of (n := 32) hs (mdM_sub hs hi)
theorem mdM_eq {g : List (List Int)} (hg : GOk g) {s v w : Nat} (hp : PrimeS g s) (hs : s < 4294967296) (hv : s.testBit v = true) (hw : (mdM g s v).testBit w = true) : mdM g s w = mdM g s v := by
  unfold mdM
  rw [modW_eq hg hp ((mem_bitsI hs).2 ⟨by omega, by simpa using hv⟩) ((testBit_mdM hs w).1 hw)]
theorem mdM_pop {g : List (List Int)} (hg : GOk g) {s v : Nat} (hp : PrimeS g s) (hs : s < 4294967296) (hv : s.testBit v = true) : 0 < popN (mdM g s v) ∧ popN (mdM g s v) < popN s := by
  have hl := mdM_lt (g := g) (v := v) hs
  constructor
  · have := popN_lt (a := 0) hl (fun i hi => by rw [Nat.zero_testBit] at hi; cases hi) (mdM_self hs hv) (Nat.zero_testBit _)
    omega
  · obtain ⟨-, x, hx, hxn⟩ := modW_mod hg hp (v := (v : Int)) ((mem_bitsI hs).2 ⟨by omega, by simpa using hv⟩)
    obtain ⟨hx0, hxs⟩ := (mem_bitsI hs).1 hx
    refine popN_lt hs (fun i hi => mdM_sub hs hi) hxs ?_
    cases hb : (mdM g s v).testBit x.toNat
    · rfl
    · have := (testBit_mdM hs x.toNat).1 hb
      rw [Int.toNat_of_nonneg hx0] at this
      exact absurd this hxn
/-- The greatest modules, in the order of their least vertices. -/
noncomputable def grtF (g : List (List Int)) (s : Nat) : Nat → Nat → List Nat
  | 0, _ => []
  | n + 1, r => if r = 0 then [] else mdM g s (Lib.ctz 32 r) :: grtF g s n (andN r (mdM g s (Lib.ctz 32 r)))
noncomputable def grtN (g : List (List Int)) (s : Nat) : List Nat := grtF g s 33 s
/-- What is left holds whole modules. -/
def WholeR (g : List (List Int)) (s r : Nat) : Prop := (∀ i, r.testBit i = true → s.testBit i = true) ∧ ∀ v i, r.testBit v = true → (mdM g s v).testBit i = true → r.testBit i = true
theorem WholeR.next {g : List (List Int)} (hg : GOk g) {s r v : Nat} (hp : PrimeS g s) (hs : s < 4294967296) (hr : r < 4294967296) (h : WholeR g s r) (hv : r.testBit v = true) : WholeR g s (andN r (mdM g s v)) := by
  have hl := mdM_lt (g := g) (v := v) hs
  refine ⟨fun i hi => ?_, fun x i hx hi => ?_⟩
  · rw [testBit_andN hr hl, Bool.and_eq_true] at hi
    exact h.1 i hi.1
  · rw [testBit_andN hr hl, Bool.and_eq_true, Bool.not_eq_true'] at hx ⊢
    refine ⟨h.2 x i hx.1 hi, ?_⟩
    cases hb : (mdM g s v).testBit i
    · rfl
    · exfalso
      have hxs := h.1 x hx.1
      have e1 := mdM_eq hg hp hs (h.1 v hv) hb
      have e2 := mdM_eq hg hp hs hxs hi
      have := mdM_self (g := g) hs hxs
      rw [← e2, e1, hx.2] at this; cases this
theorem grtF_sum {g : List (List Int)} (hg : GOk g) {s : Nat} (hp : PrimeS g s) (hs : s < 4294967296) : ∀ {n r : Nat}, r < 4294967296 → WholeR g s r → popN r < n → sumP (grtF g s n r) = popN r
  | 0, _, _, _, h => by omega
  | n + 1, r, hr, hw, h => by
    rw [grtF]
    by_cases h0 : r = 0
    · rw [if_pos h0, h0]; rfl
    · rw [if_neg h0, sumP]
      have hc := ctz_bit h0 hr
      have hl := mdM_lt (g := g) (v := Lib.ctz 32 r) hs
      have hsp := pop_splitC hr hl (fun i hi => hw.2 _ i hc hi)
      have hpp := (mdM_pop hg hp hs (hw.1 _ hc)).1
      rw [grtF_sum hg hp hs (Nat.lt_of_le_of_lt (andN_le _ _) hr) (hw.next hg hp hs hr hc) (by omega)]
      exact hsp.symm
theorem grtF_in {g : List (List Int)} (hg : GOk g) {s : Nat} (hp : PrimeS g s) (hs : s < 4294967296) : ∀ {n r x : Nat}, r < 4294967296 → WholeR g s r → x ∈ grtF g s n r → ∃ v, s.testBit v = true ∧ x = mdM g s v
  | 0, _, _, _, _, h => by simp [grtF] at h
  | n + 1, r, x, hr, hw, h => by
    rw [grtF] at h
    split at h
    · cases h
    · rename_i h0
      have hc := ctz_bit h0 hr
      rcases List.mem_cons.1 h with rfl | h
      · exact ⟨_, hw.1 _ hc, rfl⟩
      · exact grtF_in hg hp hs (Nat.lt_of_le_of_lt (andN_le _ _) hr) (hw.next hg hp hs hr hc) h
theorem whole_all {g : List (List Int)} {s : Nat} (hs : s < 4294967296) : WholeR g s s := ⟨fun _ h => h, fun v i _ hi => mdM_sub hs hi⟩
theorem grtN_sum {g : List (List Int)} (hg : GOk g) {s : Nat} (hp : PrimeS g s) (hs : s < 4294967296) : sumP (grtN g s) = popN s := grtF_sum hg hp hs hs (whole_all hs) (by have := popN_32 s; omega)
theorem grtN_in {g : List (List Int)} (hg : GOk g) {s x : Nat} (hp : PrimeS g s) (hs : s < 4294967296) (h : x ∈ grtN g s) : 0 < popN x ∧ x < 4294967296 ∧ (∀ i, x.testBit i = true → s.testBit i = true) ∧ popN x < popN s := by
  obtain ⟨v, hv, rfl⟩ := grtF_in hg hp hs hs (whole_all hs) h
  exact ⟨(mdM_pop hg hp hs hv).1, mdM_lt hs, fun i hi => mdM_sub hs hi, (mdM_pop hg hp hs hv).2⟩
theorem grtF_len {g : List (List Int)} {s : Nat} : ∀ (n r : Nat), (grtF g s n r).length ≤ n
  | 0, _ => by simp [grtF]
  | n + 1, r => by
    rw [grtF]; split
    · simp
    · rw [List.length_cons]; have := grtF_len (g := g) (s := s) n (andN r (mdM g s (Lib.ctz 32 r))); omega
theorem grtF_enough {g : List (List Int)} (hg : GOk g) {s : Nat} (hp : PrimeS g s) (hs : s < 4294967296) : ∀ {n k r : Nat}, r < 4294967296 → WholeR g s r → popN r < n → popN r < k → grtF g s n r = grtF g s k r
  | 0, _, _, _, _, h, _ => by omega
  | _ + 1, 0, _, _, _, _, h => by omega
  | n + 1, k + 1, r, hr, hw, h1, h2 => by
    rw [grtF, grtF]
    by_cases h0 : r = 0
    · rw [if_pos h0, if_pos h0]
    · rw [if_neg h0, if_neg h0]
      have hc := ctz_bit h0 hr
      have hl := mdM_lt (g := g) (v := Lib.ctz 32 r) hs
      have hsp := pop_splitC hr hl (fun i hi => hw.2 _ i hc hi)
      have hpp := (mdM_pop hg hp hs (hw.1 _ hc)).1
      rw [grtF_enough hg hp hs (k := k) (Nat.lt_of_le_of_lt (andN_le _ _) hr) (hw.next hg hp hs hr hc) (by omega) (by omega)]
theorem popN_two {s : Nat} (hs : s < 4294967296) (h : 1 < popN s) {v : Nat} : ∃ x, s.testBit x = true ∧ x ≠ v := by
  apply Classical.byContradiction
  intro hc
  have hall : ∀ x ∈ bitsN s, x ∈ [v] := fun x hx => by
    have := (mem_bitsN hs).1 hx
    apply Classical.byContradiction
    intro hn
    exact hc ⟨x, this, by simpa using hn⟩
  have hnd : (bitsN s).Nodup := (bitsN_sorted s).imp fun h => by omega
  have := nodup_lenA hnd hall
  unfold popN at h
  simp at this; omega
theorem primeS_of {g : List (List Int)} (hg : GOk g) {s : Nat} (hs : s < 2 ^ g.length) (h1 : 1 < popN s) (ha : (partsN (netsL g) s).length = 1) (hb : (partsN (complN (netsL g)) s).length = 1) : PrimeS g s := by
  have hs32 : s < 4294967296 := Nat.lt_trans hs (pow16_lt hg.hi)
  refine ⟨hs, ha, hb, fun v hv => ?_⟩
  obtain ⟨x, hx, hxv⟩ := popN_two hs32 h1 (v := v.toNat)
  have := ((mem_bitsI hs32).1 hv).1
  exact ⟨(x : Int), (mem_bitsI hs32).2 ⟨by omega, by simpa using hx⟩, by omega⟩
noncomputable def mdKind (g : List (List Int)) (s : Nat) : Int := if (partsN (netsL g) s).length = 1 then if (partsN (complN (netsL g)) s).length = 1 then 4 else 3 else 2
noncomputable def mdParts (g : List (List Int)) (s : Nat) : List Nat := if (partsN (netsL g) s).length = 1 then if (partsN (complN (netsL g)) s).length = 1 then grtN g s else partsN (complN (netsL g)) s else partsN (netsL g) s
noncomputable def mdT (g : List (List Int)) : Nat → Nat → List PNode → Option (List PNode)
  | 0, _, _ => none
  | n + 1, s, tree =>
    if popN s = 1 then some (tree ++ [⟨1, (Lib.ctz 32 s : Nat), []⟩])
    else match coKids (mdT g n) (mdParts g s) tree [] with
      | none => none
      | some (t, ks) => some (t ++ [⟨mdKind g s, 0, ks⟩])
structure PartsS (s : Nat) (ps : List Nat) : Prop where
  in_ : ∀ x ∈ ps, 0 < popN x ∧ x < 4294967296 ∧ (∀ i, x.testBit i = true → s.testBit i = true) ∧ popN x < popN s
  sum : sumP ps = popN s
  len : ps.length ≤ 33
  two : 2 ≤ ps.length
theorem partsS_of {a : List Nat} {s : Nat} (hs : s < 4294967296) (h1 : 1 < popN s) (h : (partsN a s).length ≠ 1) : PartsS s (partsN a s) := by
  have hsum := sumP_parts (a := a) hs
  refine ⟨fun x hx => ?_, hsum, partsN_len _ _, ?_⟩
  · have h3 := part_in hs hx
    refine ⟨h3.1, h3.2.1, h3.2.2, ?_⟩
    have := sumP_two h (fun p hp => (part_in hs hp).1) hx
    omega
  · have : (partsN a s).length ≠ 0 := fun e => by
      rw [List.eq_nil_of_length_eq_zero e] at hsum
      simp [sumP] at hsum; omega
    omega
theorem mdParts_ok {g : List (List Int)} (hg : GOk g) {s : Nat} (hs : s < 2 ^ g.length) (h1 : 1 < popN s) : PartsS s (mdParts g s) := by
  have hs32 : s < 4294967296 := Nat.lt_trans hs (pow16_lt hg.hi)
  unfold mdParts
  by_cases ha : (partsN (netsL g) s).length = 1
  · rw [if_pos ha]
    by_cases hb : (partsN (complN (netsL g)) s).length = 1
    · rw [if_pos hb]
      have hp := primeS_of hg hs h1 ha hb
      have hsum := grtN_sum hg hp hs32
      refine ⟨fun x hx => grtN_in hg hp hs32 hx, hsum, grtF_len _ _, ?_⟩
      apply Classical.byContradiction
      intro hc
      match hgr : grtN g s, hc with
      | [], _ => rw [hgr] at hsum; simp [sumP] at hsum; omega
      | [x], _ =>
        have := (grtN_in hg hp hs32 (x := x) (by rw [hgr]; simp)).2.2.2
        rw [hgr] at hsum; simp [sumP] at hsum; omega
      | x :: y :: l, hc => simp at hc
    · rw [if_neg hb]; exact partsS_of hs32 h1 hb
  · rw [if_neg ha]; exact partsS_of hs32 h1 ha
theorem mdT_leaf {g : List (List Int)} {n s : Nat} {t : List PNode} (h : popN s = 1) : mdT g (n + 1) s t = some (t ++ [⟨1, (Lib.ctz 32 s : Nat), []⟩]) := by rw [mdT, if_pos h]
theorem mdT_kids {g : List (List Int)} {n s : Nat} {t t2 : List PNode} {ks : List Int} (h : popN s ≠ 1) (h2 : coKids (mdT g n) (mdParts g s) t [] = some (t2, ks)) : mdT g (n + 1) s t = some (t2 ++ [⟨mdKind g s, 0, ks⟩]) := by rw [mdT, if_neg h, h2]
theorem mdT_kids_none {g : List (List Int)} {n s : Nat} {t : List PNode} (h : popN s ≠ 1) (h2 : coKids (mdT g n) (mdParts g s) t [] = none) : mdT g (n + 1) s t = none := by rw [mdT, if_neg h, h2]
theorem mdT_len {g : List (List Int)} (hg : GOk g) : ∀ {n s : Nat} {t r : List PNode}, s < 2 ^ g.length → 0 < popN s → mdT g n s t = some r → r.length + 1 ≤ t.length + 2 * popN s
  | 0, _, _, _, _, _, h => by rw [mdT] at h; cases h
  | n + 1, s, t, r, hs, hp, h => by
    by_cases h1 : popN s = 1
    · rw [mdT_leaf h1, Option.some.injEq] at h
      subst h; simp; omega
    · have hok := mdParts_ok hg hs (by omega)
      cases hk : coKids (mdT g n) (mdParts g s) t [] with
      | none => rw [mdT_kids_none h1 hk] at h; cases h
      | some x =>
        obtain ⟨t2, ks⟩ := x
        rw [mdT_kids h1 hk, Option.some.injEq] at h
        subst h
        have hall : ∀ (k : Nat) (t1 : List PNode) (ks1 : List Int), k ≤ (mdParts g s).length → KidsI (mdT g n) (mdParts g s) t t1 ks1 k → t2.length + (mdParts g s).length ≤ t.length + 2 * popN s := by
          intro k
          obtain ⟨d, hd⟩ : ∃ d, (mdParts g s).length - k = d := ⟨_, rfl⟩
          induction d generalizing k with
          | zero =>
            intro t1 ks1 hkl hI
            have := hI.done (by omega)
            rw [hk] at this
            simp only [Option.some.injEq, Prod.mk.injEq] at this
            have hl := hI.len
            have hks : k = (mdParts g s).length := by omega
            rw [hks, List.take_length, hok.sum] at hl
            rw [this.1]; omega
          | succ d ih =>
            intro t1 ks1 hkl hI
            have hlt : k < (mdParts g s).length := by omega
            have hin := hok.in_ _ (List.getElem_mem hlt)
            cases hf : mdT g n (mdParts g s)[k] t1 with
            | none => have := hI.fail hlt hf; rw [hk] at this; cases this
            | some t1' => exact ih (k + 1) (by omega) t1' _ (by omega) (hI.next hlt hf (mdT_len hg (sub_lt hs hin.2.2.1) hin.1 hf))
        have := hall 0 t [] (Nat.zero_le _) (KidsI.start _ _ _)
        have := hok.two
        simp; omega
end Go.Proofs.YthpbeiihlembnaaDoor
