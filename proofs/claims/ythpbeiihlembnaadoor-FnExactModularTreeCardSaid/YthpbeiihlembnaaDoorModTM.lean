/- The greatest modules of a set with one part, whose complement has one part: plain facts. -/
import Derived.Test.YthpbeiihlembnaaDoorClosW
import Derived.Test.YthpbeiihlembnaaDoorReaE
import Derived.Test.YthpbeiihlembnaaDoorWidthM
import Derived.Test.YthpbeiihlembnaaDoorAroM
namespace Go.Proofs.YthpbeiihlembnaaDoor
open Go.RowKit
theorem mod_uni {g : List (List Int)} {I M : List Int} (h : IsModW g I M) {v : Int} (hv : v ∈ I) (hn : v ∉ M) : (∀ x ∈ M, x ∈ g.getD v.toNat []) ∨ (∀ x ∈ M, x ∉ g.getD v.toNat []) := by
  have h1 := h.2.2 v hv
  simp only [splitAtB, hn, decide_false, Bool.not_false, Bool.true_and, splitsB, Bool.and_eq_false_iff, decide_eq_false_iff_not, cntIn_pos, cntIn_lt] at h1
  rcases h1 with h1 | h1
  · exact .inr fun x hx hb => h1 ⟨x, hx, hb⟩
  · exact .inl fun x hx => Classical.byContradiction fun hb => h1 ⟨x, hx, hb⟩
theorem mod_of {g : List (List Int)} {I M : List Int} (h1 : M.Pairwise (· < ·)) (h2 : ∀ x ∈ M, x ∈ I) (h : ∀ v ∈ I, v ∉ M → (∀ x ∈ M, x ∈ g.getD v.toNat []) ∨ (∀ x ∈ M, x ∉ g.getD v.toNat [])) : IsModW g I M := by
  refine ⟨h1, h2, fun v hv => ?_⟩
  by_cases hn : v ∈ M
  · simp [splitAtB, hn]
  · simp only [splitAtB, hn, decide_false, Bool.not_false, Bool.true_and, splitsB, Bool.and_eq_false_iff, decide_eq_false_iff_not, cntIn_pos, cntIn_lt]
    rcases h v hv hn with h3 | h3
    · exact .inr fun ⟨x, hx, hb⟩ => hb (h3 x hx)
    · exact .inl fun ⟨x, hx, hb⟩ => h3 x hx hb
theorem mod_union {g : List (List Int)} {I M1 M2 : List Int} (hI : I.Pairwise (· < ·)) (h1 : IsModW g I M1) (h2 : IsModW g I M2) {c : Int} (hc1 : c ∈ M1) (hc2 : c ∈ M2) : IsModW g I (I.filter fun x => decide (x ∈ M1) || decide (x ∈ M2)) := by
  have hm : ∀ x, x ∈ (I.filter fun x => decide (x ∈ M1) || decide (x ∈ M2)) ↔ x ∈ M1 ∨ x ∈ M2 := fun x => by
    simp only [List.mem_filter, Bool.or_eq_true, decide_eq_true_eq]
    exact ⟨fun h => h.2, fun h => ⟨h.elim (h1.2.1 x) (h2.2.1 x), h⟩⟩
  refine mod_of (hI.filter _) (fun x hx => (List.mem_filter.1 hx).1) fun v hv hn => ?_
  rw [hm] at hn
  have hn1 : v ∉ M1 := fun h => hn (.inl h)
  have hn2 : v ∉ M2 := fun h => hn (.inr h)
  rcases mod_uni h1 hv hn1 with a | a <;> rcases mod_uni h2 hv hn2 with b | b
  · exact .inl fun x hx => ((hm x).1 hx).elim (a x) (b x)
  · exact absurd (a c hc1) (b c hc2)
  · exact absurd (b c hc2) (a c hc1)
  · exact .inr fun x hx => ((hm x).1 hx).elim (a x) (b x)
/-- From a part of a set with one part something leads out. -/
theorem leads_out {g : List (List Int)} (hg : GOk g) {s : Nat} (hs : s < 2 ^ g.length) (t : Bool) (h1 : (partsN (adjN (netsL g) t) s).length = 1) {C : List Int} (hC : ∀ x ∈ C, x ∈ bitsI s) {v w : Int} (hv : v ∈ C) (hw : w ∈ bitsI s) (hwC : w ∉ C) :
    ∃ x ∈ C, ∃ y ∈ bitsI s, y ∉ C ∧ (decide (y ∈ g.getD x.toNat []) != t) = true := by
  have hs32 : s < 4294967296 := Nat.lt_trans hs (pow16_lt hg.hi)
  have hCn : ∀ x ∈ C, 0 ≤ x ∧ s.testBit x.toNat = true := fun x hx => (mem_bitsI hs32).1 (hC x hx)
  have hCb : ∀ i, (maskL C).testBit i = true ↔ (i : Int) ∈ C := fun i => by rw [testBit_maskL (fun x hx => (hCn x hx).1), decide_eq_true_eq]
  apply Classical.byContradiction
  intro hno
  have hcl : ClosedN (adjN (netsL g) t) s (maskL C) := fun x hx u hu hb => by
    rw [hCb] at hx ⊢
    apply Classical.byContradiction
    intro hun
    have hxs := hCn _ hx
    have hxl : x < g.length := bit_lt_of hs (by simpa using hxs.2)
    have hul : u < g.length := bit_lt_of hs hu
    rw [adj_bit hg hxl hul, Bool.and_eq_true] at hb
    exact hno ⟨x, hx, u, (mem_bitsI hs32).2 ⟨by omega, by simpa using hu⟩, hun, by simpa using hb.2⟩
  have hsym := adj_sym hg hs t
  obtain ⟨hv0, hvs⟩ := hCn v hv
  obtain ⟨hw0, hws⟩ := (mem_bitsI hs32).1 hw
  have h0 : s ≠ 0 := fun e => by rw [e, Nat.zero_testBit] at hvs; cases hvs
  have hre := (parts_one hs32 h0).1 h1
  have hc := ctz_bit h0 hs32
  have hvr : (reachN (adjN (netsL g) t) s (Lib.ctz 32 s)).testBit v.toNat = true := by rw [hre]; exact hvs
  have heq := reach_eq hs32 hsym hc hvr
  have := reach_least (M := maskL C) hs32 (bit_lt_of (n := 32) hs32 hvs) hcl ((hCb _).2 (by rw [Int.toNat_of_nonneg hv0]; exact hv)) (i := w.toNat) (by rw [heq, hre]; exact hws)
  rw [hCb, Int.toNat_of_nonneg hw0] at this
  exact hwC this
theorem row_symm {g : List (List Int)} (hg : GOk g) {x y : Int} (hx : 0 ≤ x ∧ x < g.length) (hy : 0 ≤ y ∧ y < g.length) (h : y ∈ g.getD x.toNat []) : x ∈ g.getD y.toNat [] := by
  have hxl : x.toNat < g.length := by omega
  have hyl : y.toNat < g.length := by omega
  have e1 : g.getD x.toNat [] = g[x.toNat] := by simp [hxl]
  have e2 : g.getD y.toNat [] = g[y.toNat] := by simp [hyl]
  rw [e1] at h
  have := hg.symm x.toNat hxl y h
  rw [Int.toNat_of_nonneg hx.1] at this
  rw [e2]
  simpa [hyl] using this
/-- Two modules that meet, neither of them all, are not all together. -/
theorem mod_proper {g : List (List Int)} (hg : GOk g) {s : Nat} (hs : s < 2 ^ g.length) (ha : (partsN (adjN (netsL g) false) s).length = 1) (hb : (partsN (adjN (netsL g) true) s).length = 1) {M1 M2 : List Int} (h1 : IsModW g (bitsI s) M1) (h2 : IsModW g (bitsI s) M2)
    (hn1 : ∃ x ∈ bitsI s, x ∉ M1) (hn2 : ∃ x ∈ bitsI s, x ∉ M2) : ∃ x ∈ bitsI s, x ∉ M1 ∧ x ∉ M2 := by
  have hs32 : s < 4294967296 := Nat.lt_trans hs (pow16_lt hg.hi)
  have hr : ∀ x ∈ bitsI s, 0 ≤ x ∧ x < g.length := fun x hx => by have := bitsI_lt hs (by have := hg.hi; omega) x hx; omega
  apply Classical.byContradiction
  intro hno
  have hcov : ∀ x ∈ bitsI s, x ∉ M1 → x ∈ M2 := fun x hx h => Classical.byContradiction fun h3 => hno ⟨x, hx, h, h3⟩
  obtain ⟨b0, hb0, hb0n⟩ := hn1
  obtain ⟨a0, ha0, ha0n⟩ := hn2
  have ha0m : a0 ∈ M1 := Classical.byContradiction fun h => ha0n (hcov a0 ha0 h)
  have hb0m := hcov b0 hb0 hb0n
  -- A is M1 without M2
  have hA : ∀ x, x ∈ (bitsI s).filter (fun x => !decide (x ∈ M2)) ↔ x ∈ bitsI s ∧ x ∉ M2 := fun x => by simp
  have hout := fun (t : Bool) (h : (partsN (adjN (netsL g) t) s).length = 1) => leads_out hg hs t h (C := (bitsI s).filter fun x => !decide (x ∈ M2)) (fun x hx => (List.mem_filter.1 hx).1) (v := a0) ((hA a0).2 ⟨ha0, ha0n⟩) hb0 (fun h => ((hA b0).1 h).2 hb0m)
  obtain ⟨x, hx, y, hy, hyn, hxy⟩ := hout false ha
  rw [hA] at hx
  have hyM : y ∈ M2 := Classical.byContradiction fun h => hyn ((hA y).2 ⟨hy, h⟩)
  have hadj : y ∈ g.getD x.toNat [] := by simpa using hxy
  -- so x is joined to all of M2
  have hxall : ∀ z ∈ M2, z ∈ g.getD x.toNat [] := (mod_uni h2 hx.1 hx.2).resolve_right fun h => h y hyM hadj
  have hxM1 : x ∈ M1 := Classical.byContradiction fun h => hx.2 (hcov x hx.1 h)
  -- every element of M2 without M1 is joined to all of M1
  have hball : ∀ z ∈ bitsI s, z ∉ M1 → ∀ u ∈ M1, u ∈ g.getD z.toNat [] := fun z hz hzn => (mod_uni h1 hz hzn).resolve_right fun h => h x hxM1 (row_symm hg (hr x hx.1) (hr z hz) (hxall z (hcov z hz hzn)))
  -- so every element of A is joined to all of M2
  have haall : ∀ u ∈ bitsI s, u ∉ M2 → ∀ z ∈ M2, z ∈ g.getD u.toNat [] := fun u hu hun => (mod_uni h2 hu hun).resolve_right fun h => by
    have huM1 : u ∈ M1 := Classical.byContradiction fun h3 => hun (hcov u hu h3)
    exact h b0 hb0m (row_symm hg (hr b0 hb0) (hr u hu) (hball b0 hb0 hb0n u huM1))
  obtain ⟨x, hx, y, hy, hyn, hxy⟩ := hout true hb
  rw [hA] at hx
  have hyM : y ∈ M2 := Classical.byContradiction fun h => hyn ((hA y).2 ⟨hy, h⟩)
  have := haall x hx.1 hx.2 y hyM
  rw [decide_eq_true this] at hxy
  cases hxy
/-- A pair, rising. -/
def pairI (v u : Int) : List Int := if u = v then [v] else if u < v then [u, v] else [v, u]
theorem mem_pairI {v u x : Int} : x ∈ pairI v u ↔ x = v ∨ x = u := by
  unfold pairI
  split
  · rename_i e; subst e; simp
  · split
    · simp; constructor <;> rintro (h | h) <;> simp [h]
    · simp
theorem pairI_sorted (v u : Int) : (pairI v u).Pairwise (· < ·) := by
  unfold pairI
  split
  · simp
  · split
    · simpa
    · simp; omega
theorem closW_mod {g : List (List Int)} {I s : List Int} (hI : I.Pairwise (· < ·)) (hs : ∀ x ∈ s, x ∈ I) : IsModW g I (closW g I s) := by
  refine mod_of (closW_sorted hI s) (fun x hx => (mem_closW.1 hx).1) fun v hv hn => ?_
  rw [mem_closW] at hn
  have : ∃ M, IsModW g I M ∧ (∀ y ∈ s, y ∈ M) ∧ v ∉ M := by
    apply Classical.byContradiction
    intro hc
    exact hn ⟨hv, fun M hM hsM => Classical.byContradiction fun h => hc ⟨M, hM, hsM, h⟩⟩
  obtain ⟨M, hM, hsM, hvM⟩ := this
  rcases mod_uni hM hv hvM with h | h
  · exact .inl fun x hx => h x ((mem_closW.1 hx).2 M hM hsM)
  · exact .inr fun x hx => h x ((mem_closW.1 hx).2 M hM hsM)
theorem closW_sub {g : List (List Int)} {I s M : List Int} (hM : IsModW g I M) (hs : ∀ x ∈ s, x ∈ M) : ∀ x ∈ closW g I s, x ∈ M := fun x hx => (mem_closW.1 hx).2 M hM hs
theorem closW_in {g : List (List Int)} {I s : List Int} (hs : ∀ x ∈ s, x ∈ I) : ∀ x ∈ s, x ∈ closW g I s := fun x hx => mem_closW.2 ⟨hs x hx, fun _ _ h => h x hx⟩
/-- It is not all. -/
theorem closW_ne {g : List (List Int)} {I s : List Int} (hI : I.Pairwise (· < ·)) : closW g I s ≠ I ↔ ∃ x ∈ I, x ∉ closW g I s := by
  constructor
  · intro h
    apply Classical.byContradiction
    intro hc
    exact h (sorted_ext (closW_sorted hI s) hI fun x => ⟨fun hx => (mem_closW.1 hx).1, fun hx => Classical.byContradiction fun hn => hc ⟨x, hx, hn⟩⟩)
  · rintro ⟨x, hx, hn⟩ e
    rw [e] at hn; exact hn hx
open Classical in
/-- The greatest module of a vertex that is not all. -/
noncomputable def modW (g : List (List Int)) (I : List Int) (v : Int) : List Int := I.filter fun u => decide (u = v ∨ closW g I (pairI v u) ≠ I)
theorem mem_modW {g : List (List Int)} {I : List Int} {v u : Int} : u ∈ modW g I v ↔ u ∈ I ∧ (u = v ∨ closW g I (pairI v u) ≠ I) := by simp [modW]
theorem modW_sorted {g : List (List Int)} {I : List Int} (hI : I.Pairwise (· < ·)) (v : Int) : (modW g I v).Pairwise (· < ·) := hI.filter _
theorem pair_in {I : List Int} {v u : Int} (hv : v ∈ I) (hu : u ∈ I) : ∀ x ∈ pairI v u, x ∈ I := fun x hx => by
  rcases mem_pairI.1 hx with rfl | rfl
  · exact hv
  · exact hu
/-- What lies in a module of v that is not all lies in it. -/
theorem modW_all {g : List (List Int)} {I M : List Int} {v : Int} (hM : IsModW g I M) (hv : v ∈ M) (hn : ∃ x ∈ I, x ∉ M) : ∀ u ∈ M, u ∈ modW g I v := fun u hu => by
  refine mem_modW.2 ⟨hM.2.1 u hu, .inr fun e => ?_⟩
  obtain ⟨x, hx, hxn⟩ := hn
  exact hxn (closW_sub hM (s := pairI v u) (fun y hy => by
    rcases mem_pairI.1 hy with rfl | rfl
    · exact hv
    · exact hu) x (by rw [e]; exact hx))
structure PrimeS (g : List (List Int)) (s : Nat) : Prop where
  lt : s < 2 ^ g.length
  a : (partsN (adjN (netsL g) false) s).length = 1
  b : (partsN (adjN (netsL g) true) s).length = 1
  two : ∀ v ∈ bitsI s, ∃ x ∈ bitsI s, x ≠ v
/-- The union so far: of v and of the modules of v and each of l. -/
theorem modW_mod {g : List (List Int)} (hg : GOk g) {s : Nat} (hp : PrimeS g s) {v : Int} (hv : v ∈ bitsI s) : IsModW g (bitsI s) (modW g (bitsI s) v) ∧ ∃ x ∈ bitsI s, x ∉ modW g (bitsI s) v := by
  have hI := bitsI_sorted s
  have key : ∀ l : List Int, (∀ u ∈ l, u ∈ bitsI s) → ∃ M, IsModW g (bitsI s) M ∧ v ∈ M ∧ (∃ x ∈ bitsI s, x ∉ M) ∧ ∀ u ∈ l, (u = v ∨ closW g (bitsI s) (pairI v u) ≠ bitsI s) → u ∈ M := by
    intro l
    induction l with
    | nil =>
      intro _
      refine ⟨[v], mod_of (by simp) (fun x hx => by simp at hx; rw [hx]; exact hv) (fun w _ _ => ?_), by simp, ?_, fun u hu => by cases hu⟩
      · by_cases h : v ∈ g.getD w.toNat []
        · exact .inl fun x hx => by simp at hx; rw [hx]; exact h
        · exact .inr fun x hx => by simp at hx; rw [hx]; exact h
      · obtain ⟨x, hx, hxv⟩ := hp.two v hv
        exact ⟨x, hx, by simpa using hxv⟩
    | cons u l ih =>
      intro hl
      obtain ⟨M, h1, h2, h3, h4⟩ := ih fun w hw => hl w (by simp [hw])
      have hu := hl u (by simp)
      by_cases hc : u = v ∨ closW g (bitsI s) (pairI v u) ≠ bitsI s
      · by_cases e : u = v
        · refine ⟨M, h1, h2, h3, fun w hw hwc => ?_⟩
          rcases List.mem_cons.1 hw with rfl | hw
          · rw [e]; exact h2
          · exact h4 w hw hwc
        · have hc2 := hc.resolve_left e
          have hpin := pair_in (I := bitsI s) hv hu
          have hcm := closW_mod (g := g) hI hpin
          have hcin := closW_in (g := g) hpin
          have hvc := hcin v (mem_pairI.2 (.inl rfl))
          have huc := hcin u (mem_pairI.2 (.inr rfl))
          have hm : ∀ x, x ∈ ((bitsI s).filter fun x => decide (x ∈ M) || decide (x ∈ closW g (bitsI s) (pairI v u))) ↔ x ∈ M ∨ x ∈ closW g (bitsI s) (pairI v u) := fun x => by
            simp only [List.mem_filter, Bool.or_eq_true, decide_eq_true_eq]
            exact ⟨fun h => h.2, fun h => ⟨h.elim (h1.2.1 x) (hcm.2.1 x), h⟩⟩
          obtain ⟨x, hx, hx1, hx2⟩ := mod_proper hg hp.lt hp.a hp.b h1 hcm h3 ((closW_ne hI).1 hc2)
          refine ⟨_, mod_union hI h1 hcm h2 hvc, (hm v).2 (.inl h2), ⟨x, hx, fun h => ?_⟩, fun w hw hwc => ?_⟩
          · rcases (hm x).1 h with h | h
            · exact hx1 h
            · exact hx2 h
          · rcases List.mem_cons.1 hw with rfl | hw
            · exact (hm _).2 (.inr huc)
            · exact (hm w).2 (.inl (h4 w hw hwc))
      · refine ⟨M, h1, h2, h3, fun w hw hwc => ?_⟩
        rcases List.mem_cons.1 hw with rfl | hw
        · exact absurd hwc hc
        · exact h4 w hw hwc
  obtain ⟨M, h1, h2, h3, h4⟩ := key (bitsI s) fun _ h => h
  have e : modW g (bitsI s) v = M := sorted_ext (modW_sorted hI v) h1.1 fun u => by
    rw [mem_modW]
    exact ⟨fun h => h4 u h.1 h.2, fun h => mem_modW.1 (modW_all h1 h2 h3 u h)⟩
  rw [e]
  exact ⟨h1, h3⟩
theorem modW_self {g : List (List Int)} {I : List Int} {v : Int} (hv : v ∈ I) : v ∈ modW g I v := mem_modW.2 ⟨hv, .inl rfl⟩
theorem modW_eq {g : List (List Int)} (hg : GOk g) {s : Nat} (hp : PrimeS g s) {v w : Int} (hv : v ∈ bitsI s) (hw : w ∈ modW g (bitsI s) v) : modW g (bitsI s) w = modW g (bitsI s) v := by
  obtain ⟨h1, h2⟩ := modW_mod hg hp hv
  have hwI := (mem_modW.1 hw).1
  obtain ⟨k1, k2⟩ := modW_mod hg hp hwI
  have hsub := modW_all h1 hw h2
  have hvw := hsub v (modW_self hv)
  exact sorted_ext (modW_sorted (bitsI_sorted s) w) (modW_sorted (bitsI_sorted s) v) fun u => ⟨modW_all k1 hvw k2 u, hsub u⟩
end Go.Proofs.YthpbeiihlembnaaDoor
