/- Blocks of a graph: the block of an edge as the reference finds it; the sorted list. Plain facts. -/
import Derived.Test.YtmcaccacdbcnmaaDoorBlkM
import Derived.Test.YtmcaccacdbcnmaaDoorPairs
import Derived.Test.YtmcaccacdbcnmaaDoorPutM
namespace Go.Proofs.YtmcaccacdbcnmaaDoor
open Go.RowKit
/-- Each pair and the same turned. -/
def dblP (es : List NP) : List NP := es.flatMap fun s => [s, ((s.2, s.1) : NP)]
theorem dblP_snoc (es : List NP) (s : NP) : dblP (es ++ [s]) = dblP es ++ [s, ((s.2, s.1) : NP)] := by simp [dblP]
theorem dblP_len (es : List NP) : (dblP es).length = 2 * es.length := by
  induction es with
  | nil => rfl
  | cons s t ih => rw [show dblP (s :: t) = [s, ((s.2, s.1) : NP)] ++ dblP t from rfl, List.length_append, ih, List.length_cons]; simp; omega
theorem mem_dblP {es : List NP} {p : NP} : p ∈ dblP es ↔ ∃ s ∈ es, p = s ∨ p = ((s.2, s.1) : NP) := by
  unfold dblP
  rw [List.mem_flatMap]
  simp only [List.mem_cons, List.not_mem_nil, or_false]
theorem mem_dblP_sw {es : List NP} {x y : Nat} : ((x, y) : NP) ∈ dblP es ↔ ((y, x) : NP) ∈ dblP es := by
  simp only [mem_dblP, Prod.mk.injEq]
  constructor
  · rintro ⟨s, hs, h | h⟩
    · exact ⟨s, hs, .inr ⟨by rw [← h], by rw [← h]⟩⟩
    · exact ⟨s, hs, .inl (by rw [Prod.ext_iff]; exact ⟨h.2, h.1⟩)⟩
  · rintro ⟨s, hs, h | h⟩
    · exact ⟨s, hs, .inr ⟨by rw [← h], by rw [← h]⟩⟩
    · exact ⟨s, hs, .inl (by rw [Prod.ext_iff]; exact ⟨h.2, h.1⟩)⟩
/-- The edges found so far. -/
structure BEI (a : List Nat) (B : Nat) (es : List NP) : Prop where
  inB : ∀ p ∈ es, B.testBit p.1 = true ∧ B.testBit p.2 = true ∧ (a.getD p.1 0).testBit p.2 = true
  nd : (dblP es).Nodup
def IrrA (a : List Nat) : Prop := ∀ x, (a.getD x 0).testBit x = false
theorem pairs_len {l : List NP} (hn : l.Nodup) (h : ∀ p ∈ l, p.1 < 16 ∧ p.2 < 16) : l.length ≤ 256 := by
  have h2 : (l.map fun p => p.1 * 16 + p.2).Nodup := by
    unfold List.Nodup
    rw [List.pairwise_map]
    refine List.Pairwise.imp_of_mem (fun {p q} hp hq hne he => hne ?_) hn
    have := h p hp; have := h q hq
    rw [Prod.ext_iff]
    omega
  have h3 := List.Nodup.length_le_of_subset (l₁ := l.map fun p => p.1 * 16 + p.2) (l₂ := List.range 256) h2 (fun x hx => by
    obtain ⟨p, hp, rfl⟩ := List.mem_map.1 hx
    have := h p hp
    rw [List.mem_range]; omega)
  simpa using h3
theorem BEI.inD {a : List Nat} {B : Nat} {es : List NP} (h : BEI a B es) : ∀ p ∈ dblP es, B.testBit p.1 = true ∧ B.testBit p.2 = true := fun p hp => by
  obtain ⟨s, hs, rfl | rfl⟩ := mem_dblP.1 hp
  · exact ⟨(h.inB _ hs).1, (h.inB _ hs).2.1⟩
  · exact ⟨(h.inB _ hs).2.1, (h.inB _ hs).1⟩
theorem BEI.len {a : List Nat} {B : Nat} {es : List NP} (h : BEI a B es) (hB : B < 65536) : es.length ≤ 128 := by
  have h1 := pairs_len h.nd (fun p hp => by
    have := h.inD p hp
    exact ⟨bit_lt_of (n := 16) hB this.1, bit_lt_of (n := 16) hB this.2⟩)
  rw [dblP_len] at h1
  omega
theorem BEI.one {a : List Nat} {B u v : Nat} (hir : IrrA a) (hu : B.testBit u = true) (hv : B.testBit v = true) (he : (a.getD u 0).testBit v = true) : BEI a B [((u, v) : NP)] := by
  refine ⟨fun p hp => by rw [List.mem_singleton] at hp; subst hp; exact ⟨hu, hv, he⟩, ?_⟩
  have hne : u ≠ v := fun e => by subst e; rw [hir u] at he; cases he
  simp only [dblP, List.flatMap_cons, List.flatMap_nil, List.append_nil, List.nodup_cons, List.mem_singleton, Prod.mk.injEq, List.not_mem_nil, not_false_eq_true, List.nodup_nil, and_true]
  exact fun h => hne h.1
theorem BEI.snoc {a : List Nat} {B x w : Nat} {es : List NP} (h : BEI a B es) (hir : IrrA a) (hx : B.testBit x = true) (hw : B.testBit w = true) (he : (a.getD x 0).testBit w = true) (hno : ((x, w) : NP) ∉ dblP es) : BEI a B (es ++ [((x, w) : NP)]) := by
  have hne : x ≠ w := fun e => by subst e; rw [hir x] at he; cases he
  refine ⟨fun p hp => ?_, ?_⟩
  · rw [List.mem_append, List.mem_singleton] at hp
    rcases hp with hp | rfl
    · exact h.inB p hp
    · exact ⟨hx, hw, he⟩
  · rw [dblP_snoc, List.nodup_append]
    refine ⟨h.nd, ?_, fun p hp q hq e => ?_⟩
    · simp only [List.nodup_cons, List.mem_singleton, Prod.mk.injEq, List.not_mem_nil, not_false_eq_true, List.nodup_nil, and_true]
      exact fun h => hne h.1
    · subst e
      simp only [List.mem_cons, List.not_mem_nil, or_false] at hq
      rcases hq with rfl | rfl
      · exact hno hp
      · exact hno (mem_dblP_sw.1 hp)
/-- All that one side of an edge asks for is there. -/
def ClE (a : List Nat) (U : Nat) (es : List NP) (x o : Nat) : Prop := ∀ w, (a.getD x 0).testBit w = true → (reachN a (wo U x) o).testBit w = true → ((x, w) : NP) ∈ dblP es
theorem ClE.snoc {a : List Nat} {U x o : Nat} {es : List NP} (h : ClE a U es x o) (s : NP) : ClE a U (es ++ [s]) x o := fun w h1 h2 => by
  rw [dblP_snoc]; exact List.mem_append_left _ (h w h1 h2)
/-- What one side of an edge asks for lies in the block. -/
theorem blk_in {a : List Nat} {U B x o w : Nat} (hU : U < 4294967296) (hsy : SymA a) (hB : BlkP a U B) (hx : B.testBit x = true) (ho : B.testBit o = true) (hne : o ≠ x) (he : (a.getD x 0).testBit w = true) (hr : (reachN a (wo U x) o).testBit w = true) : B.testBit w = true := by
  cases hw : B.testBit w with
  | true => rfl
  | false =>
    have hx32 := bit_lt_of (n := 32) hU (hB.sub x hx)
    have hUx := wo_lt (v := x) hU
    have hoU : (wo U x).testBit o = true := (wo_bit hU hx32).2 ⟨hB.sub o ho, hne⟩
    have hwU := (wo_bit hU hx32).1 (reach_sub hUx hoU hr)
    have h1 := hB.out x w hx hwU.1 hw he o ho
    rw [reach_eq hUx (hsy.on _) hoU hr, reach_start hUx (bit_lt_of (n := 32) hUx hoU)] at h1
    cases h1
theorem blk_done {a : List Nat} {U B u v M : Nat} {es : List NP} (hU : U < 4294967296) (hsy : SymA a) (hir : IrrA a) (hB : BlkP a U B) (h : BEI a B es) (huv : ((u, v) : NP) ∈ es) (hc : ∀ p ∈ es, ClE a U es p.1 p.2 ∧ ClE a U es p.2 p.1) (hM : ∀ i, M.testBit i = true → B.testBit i = true) (hE : ∀ p ∈ es, M.testBit p.1 = true ∧ M.testBit p.2 = true) : M = B := by
  have hB32 : B < 4294967296 := by
    apply Classical.byContradiction
    intro h
    obtain ⟨i, h1, h2⟩ : ∃ i, 32 ≤ i ∧ B.testBit i = true := Nat.exists_ge_and_testBit_of_ge_two_pow (n := 32) (by omega)
    have := bit_lt_of (n := 32) hU (hB.sub i h2)
    omega
  apply nat_ext
  intro i
  rw [Bool.eq_iff_iff]
  refine ⟨hM i, fun hi => ?_⟩
  have hu := (h.inB _ huv).1
  have hu32 := bit_lt_of (n := 32) hB32 hu
  refine (reach_ind hB32 hu32 (P := fun y => M.testBit y = true ∧ ∃ p ∈ dblP es, p.1 = y) ⟨(hE _ huv).1, _, mem_dblP.2 ⟨_, huv, .inl rfl⟩, rfl⟩ (fun x w hx hP hw he => ?_) (hB.conn u i hu hi)).1
  obtain ⟨hxM, p, hp, rfl⟩ := hP
  have hxB := (h.inD p hp).1
  have hx32 := bit_lt_of (n := 32) hB32 hxB
  have hoB := (h.inD p hp).2
  have hpe : (a.getD p.1 0).testBit p.2 = true := by
    obtain ⟨s, hs, rfl | rfl⟩ := mem_dblP.1 hp
    · exact (h.inB _ hs).2.2
    · exact hsy _ _ (h.inB _ hs).2.2
  have hne : p.2 ≠ p.1 := fun e => by rw [e, hir] at hpe; cases hpe
  have hne2 : w ≠ p.1 := fun e => by rw [e, hir] at he; cases he
  have hcl : ClE a U es p.1 p.2 := by
    obtain ⟨s, hs, rfl | rfl⟩ := mem_dblP.1 hp
    · exact (hc _ hs).1
    · exact (hc _ hs).2
  have hr := hB.nocut p.1 p.2 w hxB ((wo_bit hB32 hx32).2 ⟨hoB, hne⟩) ((wo_bit hB32 hx32).2 ⟨hw, hne2⟩)
  have hr2 := reach_mono (wo_lt hB32) (wo_lt hU) (bit_lt_of (n := 32) hB32 hoB) (fun i hi => by
    have := (wo_bit hB32 hx32).1 hi
    exact (wo_bit hU hx32).2 ⟨hB.sub i this.1, this.2⟩) hr
  have hm := hcl w he hr2
  have hmM : M.testBit w = true := by
    obtain ⟨s, hs, e | e⟩ := mem_dblP.1 hm
    · have := (hE _ hs).2; rw [← e] at this; exact this
    · have := (hE _ hs).1; rw [Prod.ext_iff] at e; simp only at e; rw [e.2]; exact this
  exact ⟨hmM, _, mem_dblP_sw.1 hm, rfl⟩
/-- All blocks. -/
noncomputable def allB (a : List Nat) (U : Nat) : List Nat := (partsN a U).flatMap fun p => blkF a 33 p
theorem parts_qb {a : List Nat} {U r : Nat} (hU : U < 4294967296) (hsy : SymA a) (hr : U.testBit r = true) : reachN a U r ≠ 0 ∧ (∀ i, (reachN a U r).testBit i = true → U.testBit i = true) ∧ ConnS a (reachN a U r) ∧ QB a U (reachN a U r) := by
  have hr32 := bit_lt_of (n := 32) hU hr
  have hR := reachN_lt a U r
  have hin : ∀ x, (reachN a U r).testBit x = true → (reachN a (reachN a U r) r).testBit x = true := fun x hx =>
    reach_ind hU hr32 (P := fun x => (reachN a (reachN a U r) r).testBit x = true) (reach_start hR hr32) (fun x u hxr hx hu he => reach_closed hR hr32 x hx u (reach_closed hU hr32 x hxr u hu he) he) hx
  refine ⟨(fun e => by have := reach_start (a := a) hU hr32; rw [e, Nat.zero_testBit] at this; cases this), fun i hi => reach_sub hU hr hi, fun x y hx hy => ?_, fun t w ht hw hno he => ?_⟩
  · rw [reach_eq hR (hsy.on _) (reach_start hU hr32) (hin x hx)]
    exact hin y hy
  · have := reach_closed hU hr32 t ht w hw he
    rw [this] at hno; cases hno
theorem all_facts {a : List Nat} {U : Nat} (hU : U < 4294967296) (hsy : SymA a) : (∀ B ∈ allB a U, BlkP a U B ∧ (¬ Two B → ∃ r, U.testBit r = true ∧ B = reachN a U r)) ∧ (∀ x y, U.testBit x = true → U.testBit y = true → (a.getD x 0).testBit y = true → ∃ B ∈ allB a U, B.testBit x = true ∧ B.testBit y = true) ∧ (allB a U).Nodup ∧ (∀ r, U.testBit r = true → ¬ Two (reachN a U r) → reachN a U r ∈ allB a U) := by
  obtain ⟨f1, f2, f3⟩ := parts_facts hU (hsy.on U)
  have hb := fun r (hr : U.testBit r = true) => by
    obtain ⟨q1, q2, q3, q4⟩ := parts_qb hU hsy hr
    exact blk_all hU hsy 33 (reachN a U r) (by have := popN_32 (reachN a U r); omega) q1 q2 q3 q4
  refine ⟨fun B hB => ?_, fun x y hx hy he => ?_, ?_, fun r hr h2 => ?_⟩
  · obtain ⟨p, hp, hB⟩ := List.mem_flatMap.1 hB
    obtain ⟨r, hr, rfl⟩ := f1 p hp
    obtain ⟨g1, -, -, g4⟩ := hb r hr
    obtain ⟨k1, k2, k3⟩ := g1 B hB
    refine ⟨k1, fun h2 => ⟨r, hr, ?_⟩⟩
    have h3 : ¬ Two (reachN a U r) := fun h => h2 (k3 h)
    rw [g4 h3, List.mem_singleton] at hB
    exact hB
  · have hx32 := bit_lt_of (n := 32) hU hx
    obtain ⟨-, g2, -, -⟩ := hb x hx
    obtain ⟨B, hB, h⟩ := g2 x y (reach_start hU hx32) (reach_closed hU hx32 x (reach_start hU hx32) y hy he) he
    exact ⟨B, List.mem_flatMap.2 ⟨_, f2 x hx, hB⟩, h⟩
  · unfold allB List.Nodup
    rw [List.pairwise_flatMap]
    refine ⟨fun p hp => ?_, List.Pairwise.imp_of_mem (fun {p q} hp hq hne => ?_) f3⟩
    · obtain ⟨r, hr, rfl⟩ := f1 p hp
      exact (hb r hr).2.2.1
    · obtain ⟨r, hr, rfl⟩ := f1 p hp
      obtain ⟨r', hr', rfl⟩ := f1 q hq
      intro B hB B' hB' hBB
      subst hBB
      obtain ⟨g1, g2, _⟩ := (hb r hr).1 B hB
      obtain ⟨_, k2, _⟩ := (hb r' hr').1 B hB'
      obtain ⟨z, hz⟩ := Nat.exists_testBit_of_ne_zero g1.ne
      exact hne ((reach_eq hU (hsy.on _) hr (g2 z hz)).symm.trans (reach_eq hU (hsy.on _) hr' (k2 z hz)))
  · refine List.mem_flatMap.2 ⟨_, f2 r hr, ?_⟩
    rw [(hb r hr).2.2.2 h2]
    simp
/-- A block of two vertices or more has an edge. -/
theorem blk_edge {a : List Nat} {U B : Nat} (hU : U < 4294967296) (hB : BlkP a U B) (h2 : Two B) : ∃ x y, B.testBit x = true ∧ B.testBit y = true ∧ (a.getD x 0).testBit y = true := by
  obtain ⟨x, y, hx, hy, hne⟩ := h2
  have hB32 : B < 4294967296 := by
    apply Classical.byContradiction
    intro h
    obtain ⟨i, h1, h2⟩ : ∃ i, 32 ≤ i ∧ B.testBit i = true := Nat.exists_ge_and_testBit_of_ge_two_pow (n := 32) (by omega)
    have := bit_lt_of (n := 32) hU (hB.sub i h2)
    omega
  apply Classical.byContradiction
  intro hno
  refine hne ((reach_ind hB32 (bit_lt_of (n := 32) hB32 hx) (P := fun z => z = x) rfl (fun z u _ hz hu he => ?_) (hB.conn x y hx hy)).symm)
  subst hz
  exact absurd ⟨z, u, hx, hu, he⟩ hno
theorem one_iso {a : List Nat} {U r : Nat} (hU : U < 4294967296) (hr : U.testBit r = true) : (¬ Two (reachN a U r) ↔ ∀ y, U.testBit y = true → (a.getD r 0).testBit y = true → y = r) ∧ (¬ Two (reachN a U r) → reachN a U r = bit r) := by
  have hr32 := bit_lt_of (n := 32) hU hr
  have hs := reach_start (a := a) hU hr32
  refine ⟨⟨fun h y hy he => ?_, fun h h2 => ?_⟩, fun h => ?_⟩
  · apply Classical.byContradiction
    intro hne
    exact h ⟨y, r, reach_closed hU hr32 r hs y hy he, hs, hne⟩
  · obtain ⟨x, y, hx, hy, hne⟩ := h2
    have key : ∀ z, (reachN a U r).testBit z = true → z = r := fun z hz => reach_ind hU hr32 (P := fun z => z = r) rfl (fun x u _ hx hu he => by subst hx; exact h u hu he) hz
    exact hne ((key x hx).trans (key y hy).symm)
  · apply nat_ext
    intro i
    rw [testBit_bit, Bool.eq_iff_iff, decide_eq_true_eq]
    refine ⟨fun hi => ?_, fun e => by subst e; exact hs⟩
    apply Classical.byContradiction
    intro hne
    exact h ⟨r, i, hs, hi, hne⟩
/-- The lists put in so far: sorted, each the list of a block. -/
structure PutI (a : List Nat) (U : Nat) (ms : List Nat) : Prop where
  srt : (ms.map bitsI).Pairwise LtL
  sub : ∀ B ∈ ms, B ∈ allB a U
theorem bitsI_inj {m k : Nat} (hm : m < 4294967296) (hk : k < 4294967296) (h : bitsI m = bitsI k) : m = k := by
  apply nat_ext
  intro i
  have h1 := mem_bitsI (m := m) (v := (i : Int)) hm
  have h2 := mem_bitsI (m := k) (v := (i : Int)) hk
  rw [h] at h1
  have h3 := h1.symm.trans h2
  rw [Bool.eq_iff_iff]
  simpa using h3
/-- A list of sets with one put in. -/
def putM (ms : List Nat) (b : Nat) : List Nat := if (ms.map bitsI)[putK (ms.map bitsI) (bitsI b)]? = some (bitsI b) then ms else ms.take (putK (ms.map bitsI) (bitsI b)) ++ [b] ++ ms.drop (putK (ms.map bitsI) (bitsI b))
theorem putM_map (ms : List Nat) (b : Nat) : (putM ms b).map bitsI = putL (ms.map bitsI) (bitsI b) := by
  unfold putM putL
  split
  · rfl
  · simp [List.map_take, List.map_drop]
theorem mem_putM {ms : List Nat} {b x : Nat} (hb : b < 4294967296) (hm : ∀ m ∈ ms, m < 4294967296) : x ∈ putM ms b ↔ x ∈ ms ∨ x = b := by
  unfold putM
  split
  case isTrue h =>
    refine ⟨.inl, fun hx => hx.elim id fun e => ?_⟩
    subst e
    obtain ⟨m, hmm, e⟩ := List.mem_map.1 (List.mem_of_getElem? h)
    rw [← bitsI_inj (hm m hmm) hb e]
    exact hmm
  case isFalse h =>
    generalize putK (ms.map bitsI) (bitsI b) = k
    conv => rhs; rw [← List.take_append_drop k ms]
    simp only [List.mem_append, List.mem_singleton]
    constructor
    · rintro ((h | h) | h)
      · exact .inl (.inl h)
      · exact .inr h
      · exact .inl (.inr h)
    · rintro ((h | h) | h)
      · exact .inl (.inl h)
      · exact .inr h
      · exact .inl (.inr h)
theorem blk_lt {a : List Nat} {U B n : Nat} (hU : U < 2 ^ n) (hB : BlkP a U B) : B < 2 ^ n := lt_bits fun i hi => bit_lt_of hU (hB.sub i hi)
theorem PutI.put {a : List Nat} {U b : Nat} {ms : List Nat} (h : PutI a U ms) (hU : U < 4294967296) (hsy : SymA a) (hb : b ∈ allB a U) : PutI a U (putM ms b) := by
  have hlt : ∀ B ∈ allB a U, B < 4294967296 := fun B hB => blk_lt (n := 32) hU ((all_facts hU hsy).1 B hB).1
  refine ⟨by rw [putM_map]; exact putL_sorted h.srt, fun B hB => ?_⟩
  rcases (mem_putM (hlt b hb) (fun m hm => hlt m (h.sub m hm))).1 hB with hB | rfl
  · exact h.sub B hB
  · exact hb
theorem allB_len {a : List Nat} {U : Nat} (hU : U < 65536) (hsy : SymA a) : (allB a U).length ≤ 65536 := by
  have hf := all_facts (a := a) (U := U) (by omega) hsy
  have := List.Nodup.length_le_of_subset (l₁ := allB a U) (l₂ := List.range 65536) hf.2.2.1 (fun B hB => by
    rw [List.mem_range]
    exact blk_lt (n := 16) hU (hf.1 B hB).1)
  simpa using this
theorem PutI.nodup {a : List Nat} {U : Nat} {ms : List Nat} (h : PutI a U ms) : ms.Nodup := by
  have := h.srt
  rw [List.pairwise_map] at this
  exact List.Pairwise.imp (S := fun x y => x ≠ y) (fun {x y} hxy e => by subst e; exact LtL.asym _ _ hxy hxy) this
theorem PutI.len {a : List Nat} {U : Nat} {ms : List Nat} (h : PutI a U ms) (hU : U < 65536) (hsy : SymA a) : ms.length ≤ 65536 :=
  Nat.le_trans (List.Nodup.length_le_of_subset h.nodup h.sub) (allB_len hU hsy)
theorem put_all {a : List Nat} {U : Nat} {ms : List Nat} (h : PutI a U ms) (hU : U < 4294967296) (hsy : SymA a) (h1 : ∀ B ∈ allB a U, (∃ x y, B.testBit x = true ∧ B.testBit y = true ∧ (a.getD x 0).testBit y = true) → B ∈ ms) (h2 : ∀ r, U.testBit r = true → (∀ y, U.testBit y = true → (a.getD r 0).testBit y = true → y = r) → bit r ∈ ms) : ∀ B, B ∈ ms ↔ B ∈ allB a U := fun B => by
  refine ⟨h.sub B, fun hB => ?_⟩
  obtain ⟨f1, f2, f3, f4⟩ := all_facts hU hsy
  obtain ⟨g1, g2⟩ := f1 B hB
  by_cases ht : Two B
  · exact h1 B hB (blk_edge hU g1 ht)
  · obtain ⟨r, hr, rfl⟩ := g2 ht
    obtain ⟨i1, i2⟩ := one_iso (a := a) hU hr
    rw [i2 ht]
    exact h2 r hr (i1.1 ht)
/-- The sorted blocks are the lists put in. -/
theorem put_is {a : List Nat} {U : Nat} {ms ms' : List Nat} (h : PutI a U ms) (hm : ∀ B, B ∈ ms ↔ B ∈ allB a U) (hp : ms'.Perm (allB a U)) (hs : ms'.Pairwise fun x y => cmpL (bitsI x) (bitsI y) < 0) : ms = ms' := by
  have h1 := h.srt
  rw [List.pairwise_map] at h1
  exact strict_ext (R := fun x y => cmpL (bitsI x) (bitsI y) < 0) (fun x y h k => LtL.asym _ _ h k) h1 hs fun x => (hm x).trans hp.mem_iff.symm
theorem blk_sub {a : List Nat} {U B C x y : Nat} (hU : U < 4294967296) (hB : BlkP a U B) (hC : BlkP a U C) (hxy : x ≠ y) (hx : B.testBit x = true) (hy : B.testBit y = true) (hx2 : C.testBit x = true) (hy2 : C.testBit y = true) {i : Nat} (hi : B.testBit i = true) : C.testBit i = true := by
  have hB32 := blk_lt (n := 32) hU hB
  refine reach_ind (a := a) hB32 (bit_lt_of (n := 32) hB32 hx) (P := fun z => C.testBit z = true) hx2 (fun t w ht hC2 hw he => ?_) (hB.conn x i hx hi)
  have htB := reach_sub hB32 hx ht
  have ht32 := bit_lt_of (n := 32) hB32 htB
  cases hwC : C.testBit w with
  | true => rfl
  | false =>
    exfalso
    have key : ∀ z, z ≠ t → B.testBit z = true → C.testBit z = true → False := fun z hz hzB hzC => by
      have hwt : w ≠ t := fun e => by subst e; rw [hC2] at hwC; cases hwC
      have h1 := hB.nocut t w z htB ((wo_bit hB32 ht32).2 ⟨hw, hwt⟩) ((wo_bit hB32 ht32).2 ⟨hzB, hz⟩)
      have h2 := reach_mono (wo_lt hB32) (wo_lt (v := t) hU) (bit_lt_of (n := 32) hB32 hw) (fun i hi => by
        have := (wo_bit hB32 ht32).1 hi
        exact (wo_bit hU ht32).2 ⟨hB.sub i this.1, this.2⟩) h1
      rw [hC.out t w hC2 (hB.sub w hw) hwC he z hzC] at h2
      cases h2
    by_cases e : x = t
    · exact key y (fun e2 => hxy (e.trans e2.symm)) hy hy2
    · exact key x e hx hx2
/-- One block alone has an edge. -/
theorem blk_one {a : List Nat} {U B C x y : Nat} (hU : U < 4294967296) (hB : BlkP a U B) (hC : BlkP a U C) (hxy : x ≠ y) (hx : B.testBit x = true) (hy : B.testBit y = true) (hx2 : C.testBit x = true) (hy2 : C.testBit y = true) : B = C := by
  apply nat_ext
  intro i
  rw [Bool.eq_iff_iff]
  exact ⟨blk_sub hU hB hC hxy hx hy hx2 hy2, blk_sub hU hC hB hxy hx2 hy2 hx hy⟩
def EdgT (a : List Nat) (U : Nat) (ms : List Nat) (k : Nat) (T : List Nat) : Prop := ∀ B ∈ allB a U, ∀ x y, (x < k ∨ x = k ∧ y ∈ T) → B.testBit x = true → B.testBit y = true → (a.getD x 0).testBit y = true → B ∈ ms
def IsoT (a : List Nat) (U : Nat) (ms : List Nat) (k : Nat) : Prop := ∀ r, r < k → U.testBit r = true → (∀ y, U.testBit y = true → (a.getD r 0).testBit y = true → y = r) → bit r ∈ ms
theorem IsoT.put {a : List Nat} {U b k : Nat} {ms : List Nat} (h : IsoT a U ms k) (hb : b < 4294967296) (hm : ∀ m ∈ ms, m < 4294967296) : IsoT a U (putM ms b) k := fun r hr h1 h2 => (mem_putM hb hm).2 (.inl (h r hr h1 h2))
theorem EdgT.put {a : List Nat} {U b k v : Nat} {ms T : List Nat} (h : EdgT a U ms k T) (hU : U < 4294967296) (hsy : SymA a) (hir : IrrA a) (hm : ∀ m ∈ ms, m < 4294967296) (hb : b ∈ allB a U) (h1 : b.testBit k = true) (h2 : b.testBit v = true) (he : (a.getD k 0).testBit v = true) : EdgT a U (putM ms b) k (T ++ [v]) := fun B hB x y hP hx hy hxy => by
  have hf := (all_facts hU hsy).1
  have hb32 := blk_lt (n := 32) hU (hf b hb).1
  rw [mem_putM hb32 hm]
  rcases hP with hP | ⟨rfl, hP⟩
  · exact .inl (h B hB x y (.inl hP) hx hy hxy)
  · rw [List.mem_append, List.mem_singleton] at hP
    rcases hP with hP | rfl
    · exact .inl (h B hB x y (.inr ⟨rfl, hP⟩) hx hy hxy)
    · exact .inr (blk_one hU (hf B hB).1 (hf b hb).1 (fun e => by subst e; rw [hir] at he; cases he) hx hy h1 h2)
end Go.Proofs.YtmcaccacdbcnmaaDoor
