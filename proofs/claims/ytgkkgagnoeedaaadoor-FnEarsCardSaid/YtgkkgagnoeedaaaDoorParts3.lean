/- The parts of a set, by the reference; cut vertices; TwoConnectedIn. -/
import Derived.Test.YtgkkgagnoeedaaaDoorReach2
import Derived.Test.YtgkkgagnoeedaaaDoorReach
import Derived.Test.YtgkkgagnoeedaaaDoorLaws
namespace Go.Proofs.YtgkkgagnoeedaaaDoor
open Go.RowKit
theorem maskL_bitsI {m : Nat} (hm : m < 4294967296) : maskL (bitsI m) = m := by
  apply nat_ext
  intro i
  rw [testBit_maskL (fun x hx => ((mem_bitsI hm).1 hx).1), Bool.eq_iff_iff, decide_eq_true_eq, mem_bitsI hm]
  simp
theorem rangeI_bits {n : Nat} (hn : n ≤ 16) : rangeI n = bitsI (firstN n) := by
  have hf : firstN n < 4294967296 := by have := firstN_lt hn; omega
  refine sorted_ext (rangeI_sorted n) (bitsI_sorted _) fun x => ?_
  rw [mem_rangeI, mem_bits_firstN hn]
theorem firstN_two (n : Nat) : firstN n < 2 ^ n := by unfold firstN; have := Nat.two_pow_pos n; omega
/-- The number of steps of the union with the first k elements. -/
theorem or_take {D P k : Nat} {D' : Nat} (hk : k < (bitsN P).length) (h : ∀ i, D'.testBit i = true ↔ D.testBit i = true ∨ i ∈ (bitsN P).take k) : ∀ i, (D' ||| bit (bitsN P)[k]).testBit i = true ↔ D.testBit i = true ∨ i ∈ (bitsN P).take (k + 1) := fun i => by
  rw [Nat.testBit_or, testBit_bit, Bool.or_eq_true, h i, List.take_succ_eq_append_getElem hk, List.mem_append, List.mem_singleton, decide_eq_true_eq, or_assoc]
  constructor
  · rintro (h | h | h)
    · exact .inl h
    · exact .inr (.inl h)
    · exact .inr (.inr h.symm)
  · rintro (h | h | h)
    · exact .inl h
    · exact .inr (.inl h)
    · exact .inr (.inr h.symm)
theorem or_all {D P : Nat} {D' : Nat} (hP : P < 4294967296) (h : ∀ i, D'.testBit i = true ↔ D.testBit i = true ∨ i ∈ (bitsN P).take (bitsN P).length) : D' = D ||| P := by
  apply nat_ext
  intro i
  rw [Bool.eq_iff_iff, h i, List.take_length, mem_bitsN hP, Nat.testBit_or, Bool.or_eq_true]
/-- What the parts' loop holds in memory. -/
structure PartsW (w : World) (B : Nat) (EO : TypeId) (EI : TypeId) (o d : Value) (out : List Nat) (D : Nat) : Prop where
  done : OwnB w B EI d D
  ex : ∃ vs : List Value, vs.length = out.length ∧ Own w B EO 1 o out.length vs ∧ Apart d o ∧ ∀ i (h : i < vs.length) (h2 : i < out.length), OwnB w B EI vs[i] out[i] ∧ Apart vs[i] o
theorem PartsW.below {w w' : World} {B B1 : Nat} {EO EI : TypeId} {o d : Value} {out : List Nat} {D : Nat} (h : PartsW w B EO EI o d out D) (hb : Below B1 w w') (hB : w.heap.size ≤ B1) : PartsW w' B EO EI o d out D := by
  obtain ⟨vs, h1, h2, h3, h4⟩ := h.ex
  exact ⟨h.done.below hb hB, vs, h1, h2.below hb hB, h3, fun i hi hi2 => ⟨(h4 i hi hi2).1.below hb hB, (h4 i hi hi2).2⟩⟩
/-- Another list done, apart or new. -/
theorem PartsW.other {w w' : World} {B : Nat} {EO EI : TypeId} {o d d' : Value} {out : List Nat} {D D' : Nat} (h : PartsW w B EO EI o d out D) (hb : Below w.heap.size w w') (hd : OwnB w' B EI d' D') (ha : d' = d ∨ ∀ b, d'.ownBlock = some b → w.heap.size ≤ b) : PartsW w' B EO EI o d' out D' := by
  obtain ⟨vs, h1, h2, h3, h4⟩ := h.ex
  refine ⟨hd, vs, h1, h2.below hb (Nat.le_refl _), ?_, fun i hi hi2 => ⟨(h4 i hi hi2).1.below hb (Nat.le_refl _), (h4 i hi hi2).2⟩⟩
  rcases ha with rfl | ha
  · exact h3
  · intro k hk hk2
    have := ha k hk; have := (h2.lt k hk2).2; omega
/-- One part more. -/
theorem PartsW.more {w w' : World} {B : Nat} {EO EI : TypeId} {o d o' r : Value} {out : List Nat} {vs : List Value} {D p : Nat} {W : World} (hd : OwnB w B EI d D) (hl : vs.length = out.length) (ho : Own w B EO 1 o out.length vs) (hap : Apart d o)
    (hr : ∀ i (h : i < vs.length) (h2 : i < out.length), OwnB w B EI vs[i] out[i] ∧ Apart vs[i] o) (hp : OwnB w B EI r p) (hpo : Apart r o) (hW : w.heap.size ≤ W.heap.size)
    (ho' : Own w' B EO 1 o' (out.length + 1) (vs ++ [r])) (hk : KeptBut w w' o.ownBlock) (hm : Moved W o o') : PartsW w' B EO EI o' d (out ++ [p]) D := by
  have mv : ∀ {u : Value} {m : Nat}, OwnB w B EI u m → Apart u o → Apart u o' := fun {u m} hu h k hk1 hk2 => by
    rcases hm with e | e
    · rw [e] at hk2; exact h k hk1 hk2
    · rw [e] at hk2
      have := (Own.lt hu k hk1).2
      simp at hk2; omega
  refine ⟨Own.kept hd hk (fun k h1 h2 => hap k h1 h2), vs ++ [r], by simp [hl], by simpa using ho', mv hd hap, fun i hi hi2 => ?_⟩
  by_cases e : i < vs.length
  · have e2 : i < out.length := by omega
    rw [List.getElem_append_left e, List.getElem_append_left e2]
    exact ⟨Own.kept (hr i e e2).1 hk (fun k h1 h2 => (hr i e e2).2 k h1 h2), mv (hr i e e2).1 (hr i e e2).2⟩
  · have e3 : i = vs.length := by simp at hi; omega
    subst e3
    rw [List.getElem_append_right (Nat.le_refl _), List.getElem_append_right (by omega)]
    simp only [Nat.sub_self, List.getElem_cons_zero, hl]
    exact ⟨Own.kept hp hk (fun k h1 h2 => hpo k h1 h2), mv hp hpo⟩
theorem PartsW.olt {w : World} {B : Nat} {EO EI : TypeId} {o d : Value} {out : List Nat} {D : Nat} (h : PartsW w B EO EI o d out D) : ∀ b, o.ownBlock = some b → b < w.heap.size := by
  obtain ⟨vs, h1, h2, h3, h4⟩ := h.ex
  exact fun b hb => (h2.lt b hb).2
theorem PartsW.rows {w : World} {B : Nat} {EO EI : TypeId} {o d : Value} {out : List Nat} {D : Nat} (h : PartsW w B EO EI o d out D) (hn : out.length ≤ 9223372036854775807) : SlR (fun b => B ≤ b) w o (out.map bitsI) := by
  obtain ⟨vs, h1, h2, h3, h4⟩ := h.ex
  have hr : RowsTo (fun b => B ≤ b) w vs (out.map bitsI) := ⟨by simp; omega, fun i hi hi2 => by
    have := (h4 i hi (by simpa using hi2)).1
    rw [List.getElem_map]
    exact this.ints.weak (fun b hb => Own.ge this b hb)⟩
  have := hr.rows (E := EO) (n := out.length) (by simp [h1]) (fun b hb => h2.ge b hb) h2 hn
  exact this
set_option maxRecDepth 100000 in
set_option maxHeartbeats 8000000 in
theorem l16Parts_any {S S' : Nat → Prop} {v u : Value} {g : List (List Int)} {s : Nat} {t : Bool} {w : World} (hg : GOk g) (hv : SlR S w v g) (hu : SlI S' w .i64 u (bitsI s)) (hs : s < 2 ^ g.length) :
    Calls Tryd.prog 79 #[.agg #[v], u, .bool t] w fun e w' => ∃ x, e = .returned x ∧ SlR (fun b => w.heap.size ≤ b) w' x ((partsN (adjN (netsL g) t) s).map bitsI) ∧ Below w.heap.size w w' := by
  have hq0 : Below w.heap.size w (w.alloc (.cells #[v] 27)) := (Below.refl _ _).alloc (Nat.le_refl _) _
  have h16 := hg.hi
  have hs32 : s < 4294967296 := Nat.lt_of_lt_of_le hs (by have := pow_le16 h16; omega)
  have hsym := adj_sym hg hs t
  have hstart := PartsI.start (a := adjN (netsL g) t) hs32
  have HRE := fun (w1 : World) (hb : Below w.heap.size w w1) (f : Nat) (hf : f < g.length) => l16Reach_any (t := t) hg (hv.below hb (Nat.le_refl _)) (hu.below hb (Nat.le_refl _)) hs hf
  have hnext := fun (out : List Nat) (D x : Nat) (h : PartsI (adjN (netsL g) t) s out D) => h.next hs32 hsym (v := x)
  have hfin := fun (out : List Nat) (D : Nat) (h : PartsI (adjN (netsL g) t) s out D) => h.done hs32
  have hplen := partsN_len (adjN (netsL g) t) s
  generalize adjN (netsL g) t = A at *
  clear hsym
  obtain ⟨va, vc, rfl⟩ := hv.slice
  obtain ⟨ub, uo, ucap, hue, huc0⟩ := hu.at_
  obtain ⟨ua, uc, rfl⟩ := hu.slice
  have hbl := bitsI_lenN s
  have hb32 := bitsI_len s
  rw [hbl] at hue HRE ⊢
  have HBL := Lib.hid hbl
  have hq1 := (hq0.alloc hq0.size (.cells #[] 51)).alloc (by simp; omega) (.cells #[] 2)
  have hlit : PartsW (((w.alloc (.cells #[.slice va g.length vc] 27)).alloc (.cells #[] 51)).alloc (.cells #[] 2)) (w.heap.size + 1) 51 2 (.slice (some ⟨w.heap.size + 1, 0, none⟩) 0 0) (.slice (some ⟨w.heap.size + 1 + 1, 0, none⟩) 0 0) [] 0 := by
    have h1 := World.ownsRow_lit (base := w.heap.size + 1) (e := 51) (size := 1) (w.alloc (.cells #[.slice va g.length vc] 27)) #[] 0 (by first | (simp; done) | (simp; omega)) (by unfold maxLen; omega) rfl
    have h2 := World.ownsRow_lit (base := w.heap.size + 1) (e := 2) (size := 1) ((w.alloc (.cells #[.slice va g.length vc] 27)).alloc (.cells #[] 51)) #[] 0 (by first | (simp; done) | (simp; omega)) (by unfold maxLen; omega) rfl
    refine ⟨?_, [], rfl, ?_, apart_lit (by omega), fun i h => by simp at h⟩
    · unfold OwnB
      have e : bitsI 0 = [] := by simp [bitsI, bitsN_zero]
      rw [e]
      simpa [Own] using h2
    · have := Own.alloc (show Own _ _ _ _ _ _ _ from h1) (.cells #[] 2)
      simpa using this
  have hsl : (bitsN s).length ≤ 32 := by omega
  clear hbl
  go_enter Tryd.func79, Tryd.ntmps79
  go_wp2
  go_loopw [7, 8, 9] (fun o d i wr => ∃ (k D : Nat) (out : List Nat), i = .int .i64 k ∧ k ≤ (bitsN s).length ∧ PartsI A s out D ∧ (∀ j (h : j < (bitsN s).length), j < k → D.testBit (bitsN s)[j] = true) ∧ PartsW wr (w.heap.size + 1) 51 2 o d out D ∧ Below w.heap.size w wr ∧ wr.cell? ⟨w.heap.size, 0, none⟩ = some (.slice va g.length vc)) (fun _ _ i _ => (bitsN s).length - (intOf i).toNat)
  case atStart => exact ⟨0, 0, [], rfl, Nat.zero_le _, hstart, (fun j h hj => by omega), hlit, hq1, by simp [go_sem]⟩
  case round =>
    clear hlit hq1 hq0 hstart
    obtain ⟨k, D, out, rfl, hk, hpi, hmet, hpw, hq, hbx⟩ := hrel
    have HM := Lib.hid hmet; clear hmet
    have hB := hq.size
    have hB2 : w.heap.size + 1 ≤ wr.heap.size := cell_lt hbx
    have hpl : out.length ≤ 33 := by have := hpi.rest; have : (out ++ partsN A (andN s D)).length = (partsN A s).length := by rw [this]
                                     rw [List.length_append] at this; omega
    by_cases hlt : k < (bitsN s).length
    case neg =>
      have hF := hfin out D hpi (fun i hi => by
        obtain ⟨j, hj, rfl⟩ := List.getElem_of_mem ((mem_bitsN hs32).2 hi)
        exact HM.out j hj (by omega))
      have HF := Lib.hid hF; clear hF hfin hnext HRE
      have hrw := hpw.rows (by omega)
      obtain ⟨oa, oc, hoe⟩ := hrw.slice
      go_wp2
      go_ret
      exact ⟨_, rfl, by rw [← HF.out]; exact hrw.weak (fun b hb => by omega), hq⟩
    have hbl := HBL.out
    have hyk : (bitsI s)[k]'(by omega) = (((bitsN s)[k] : Nat) : Int) := bitsI_get _
    have hys := (mem_bitsN hs32).1 (List.getElem_mem hlt)
    have hyn := bit_lt_of hs hys
    have hcell0 := huc0 k (by omega)
    rw [hyk] at hcell0
    have hue2 := hue (by omega)
    simp only [Value.slice.injEq] at hue2
    obtain ⟨rfl, -, rfl⟩ := hue2
    have hcell : wr.cell? ⟨ub, uo + k, none⟩ = some (.int .i64 (((bitsN s)[k] : Nat) : Int)) := (hq.cell (p := ⟨ub, uo + k, none⟩) (cell_lt hcell0)).trans hcell0
    have hlow : ∀ i, s.testBit i = true → i < (bitsN s)[k] → D.testBit i = true := fun i hi hik => by
      obtain ⟨j, hj, rfl⟩ := List.getElem_of_mem ((mem_bitsN hs32).2 hi)
      refine HM.out j hj ?_
      apply Nat.lt_of_not_le
      intro hkj
      by_cases e : k = j
      · subst e; omega
      · have := List.pairwise_iff_getElem.1 (bitsN_sorted s) k j hlt hj (by omega); omega
    have hmets : ∀ (D' : Nat), (∀ i, D.testBit i = true → D'.testBit i = true) → D'.testBit (bitsN s)[k] = true → ∀ j (h : j < (bitsN s).length), j < k + 1 → D'.testBit (bitsN s)[j] = true := fun D' h1 h2 j hj hjk => by
      by_cases e : j = k
      · subst e; exact h2
      · exact h1 _ (HM.out j hj (by omega))
    have HMS := Lib.hid hmets; clear hmets HM
    have hD32 := hpi.lt
    have hhas := l1Has_any _ (bitsI D) (((bitsN s)[k] : Nat) : Int) wr hpw.done.ints
    have hmem : decide ((((bitsN s)[k] : Nat) : Int) ∈ bitsI D) = D.testBit (bitsN s)[k] := by
      rw [Bool.eq_iff_iff, decide_eq_true_eq, mem_bitsI hD32]; simp
    rw [hmem] at hhas
    clear hmem hyk hcell0 hue hbl
    have hre := fun w1 hb => HRE w1 hb _ hyn
    have hnx := hnext out D _ hpi hys
    have hR32 := reachN_lt A s (bitsN s)[k]
    have hRst := reach_start (a := A) hs32 (show (bitsN s)[k] < 32 by omega)
    generalize (bitsN s)[k] = y at *
    cases hDy : D.testBit y
    case true =>
      rw [hDy] at hhas
      have hms := HMS.out D (fun _ h => h) hDy
      have HX := Lib.hid hms; clear hms HMS hre hnx hDy hnext HRE hfin hlow
      go_wp2_with fail
      (with_reducible refine hhas.mono ?_)
      rintro e w3 ⟨rfl, rfl⟩
      clear hhas
      go_wp2
      go_roundw
      case rel => exact ⟨k + 1, D, out, by go_num, by omega, hpi, HX.out, hpw, hq, hbx⟩
      case measure => simp [intOf]; omega
    rw [hDy] at hhas
    have hnx := hnx hDy hlow
    have hms := HMS.out (D ||| reachN A s y) (fun i h => by rw [Nat.testBit_or, h]; rfl) (by rw [Nat.testBit_or, hRst]; simp)
    have HX := Lib.hid hms; have HNX := Lib.hid hnx; clear hms HMS hnx hDy hnext HRE hfin hlow hRst
    generalize reachN A s y = P at *
    go_wp2_with fail
    (with_reducible refine hhas.mono ?_)
    rintro e w3 ⟨rfl, rfl⟩
    clear hhas
    go_wp2
    refine wp_region_held_drew (S := (fun w' => w'.cell? ⟨w.heap.size, 0, none⟩ = some (.slice va g.length vc) ∧ w'.cell? ⟨ub, uo + k, none⟩ = some (.int .i64 (y : Int)))) (by kernel_rfl) ?_ (fun hHeld => ?_)
    · first | exact ⟨‹_›, ‹_›⟩ | (simp [*, go_sem])
    have hqc := hq.drew
    have hBd : wr.heap.size ≤ wr.drew.heap.size := Nat.le_refl _
    have hpc := hpw.below (Below.refl wr.heap.size wr).drew (Nat.le_refl _)
    generalize World.drew _ = wd at hqc hpc hHeld hBd ⊢
    obtain ⟨c3, c4⟩ := hHeld
    have hHeld : (fun w' => World.cell? w' ⟨w.heap.size, 0, none⟩ = some (.slice va g.length vc) ∧ World.cell? w' ⟨ub, uo + k, none⟩ = some (.int .i64 (y : Int))) wd := ⟨c3, c4⟩
    refine wpAnyH_take (i := 0) (v := ?v1) (by simp only [List.getElem?_toArray, List.getElem?_cons_zero]; exact rfl) (by kernel_rfl) (by kernel_rfl) (by kernel_rfl) (by intro _ _ _ h; exact h) (Or.inl ⟨by rfl, ?y1⟩) hHeld ?_
    case y1 => (intro w hSw; (try dsimp only at hSw); go_simp; try (with_reducible rfl))
    try simp only [Act.put, List.setIfInBounds_toArray, List.set_cons_zero, List.set_cons_succ]
    refine wpAnyH_take (i := 1) (v := ?v2) (by simp only [List.getElem?_toArray, List.getElem?_cons_succ, List.getElem?_cons_zero]; exact rfl) (by kernel_rfl) (by kernel_rfl) (by kernel_rfl) (by intro _ _ _ h; exact h) (Or.inl ⟨by rfl, ?y2⟩) hHeld ?_
    case y2 => (intro w hSw; (try dsimp only at hSw); go_simp; try (with_reducible rfl))
    try simp only [Act.put, List.setIfInBounds_toArray, List.set_cons_zero, List.set_cons_succ]
    refine wpAnyH_take (i := 2) (v := ?v3) (by simp only [List.getElem?_toArray, List.getElem?_cons_succ, List.getElem?_cons_zero]; exact rfl) (by kernel_rfl) (by kernel_rfl) (by kernel_rfl) (by intro _ _ _ h; exact h) (Or.inl ⟨by rfl, ?y3⟩) hHeld ?_
    case y3 => (intro w hSw; (try dsimp only at hSw); go_simp; try (with_reducible rfl))
    try simp only [Act.put, List.setIfInBounds_toArray, List.set_cons_zero, List.set_cons_succ]
    refine wpAnyH_take (i := 3) (v := ?v4) (by simp only [List.getElem?_toArray, List.getElem?_cons_succ, List.getElem?_cons_zero]; exact rfl) (by kernel_rfl) (by kernel_rfl) (by kernel_rfl) (by intro _ _ _ h; exact h) (Or.inl ⟨by rfl, ?y4⟩) hHeld ?_
    case y4 => (intro w hSw; (try dsimp only at hSw); go_simp; try (with_reducible rfl))
    try simp only [Act.put, List.setIfInBounds_toArray, List.set_cons_zero, List.set_cons_succ]
    refine wpAnyH_take (i := 4) (v := ?v5) (by simp only [List.getElem?_toArray, List.getElem?_cons_succ, List.getElem?_cons_zero]; exact rfl) (by kernel_rfl) (by kernel_rfl) (by kernel_rfl) (by intro _ _ _ h; exact h) (Or.inl ⟨by rfl, ?y5⟩) hHeld ?_
    case y5 => (intro w hSw; (try dsimp only at hSw); go_simp; try (with_reducible rfl))
    try simp only [Act.put, List.setIfInBounds_toArray, List.set_cons_zero, List.set_cons_succ]
    refine wpAnyH_take (i := 5) (v := ?v6) (by simp only [List.getElem?_toArray, List.getElem?_cons_succ, List.getElem?_cons_zero]; exact rfl) (by kernel_rfl) (by kernel_rfl) (by kernel_rfl) (by intro _ _ _ h; exact h) (Or.inl ⟨by rfl, ?y6⟩) hHeld ?_
    case y6 => (intro w hSw; (try dsimp only at hSw); go_simp; try (with_reducible rfl))
    try simp only [Act.put, List.setIfInBounds_toArray, List.set_cons_zero, List.set_cons_succ]
    refine wpAnyH_take (i := 6) (v := ?v7) (by simp only [List.getElem?_toArray, List.getElem?_cons_succ, List.getElem?_cons_zero]; exact rfl) (by kernel_rfl) (by kernel_rfl) (by kernel_rfl) (by intro _ _ _ h; exact h) (Or.inl ⟨by rfl, ?y7⟩) hHeld ?_
    case y7 => (intro w hSw; (try dsimp only at hSw); go_simp; try (with_reducible rfl))
    try simp only [Act.put, List.setIfInBounds_toArray, List.set_cons_zero, List.set_cons_succ]
    refine wpAnyH_ready (rs := [7]) (by kernel_rfl) (by simp) ?_
    refine AllReadyH.cons (by simp only [List.getElem?_toArray, List.getElem?_cons_succ, List.getElem?_cons_zero]; exact rfl) (fun K hK => ?_) AllReadyH.nil
    go_simp
    (with_reducible refine (hre wd hqc).mono ?_)
    rintro e wn ⟨r, rfl, hr, hbn⟩
    have hqn := hqc.trans (hbn.mono hqc.size)
    have c3 := (hbn.cell (cell_lt c3)).trans c3
    have c4 := (hbn.cell (cell_lt c4)).trans c4
    try dsimp only
    refine hK.out _ _ ?h9 (fun hHeld => ?_)
    case h9 => first | exact ⟨‹_›, ‹_›⟩ | (simp [*, go_sem])
    clear hK K
    try simp only [Act.put, List.setIfInBounds_toArray, List.set_cons_zero, List.set_cons_succ]
    refine wpAnyH_take (i := 8) (v := ?v10) (by simp only [List.getElem?_toArray, List.getElem?_cons_succ, List.getElem?_cons_zero]; exact rfl) (by kernel_rfl) (by kernel_rfl) (by kernel_rfl) (by intro _ _ _ h; exact h) (Or.inl ⟨by rfl, ?y10⟩) hHeld ?_
    case y10 => (intro w hSw; (try dsimp only at hSw); go_simp; try (with_reducible rfl))
    try simp only [Act.put, List.setIfInBounds_toArray, List.set_cons_zero, List.set_cons_succ]
    refine wpAnyH_done (by kernel_rfl) ?_ _
    have hBc := hqc.size
    have hpn := hpc.below hbn (Nat.le_refl _)
    have hol := hpc.olt
    have hB3 : w.heap.size + 1 ≤ wd.heap.size := by have := hpc.olt; exact Nat.le_trans hB2 hBd
    clear hbx hcell hpw hq hB hre hB2
    obtain ⟨ra, rc, rfl⟩ := Own.isSlice hr
    have hPl := bitsI_lenN P
    have hPl32 := bitsI_len P
    obtain ⟨rb, ro, rcap, hrue, hruc0⟩ := hr.ints.at_
    rw [hPl] at hrue ⊢
    have HPL := Lib.hid hPl
    have hP32 : (bitsN P).length ≤ 32 := by omega
    clear hPl hPl32
    go_wp2
    go_loopw [8, 11] (fun d i wr => ∃ (m D' : Nat), i = .int .i64 m ∧ m ≤ (bitsN P).length ∧ (∀ i, D'.testBit i = true ↔ D.testBit i = true ∨ i ∈ (bitsN P).take m) ∧ D' < 4294967296 ∧ PartsW wr (w.heap.size + 1) 51 2 u7 d out D' ∧ Below wn.heap.size wn wr) (fun _ i _ => (bitsN P).length - (intOf i).toNat)
    case atStart => exact ⟨0, D, rfl, Nat.zero_le _, (fun i => by simp), hD32, hpn, Below.refl _ _⟩
    case round =>
      clear hpn hpc
      obtain ⟨wi, rfl⟩ : ∃ wi : World, wi = wr := ⟨_, rfl⟩
      obtain ⟨m, D', rfl, hm, hDD, hD', hpw, hbi⟩ := hrel
      have hqi := hqn.trans (hbi.mono hqn.size)
      have hBi : w.heap.size + 1 ≤ wi.heap.size := by have := hbn.size; have := hbi.size; omega
      have hBj := hqi.size
      have HDD := Lib.hid hDD; clear hDD
      by_cases hlt2 : m < (bitsN P).length
      · have hPl := HPL.out
        have hzk : (bitsI P)[m]'(by omega) = (((bitsN P)[m] : Nat) : Int) := bitsI_get _
        have hzP := (mem_bitsN hR32).1 (List.getElem_mem hlt2)
        have hz32 := bit_lt_of (n := 32) hR32 hzP
        have hzc := hruc0 m (by omega)
        rw [hzk] at hzc
        have hrue2 := hrue (by omega)
        simp only [Value.slice.injEq] at hrue2
        obtain ⟨rfl, -, rfl⟩ := hrue2
        have hcell : wi.cell? ⟨rb, ro + m, none⟩ = some (.int .i64 (((bitsN P)[m] : Nat) : Int)) := (hbi.cell (p := ⟨rb, ro + m, none⟩) (cell_lt hzc)).trans hzc
        have hot := or_take hlt2 HDD.out
        have hin := intoB_apart hpw.done hBi hD' hz32
        have hor32 : D' ||| bit (bitsN P)[m] < 4294967296 := Nat.or_lt_two_pow (n := 32) hD' (bit_lt hz32)
        have HOT := Lib.hid hot; clear hot hzk hzc hrue hPl
        generalize (bitsN P)[m] = z at *
        go_wp2_with fail
        (with_reducible refine hin.mono ?_)
        rintro e w4 ⟨d4, rfl, hd4, hda, hb4⟩
        clear hin
        go_wp2
        go_roundw
        case rel => exact ⟨m + 1, _, by go_num, by omega, HOT.out, hor32, hpw.other hb4 hd4 hda, hbi.trans (hb4.mono hbi.size)⟩
        case measure => simp [intOf]; omega
      · obtain rfl : m = (bitsN P).length := by omega
        have hDe := or_all hR32 HDD.out
        subst hDe
        have hri := hr.below hbi (Nat.le_refl _)
        obtain ⟨vs, h1, h2, h3, h4⟩ := hpw.ex
        have hro := hri.weak (show w.heap.size + 1 ≤ wd.heap.size from hB3)
        have hc3 := (hbi.cell (cell_lt c3)).trans c3
        have HD := Lib.hid hpw.done
        have HV := Lib.hid h4; clear h4 HDD
        have hrap : Apart (Value.slice ra (bitsN P).length rc) u7 := fun b hb hb2 => by
          have := Own.ge hr b (by rw [HPL.out]; exact hb)
          have := hol b hb2
          omega
        go_wp2_with (at_builtin; refine wpList_append1 elRows rfl _ _ rfl h2 rfl rfl rfl (by omega) hBi ?_; intro v' w5 hown5 hkept hmv)
        go_roundw
        case rel =>
          exact ⟨k + 1, D ||| P, out ++ [P], by go_num, by omega, HNX.out, HX.out, PartsW.more HD.out h1 h2 h3 HV.out (by have hro := hro; rw [HPL.out] at hro; exact hro) hrap (by simp) hown5 hkept hmv, hkept.below hqi hBj (fun b hb => by have := h2.ge b hb; omega), (World.cell?_of_block (a := ⟨w.heap.size, 0, none⟩) (hkept.2.2.2.2 w.heap.size (cell_lt hc3) (fun e => by have := h2.ge _ e.symm; omega))).trans hc3⟩
        case measure => simp [intOf]; omega
end Go.Proofs.YtgkkgagnoeedaaaDoor
