/- Blocks of a graph: plain facts. -/
import Derived.Test.YtmcaccacdbcnmaaDoorReaE
namespace Go.Proofs.YtmcaccacdbcnmaaDoor
open Go.RowKit
def SymA (a : List Nat) : Prop := ∀ x y, (a.getD x 0).testBit y = true → (a.getD y 0).testBit x = true
theorem SymA.on {a : List Nat} (h : SymA a) (wi : Nat) : SymN a wi := fun x y _ _ hb => h x y hb
/-- What can be reached, by induction. -/
theorem reach_ind {a : List Nat} {wi v : Nat} (hw : wi < 4294967296) (hv : v < 32) {P : Nat → Prop} (h0 : P v) (hst : ∀ x u, (reachN a wi v).testBit x = true → P x → wi.testBit u = true → (a.getD x 0).testBit u = true → P u) {i : Nat} (hi : (reachN a wi v).testBit i = true) : P i := by
  classical
  have hR := reachN_lt a wi v
  have hb : ∀ i, (maskL ((rangeI 32).filter fun x => decide ((reachN a wi v).testBit x.toNat = true ∧ P x.toNat))).testBit i = true ↔ (reachN a wi v).testBit i = true ∧ P i := fun i => by
    rw [testBit_maskL (fun x hx => (mem_rangeI.1 (List.mem_filter.1 hx).1).1), decide_eq_true_eq, List.mem_filter, mem_rangeI]
    simp only [Int.toNat_natCast, decide_eq_true_eq]
    exact ⟨fun h => h.2, fun h => ⟨⟨by omega, by have := bit_lt_of (n := 32) hR h.1; omega⟩, h⟩⟩
  refine ((hb i).1 (reach_least hw hv (fun x hx u hu he => ?_) ((hb v).2 ⟨reach_start hw hv, h0⟩) hi)).2
  have hx := (hb x).1 hx
  exact (hb u).2 ⟨reach_closed hw hv x hx.1 u hu he, hst x u hx.1 hx.2 hu he⟩
theorem reach_mono {a : List Nat} {wi wj v : Nat} (hw : wi < 4294967296) (hw2 : wj < 4294967296) (hv : v < 32) (h : ∀ i, wi.testBit i = true → wj.testBit i = true) {i : Nat} (hi : (reachN a wi v).testBit i = true) : (reachN a wj v).testBit i = true :=
  reach_ind hw hv (reach_start hw2 hv) (fun x u _ hx hu he => reach_closed hw2 hv x hx u (h u hu) he) hi
theorem parts_facts {a : List Nat} {wi : Nat} (hw : wi < 4294967296) (hs : SymN a wi) : (∀ p ∈ partsN a wi, ∃ r, wi.testBit r = true ∧ p = reachN a wi r) ∧ (∀ v, wi.testBit v = true → reachN a wi v ∈ partsN a wi) ∧ (partsN a wi).Nodup := by
  have key : ∀ k, ∃ out D, PartsI a wi out D ∧ (∀ p ∈ out, (∃ r, wi.testBit r = true ∧ p = reachN a wi r) ∧ ∀ i, p.testBit i = true → D.testBit i = true) ∧ (∀ i, D.testBit i = true → reachN a wi i ∈ out) ∧ out.Nodup ∧ ∀ i, i < k → wi.testBit i = true → D.testBit i = true := by
    intro k
    induction k with
    | zero => exact ⟨[], 0, PartsI.start hw, (fun p hp => by simp at hp), (fun i hi => by rw [Nat.zero_testBit] at hi; cases hi), List.nodup_nil, fun i hi => by omega⟩
    | succ k ih =>
      obtain ⟨out, D, h1, h2, h3, h4, h5⟩ := ih
      by_cases hk : wi.testBit k = true ∧ D.testBit k = false
      · have hk32 := bit_lt_of (n := 32) hw hk.1
        refine ⟨_, _, h1.next hw hs hk.1 hk.2 (fun i hi hlt => h5 i hlt hi), fun p hp => ?_, fun i hi => ?_, ?_, fun i hi hwi => ?_⟩
        · rw [List.mem_append, List.mem_singleton] at hp
          rcases hp with hp | rfl
          · exact ⟨(h2 p hp).1, fun i hi => by rw [Nat.testBit_or, (h2 p hp).2 i hi]; rfl⟩
          · exact ⟨⟨k, hk.1, rfl⟩, fun i hi => by rw [Nat.testBit_or, hi]; simp⟩
        · rw [Nat.testBit_or, Bool.or_eq_true] at hi
          rw [List.mem_append, List.mem_singleton]
          rcases hi with hi | hi
          · exact .inl (h3 i hi)
          · exact .inr (reach_eq hw hs hk.1 hi)
        · rw [List.nodup_append]
          refine ⟨h4, by simp, fun p hp q hq => ?_⟩
          rw [List.mem_singleton] at hq
          subst hq
          intro e
          have := (h2 p hp).2 k (by rw [e]; exact reach_start hw hk32)
          rw [this] at hk; cases hk.2
        · rw [Nat.testBit_or, Bool.or_eq_true]
          by_cases e : i = k
          · subst e
            exact .inr (reach_start hw (bit_lt_of (n := 32) hw hwi))
          · exact .inl (h5 i (by omega) hwi)
      · refine ⟨out, D, h1, h2, h3, h4, fun i hi hwi => ?_⟩
        by_cases e : i = k
        · subst e
          cases hD : D.testBit i
          · exact absurd ⟨hwi, hD⟩ hk
          · rfl
        · exact h5 i (by omega) hwi
  obtain ⟨out, D, h1, h2, h3, h4, h5⟩ := key 32
  have hall : ∀ i, wi.testBit i = true → D.testBit i = true := fun i hi => h5 i (bit_lt_of (n := 32) hw hi) hi
  rw [← h1.done hw hall]
  exact ⟨fun p hp => (h2 p hp).1, fun v hv => h3 v (hall v hv), h4⟩
theorem nodup_two {α : Type} {l : List α} (h : 1 < l.length) (hn : l.Nodup) : ∃ p ∈ l, ∃ q ∈ l, p ≠ q := by
  match l, h, hn with
  | p :: q :: r, _, hn =>
    refine ⟨p, by simp, q, by simp, fun e => ?_⟩
    simp [e] at hn
theorem one_of {α : Type} {l : List α} (h : ¬ 1 < l.length) {p q : α} (hp : p ∈ l) (hq : q ∈ l) : p = q := by
  match l, h, hp, hq with
  | [x], _, hp, hq => simp at hp hq; rw [hp, hq]
  | x :: y :: r, h, _, _ => simp at h
def wo (s v : Nat) : Nat := andN s (bit v)
theorem wo_bit {s v i : Nat} (hs : s < 4294967296) (hv : v < 32) : (wo s v).testBit i = true ↔ s.testBit i = true ∧ i ≠ v := by
  unfold wo
  rw [testBit_andN hs (bit_lt hv), testBit_bit]
  simp only [Bool.and_eq_true, Bool.not_eq_true', decide_eq_false_iff_not]
  exact ⟨fun h => ⟨h.1, fun e => h.2 e.symm⟩, fun h => ⟨h.1, fun e => h.2 e.symm⟩⟩
theorem wo_lt {s v : Nat} (hs : s < 4294967296) : wo s v < 4294967296 := Nat.lt_of_le_of_lt (andN_le _ _) hs
/-- All of s hangs together. -/
def ConnS (a : List Nat) (s : Nat) : Prop := ∀ x y, s.testBit x = true → s.testBit y = true → (reachN a s x).testBit y = true
/-- No vertex of s parts it. -/
def NoCut (a : List Nat) (s : Nat) : Prop := ∀ v x y, s.testBit v = true → (wo s v).testBit x = true → (wo s v).testBit y = true → (reachN a (wo s v) x).testBit y = true
theorem conn_parts {a : List Nat} {s : Nat} (hs : s < 4294967296) (h0 : s ≠ 0) (hsy : SymA a) (h : ConnS a s) : (partsN a s).length = 1 := by
  rw [parts_one hs h0]
  have hc := ctz_bit h0 hs
  apply nat_ext
  intro i
  rw [Bool.eq_iff_iff]
  exact ⟨reach_sub hs hc, fun hi => h _ i hc hi⟩
theorem cutB_iff {a : List Nat} {s v : Nat} (hs : s < 4294967296) (hsy : SymA a) (h : ConnS a s) (hv : s.testBit v = true) : decide ((partsN a s).length < (partsN a (wo s v)).length) = true ↔ ∃ x y, (wo s v).testBit x = true ∧ (wo s v).testBit y = true ∧ (reachN a (wo s v) x).testBit y = false := by
  have h0 : s ≠ 0 := fun e => by rw [e, Nat.zero_testBit] at hv; cases hv
  have hv32 := bit_lt_of (n := 32) hs hv
  have hw := wo_lt (v := v) hs
  rw [decide_eq_true_eq, conn_parts hs h0 hsy h]
  obtain ⟨f1, f2, f3⟩ := parts_facts hw (hsy.on (wo s v))
  constructor
  · intro h1
    obtain ⟨p, hp, q, hq, hne⟩ := nodup_two h1 f3
    obtain ⟨x, hx, rfl⟩ := f1 p hp
    obtain ⟨y, hy, rfl⟩ := f1 q hq
    refine ⟨x, y, hx, hy, ?_⟩
    cases hr : (reachN a (wo s v) x).testBit y with
    | false => rfl
    | true => exact absurd (reach_eq hw (hsy.on _) hx hr).symm hne
  · rintro ⟨x, y, hx, hy, hr⟩
    apply Classical.byContradiction
    intro h1
    have := one_of h1 (f2 x hx) (f2 y hy)
    rw [this, reach_start hw (bit_lt_of (n := 32) hw hy)] at hr
    cases hr
/-- No way from outside of B, over a neighbour of one of its vertices, comes back to B without that vertex. -/
def QB (a : List Nat) (U B : Nat) : Prop := ∀ t w, B.testBit t = true → U.testBit w = true → B.testBit w = false → (a.getD t 0).testBit w = true → ∀ y, B.testBit y = true → (reachN a (wo U t) w).testBit y = false
theorem or_bit {p v i : Nat} : (p ||| bit v).testBit i = true ↔ p.testBit i = true ∨ i = v := by
  rw [Nat.testBit_or, testBit_bit, Bool.or_eq_true, decide_eq_true_eq]
  exact ⟨fun h => h.imp_right Eq.symm, fun h => h.imp_right Eq.symm⟩
theorem QB.part {a : List Nat} {U s v r : Nat} (hU : U < 4294967296) (hs : s < 4294967296) (hsU : ∀ i, s.testBit i = true → U.testBit i = true) (hsy : SymA a) (h : QB a U s) (hv : s.testBit v = true) (hr : (wo s v).testBit r = true) : QB a U (reachN a (wo s v) r ||| bit v) := by
  have hv32 := bit_lt_of (n := 32) hs hv
  have hw := wo_lt (v := v) hs
  have hr32 := bit_lt_of (n := 32) hw hr
  have hPs : ∀ i, (reachN a (wo s v) r).testBit i = true → s.testBit i = true ∧ i ≠ v := fun i hi => (wo_bit hs hv32).1 (reach_sub hw hr hi)
  have hBs : ∀ i, (reachN a (wo s v) r ||| bit v).testBit i = true → s.testBit i = true := fun i hi => by
    rcases or_bit.1 hi with hi | rfl
    · exact (hPs i hi).1
    · exact hv
  intro t w ht hwU hwB he y hy
  have hw32 := bit_lt_of (n := 32) hU hwU
  have hts := hBs t ht
  have ht32 := bit_lt_of (n := 32) hs hts
  have hUt := wo_lt (v := t) hU
  have hys := hBs y hy
  cases hws : s.testBit w with
  | false => exact h t w hts hwU hws he y hys
  | true =>
    have hwv : w ≠ v := fun e => by rw [or_bit.2 (.inr e)] at hwB; cases hwB
    have hwP : (reachN a (wo s v) r).testBit w = false := by
      cases hc : (reachN a (wo s v) r).testBit w with
      | false => rfl
      | true => rw [or_bit.2 (.inl hc)] at hwB; cases hwB
    have hww : (wo s v).testBit w = true := (wo_bit hs hv32).2 ⟨hws, hwv⟩
    have htv : t = v := by
      rcases or_bit.1 ht with ht | ht
      · have := reach_closed hw hr32 t ht w hww he
        rw [this] at hwP; cases hwP
      · exact ht
    subst htv
    cases hc : (reachN a (wo U t) w).testBit y with
    | false => rfl
    | true =>
      exfalso
      have hP : (reachN a (wo s t) w).testBit y = true ∨ (s.testBit y = false ∧ ∃ t' w', (reachN a (wo s t) w).testBit t' = true ∧ U.testBit w' = true ∧ s.testBit w' = false ∧ (a.getD t' 0).testBit w' = true ∧ (reachN a (wo U t') w').testBit y = true) := by
        refine reach_ind (P := fun y => (reachN a (wo s t) w).testBit y = true ∨ (s.testBit y = false ∧ ∃ t' w', (reachN a (wo s t) w).testBit t' = true ∧ U.testBit w' = true ∧ s.testBit w' = false ∧ (a.getD t' 0).testBit w' = true ∧ (reachN a (wo U t') w').testBit y = true)) hUt hw32 (.inl (reach_start hw hw32)) (fun x u hxr hx hu hxu => ?_) hc
        have hu2 := (wo_bit hU ht32).1 hu
        have hu32 := bit_lt_of (n := 32) hU hu2.1
        rcases hx with hx | ⟨hxs, t', w', h1, h2, h3, h4, h5⟩
        · cases hus : s.testBit u with
          | true => exact .inl (reach_closed hw hw32 x hx u ((wo_bit hs ht32).2 ⟨hus, hu2.2⟩) hxu)
          | false =>
            have hxs := (wo_bit hs ht32).1 (reach_sub hw hww hx)
            exact .inr ⟨rfl, x, u, hx, hu2.1, hus, hxu, reach_start (wo_lt hU) hu32⟩
        · have ht's := (wo_bit hs ht32).1 (reach_sub hw hww h1)
          have ht'32 := bit_lt_of (n := 32) hs ht's.1
          have hw'32 := bit_lt_of (n := 32) hU h2
          cases hus : s.testBit u with
          | true =>
            by_cases e : u = t'
            · exact .inl (by rw [e]; exact h1)
            · have := reach_closed (wo_lt (v := t') hU) hw'32 x h5 u ((wo_bit hU ht'32).2 ⟨hu2.1, e⟩) hxu
              rw [h t' w' ht's.1 h2 h3 h4 u hus] at this; cases this
          | false =>
            refine .inr ⟨rfl, t', w', h1, h2, h3, h4, reach_closed (wo_lt (v := t') hU) hw'32 x h5 u ((wo_bit hU ht'32).2 ⟨hu2.1, fun e => ?_⟩) hxu⟩
            rw [e, ht's.1] at hus; cases hus
      rcases hP with hP | ⟨hP, _⟩
      · have hyt := ((wo_bit hs ht32).1 (reach_sub hw hww hP)).2
        rcases or_bit.1 hy with hy | hy
        · have e1 := reach_eq hw (hsy.on _) hr hy
          have e2 := reach_eq hw (hsy.on _) hww hP
          rw [← e1, e2, reach_start hw hw32] at hwP; cases hwP
        · exact hyt hy
      · rw [hys] at hP; cases hP
/-- The vertices that part a set, as a word. -/
noncomputable def cutsN (a : List Nat) (s : Nat) : Nat := maskL ((bitsI s).filter fun v => decide ((partsN a s).length < (partsN a (wo s v.toNat)).length))
theorem cutsN_bit {a : List Nat} {s v : Nat} (hs : s < 4294967296) : (cutsN a s).testBit v = true ↔ s.testBit v = true ∧ decide ((partsN a s).length < (partsN a (wo s v)).length) = true := by
  unfold cutsN
  rw [testBit_maskL (fun x hx => ((mem_bitsI hs).1 (List.mem_filter.1 hx).1).1), decide_eq_true_eq, List.mem_filter, mem_bitsI hs]
  simp only [Int.toNat_natCast]
  exact ⟨fun h => ⟨h.1.2, h.2⟩, fun h => ⟨⟨by omega, h.1⟩, h.2⟩⟩
theorem cutsN_lt {a : List Nat} {s : Nat} (hs : s < 4294967296) : cutsN a s < 4294967296 := maskL_lt32 fun x hx => by
  have h := (mem_bitsI hs).1 (List.mem_filter.1 hx).1
  have := bit_lt_of (n := 32) hs h.2
  omega
/-- The blocks of a set, as the program parts it. -/
noncomputable def blkF (a : List Nat) : Nat → Nat → List Nat
  | 0, _ => []
  | n + 1, s => if cutsN a s = 0 then [s] else (partsN a (wo s (Lib.ctz 32 (cutsN a s)))).flatMap fun p => blkF a n (p ||| bit (Lib.ctz 32 (cutsN a s)))
def Two (B : Nat) : Prop := ∃ x y, B.testBit x = true ∧ B.testBit y = true ∧ x ≠ y
/-- A block of the whole U. -/
structure BlkP (a : List Nat) (U B : Nat) : Prop where
  ne : B ≠ 0
  sub : ∀ i, B.testBit i = true → U.testBit i = true
  conn : ConnS a B
  nocut : NoCut a B
  out : QB a U B
theorem no_cuts {a : List Nat} {s : Nat} (hs : s < 4294967296) (hsy : SymA a) (hc : ConnS a s) (h : cutsN a s = 0) : NoCut a s := fun v x y hv hx hy => by
  cases hr : (reachN a (wo s v) x).testBit y with
  | true => rfl
  | false =>
    have := (cutsN_bit (a := a) hs).2 ⟨hv, (cutB_iff hs hsy hc hv).2 ⟨x, y, hx, hy, hr⟩⟩
    rw [h, Nat.zero_testBit] at this; cases this
/-- A part with the vertex that parts. -/
theorem part_conn {a : List Nat} {s v r : Nat} (hs : s < 4294967296) (hsy : SymA a) (hc : ConnS a s) (hv : s.testBit v = true) (hr : (wo s v).testBit r = true) : ConnS a (reachN a (wo s v) r ||| bit v) := by
  have hv32 := bit_lt_of (n := 32) hs hv
  have hw := wo_lt (v := v) hs
  have hr32 := bit_lt_of (n := 32) hw hr
  have hrs := (wo_bit hs hv32).1 hr
  have hP : reachN a (wo s v) r < 4294967296 := reachN_lt _ _ _
  have hB : reachN a (wo s v) r ||| bit v < 4294967296 := Nat.or_lt_two_pow (n := 32) hP (bit_lt hv32)
  have hrB : (reachN a (wo s v) r ||| bit v).testBit r = true := or_bit.2 (.inl (reach_start hw hr32))
  -- the part is reached from r
  have h1 : ∀ y, (reachN a (wo s v) r).testBit y = true → (reachN a (reachN a (wo s v) r ||| bit v) r).testBit y = true := fun y hy =>
    reach_ind hw hr32 (P := fun y => (reachN a (reachN a (wo s v) r ||| bit v) r).testBit y = true) (reach_start hB hr32) (fun x u hx hxx hu he => reach_closed hB hr32 x hxx u (or_bit.2 (.inl (reach_closed hw hr32 x hx u hu he))) he) hy
  have h2 : (reachN a (reachN a (wo s v) r ||| bit v) r).testBit v = true := by
    apply Classical.byContradiction
    intro hno
    have hP2 : (reachN a (wo s v) r).testBit v = true := reach_ind hs hr32 (P := fun y => (reachN a (wo s v) r).testBit y = true) (reach_start hw hr32) (fun x u _ hx hu he => by
      by_cases e : u = v
      · subst e
        exact absurd (reach_closed hB hr32 x (h1 x hx) u (or_bit.2 (.inr rfl)) he) hno
      · exact reach_closed hw hr32 x hx u ((wo_bit hs hv32).2 ⟨hu, e⟩) he) (hc r v hrs.1 hv)
    exact ((wo_bit hs hv32).1 (reach_sub hw hr hP2)).2 rfl
  intro x y hx hy
  have h3 : ∀ z, (reachN a (wo s v) r ||| bit v).testBit z = true → (reachN a (reachN a (wo s v) r ||| bit v) r).testBit z = true := fun z hz => by
    rcases or_bit.1 hz with hz | rfl
    · exact h1 z hz
    · exact h2
  rw [reach_eq hB (hsy.on _) hrB (h3 x hx)]
  exact h3 y hy
theorem part_less {a : List Nat} {s v r : Nat} (hs : s < 4294967296) (hsy : SymA a) (hv : s.testBit v = true) (hr : (wo s v).testBit r = true) {x y : Nat} (hx : (wo s v).testBit x = true) (hy : (wo s v).testBit y = true) (hn : (reachN a (wo s v) x).testBit y = false) : popN (reachN a (wo s v) r ||| bit v) < popN s := by
  have hv32 := bit_lt_of (n := 32) hs hv
  have hw := wo_lt (v := v) hs
  have hsub : ∀ i, (reachN a (wo s v) r ||| bit v).testBit i = true → s.testBit i = true := fun i hi => by
    rcases or_bit.1 hi with hi | rfl
    · exact ((wo_bit hs hv32).1 (reach_sub hw hr hi)).1
    · exact hv
  have hout : ∀ z, (wo s v).testBit z = true → (reachN a (wo s v) r).testBit z = false → (reachN a (wo s v) r ||| bit v).testBit z = false := fun z hz h => by
    cases hc : (reachN a (wo s v) r ||| bit v).testBit z with
    | false => rfl
    | true =>
      rcases or_bit.1 hc with hc | rfl
      · rw [hc] at h; cases h
      · exact absurd rfl ((wo_bit hs hv32).1 hz).2
  cases hrx : (reachN a (wo s v) r).testBit x with
  | false => exact popN_lt hs hsub ((wo_bit hs hv32).1 hx).1 (hout x hx hrx)
  | true =>
    cases hry : (reachN a (wo s v) r).testBit y with
    | false => exact popN_lt hs hsub ((wo_bit hs hv32).1 hy).1 (hout y hy hry)
    | true =>
      rw [reach_eq hw (hsy.on _) hr hrx, hry] at hn; cases hn
theorem blk_all {a : List Nat} {U : Nat} (hU : U < 4294967296) (hsy : SymA a) : ∀ n s, popN s < n → s ≠ 0 → (∀ i, s.testBit i = true → U.testBit i = true) → ConnS a s → QB a U s →
    (∀ B ∈ blkF a n s, BlkP a U B ∧ (∀ i, B.testBit i = true → s.testBit i = true) ∧ (Two s → Two B)) ∧ (∀ x y, s.testBit x = true → s.testBit y = true → (a.getD x 0).testBit y = true → ∃ B ∈ blkF a n s, B.testBit x = true ∧ B.testBit y = true) ∧ (blkF a n s).Nodup ∧ ((¬ Two s) → blkF a n s = [s])
  | 0, s, hn, _, _, _, _ => by omega
  | n + 1, s, hn, h0, hsU, hc, hq => by
    have hs : s < 4294967296 := by
      apply Classical.byContradiction
      intro h
      have : ∃ i, 32 ≤ i ∧ s.testBit i = true := Nat.exists_ge_and_testBit_of_ge_two_pow (n := 32) (by omega)
      obtain ⟨i, h1, h2⟩ := this
      have := bit_lt_of (n := 32) hU (hsU i h2)
      omega
    by_cases hz : cutsN a s = 0
    · have e : blkF a (n + 1) s = [s] := by rw [blkF, if_pos hz]
      rw [e]
      exact ⟨fun B hB => by rw [List.mem_singleton] at hB; subst hB; exact ⟨⟨h0, hsU, hc, no_cuts hs hsy hc hz, hq⟩, fun i hi => hi, fun h => h⟩, fun x y hx hy _ => ⟨s, by simp, hx, hy⟩, by simp, fun _ => rfl⟩
    · have e : blkF a (n + 1) s = (partsN a (wo s (Lib.ctz 32 (cutsN a s)))).flatMap fun p => blkF a n (p ||| bit (Lib.ctz 32 (cutsN a s))) := by rw [blkF, if_neg hz]
      rw [e]
      have hvb := ctz_bit hz (cutsN_lt hs)
      generalize Lib.ctz 32 (cutsN a s) = v at *
      obtain ⟨hv, hcut⟩ := (cutsN_bit hs).1 hvb
      obtain ⟨x0, y0, hx0, hy0, hn0⟩ := (cutB_iff hs hsy hc hv).1 hcut
      have hv32 := bit_lt_of (n := 32) hs hv
      have hw := wo_lt (v := v) hs
      obtain ⟨f1, f2, f3⟩ := parts_facts hw (hsy.on (wo s v))
      have ih : ∀ r, (wo s v).testBit r = true → _ := fun r hr => blk_all hU hsy n (reachN a (wo s v) r ||| bit v) (by have := part_less hs hsy hv hr hx0 hy0 hn0; omega) (fun e => by have := or_bit (p := reachN a (wo s v) r) (v := v) (i := v); rw [e, Nat.zero_testBit] at this; simp at this) (fun i hi => by
        rcases or_bit.1 hi with hi | rfl
        · exact hsU i ((wo_bit hs hv32).1 (reach_sub hw hr hi)).1
        · exact hsU _ hv) (part_conn hs hsy hc hv hr) (hq.part hU hs hsU hsy hv hr)
      have hTwo : ∀ r, (wo s v).testBit r = true → Two (reachN a (wo s v) r ||| bit v) := fun r hr => ⟨r, v, or_bit.2 (.inl (reach_start hw (bit_lt_of (n := 32) hw hr))), or_bit.2 (.inr rfl), ((wo_bit hs hv32).1 hr).2⟩
      have hsub : ∀ r, (wo s v).testBit r = true → ∀ i, (reachN a (wo s v) r ||| bit v).testBit i = true → s.testBit i = true := fun r hr i hi => by
        rcases or_bit.1 hi with hi | rfl
        · exact ((wo_bit hs hv32).1 (reach_sub hw hr hi)).1
        · exact hv
      refine ⟨fun B hB => ?_, fun x y hx hy he => ?_, ?_, fun h => ?_⟩
      · obtain ⟨p, hp, hB⟩ := List.mem_flatMap.1 hB
        obtain ⟨r, hr, rfl⟩ := f1 p hp
        obtain ⟨g1, g2, g3⟩ := (ih r hr).1 B hB
        exact ⟨g1, fun i hi => hsub r hr i (g2 i hi), fun _ => g3 (hTwo r hr)⟩
      · have key : ∀ r, (wo s v).testBit r = true → (reachN a (wo s v) r ||| bit v).testBit x = true → (reachN a (wo s v) r ||| bit v).testBit y = true → ∃ B ∈ (partsN a (wo s v)).flatMap (fun p => blkF a n (p ||| bit v)), B.testBit x = true ∧ B.testBit y = true := fun r hr h1 h2 => by
          obtain ⟨B, hB, g⟩ := (ih r hr).2.1 x y h1 h2 he
          exact ⟨B, List.mem_flatMap.2 ⟨_, f2 r hr, hB⟩, g⟩
        by_cases ex : x = v
        · by_cases ey : y = v
          · exact key x0 hx0 (or_bit.2 (.inr ex)) (or_bit.2 (.inr ey))
          · have hyw := (wo_bit hs hv32).2 ⟨hy, ey⟩
            exact key y hyw (or_bit.2 (.inr ex)) (or_bit.2 (.inl (reach_start hw (bit_lt_of (n := 32) hw hyw))))
        · have hxw := (wo_bit hs hv32).2 ⟨hx, ex⟩
          have hx32 := bit_lt_of (n := 32) hw hxw
          refine key x hxw (or_bit.2 (.inl (reach_start hw hx32))) ?_
          by_cases ey : y = v
          · exact or_bit.2 (.inr ey)
          · exact or_bit.2 (.inl (reach_closed hw hx32 x (reach_start hw hx32) y ((wo_bit hs hv32).2 ⟨hy, ey⟩) he))
      · unfold List.Nodup
        rw [List.pairwise_flatMap]
        refine ⟨fun p hp => ?_, List.Pairwise.imp_of_mem (fun {p q} hp hq hne => ?_) f3⟩
        · obtain ⟨r, hr, rfl⟩ := f1 p hp
          exact (ih r hr).2.2.1
        · obtain ⟨r, hr, rfl⟩ := f1 p hp
          obtain ⟨r', hr', rfl⟩ := f1 q hq
          intro B hB B' hB' hBB
          subst hBB
          obtain ⟨g1, g2, g3⟩ := (ih r hr).1 B hB
          obtain ⟨k1, k2, k3⟩ := (ih r' hr').1 B hB'
          obtain ⟨x, y, hx, hy, hxy⟩ := g3 (hTwo r hr)
          have : ∃ z, B.testBit z = true ∧ z ≠ v := by
            by_cases e : x = v
            · exact ⟨y, hy, fun e2 => hxy (e.trans e2.symm)⟩
            · exact ⟨x, hx, e⟩
          obtain ⟨z, hz, hzv⟩ := this
          rcases or_bit.1 (g2 z hz) with h1 | h1
          · rcases or_bit.1 (k2 z hz) with h2 | h2
            · exact hne ((reach_eq hw (hsy.on _) hr h1).symm.trans (reach_eq hw (hsy.on _) hr' h2))
            · exact hzv h2
          · exact hzv h1
      · exfalso
        refine h ⟨x0, v, ((wo_bit hs hv32).1 hx0).1, hv, ((wo_bit hs hv32).1 hx0).2⟩
end Go.Proofs.YtmcaccacdbcnmaaDoor
