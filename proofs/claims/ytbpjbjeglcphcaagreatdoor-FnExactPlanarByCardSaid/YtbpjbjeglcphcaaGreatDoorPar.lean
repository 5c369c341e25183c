/- Twice the genus is even; PlanarBy of both; the law. -/
import Derived.Test.YtbpjbjeglcphcaaGreatDoorGenC
import Derived.Test.YtbpjbjeglcphcaaGreatDoorCyc
import Derived.Test.YtbpjbjeglcphcaaGreatDoorReaE
namespace Go.Proofs.YtbpjbjeglcphcaaGreatDoor
open Go.RowKit
theorem pop_splitP {s r : Nat} (hs : s < 4294967296) (hr : r < 4294967296) (h : ∀ i, r.testBit i = true → s.testBit i = true) : popN s = popN r + popN (andN s r) := by
  have hA := Nat.lt_of_le_of_lt (andN_le s r) hs
  have hnd : ∀ m, (bitsN m).Nodup := fun m => (bitsN_sorted m).imp fun h => by omega
  have hcat : (bitsN r ++ bitsN (andN s r)).Nodup := by
    rw [List.nodup_append]
    refine ⟨hnd _, hnd _, fun a ha b hb e => ?_⟩
    subst e
    have h1 := (mem_bitsN hr).1 ha
    have h2 := (mem_bitsN hA).1 hb
    rw [testBit_andN hs hr, h1] at h2
    simp at h2
  have e1 := nodup_lenA hcat (E := bitsN s) (fun x hx => by
    rcases List.mem_append.1 hx with hx | hx
    · exact (mem_bitsN hs).2 (h x ((mem_bitsN hr).1 hx))
    · have := (mem_bitsN hA).1 hx
      rw [testBit_andN hs hr, Bool.and_eq_true] at this
      exact (mem_bitsN hs).2 this.1)
  have e2 := nodup_lenA (hnd s) (E := bitsN r ++ bitsN (andN s r)) (fun x hx => by
    have hx := (mem_bitsN hs).1 hx
    rw [List.mem_append]
    cases hb : r.testBit x
    · exact .inr ((mem_bitsN hA).2 (by rw [testBit_andN hs hr, hx, hb]; rfl))
    · exact .inl ((mem_bitsN hr).2 hb))
  rw [List.length_append] at e1 e2
  unfold popN
  omega
/-- The vertices with neighbours. -/
def fullQ (t : List (List Nat)) : Nat := maskN ((List.range t.length).filter fun v => decide (t.getD v [] ≠ []))
theorem testBit_fullQ {t : List (List Nat)} {v : Nat} : (fullQ t).testBit v = true ↔ v < t.length ∧ t.getD v [] ≠ [] := by
  unfold fullQ
  rw [testBit_maskN, decide_eq_true_eq, List.mem_filter, List.mem_range, decide_eq_true_eq]
theorem nextL_bit {t : List (List Nat)} (h : RotN t) {u v : Nat} : ((nextL t).getD u 0).testBit v = true ↔ v ∈ t.getD u [] := by
  by_cases hu : u < t.length
  · have e : (nextL t).getD u 0 = maskL (natsI (t.getD u [])) := by simp [nextL, hu]
    rw [e, testBit_maskL (fun x hx => (natsI_range h u x hx).1), decide_eq_true_eq]
    unfold natsI
    rw [List.mem_map]
    constructor
    · rintro ⟨w, hw, e⟩
      have : w = v := by omega
      subst this; exact hw
    · intro hv; exact ⟨v, hv, rfl⟩
  · have e : (nextL t).getD u 0 = 0 := by simp [nextL, show t.length ≤ u by omega]
    have e2 : t.getD u [] = [] := by simp [show t.length ≤ u by omega]
    rw [e, e2, Nat.zero_testBit]; simp
theorem pop_one_all {m c : Nat} (hm : m < 4294967296) (hc : m.testBit c = true) (h : ¬ 1 < popN m) {x : Nat} (hx : m.testBit x = true) : x = c := by
  apply Classical.byContradiction
  intro hne
  have hnd : [c, x].Nodup := by simp; exact fun e => hne e.symm
  have := nodup_lenA hnd (E := bitsN m) (fun y hy => by
    rcases List.mem_cons.1 hy with rfl | hy
    · exact (mem_bitsN hm).2 hc
    · simp at hy; subst hy; exact (mem_bitsN hm).2 hx)
  unfold popN at h
  simp at this; omega
theorem pop_two {m c x : Nat} (hm : m < 4294967296) (hc : m.testBit c = true) (hx : m.testBit x = true) (hne : x ≠ c) : 1 < popN m :=
  Classical.byContradiction fun h => hne (pop_one_all hm hc h hx)
theorem partV_full {t : List (List Nat)} (h : RotN t) (hir : ∀ u, u ∉ t.getD u []) : ∀ k wi, wi < k → wi < 2 ^ t.length → (∀ v u, wi.testBit v = true → u ∈ t.getD v [] → wi.testBit u = true) → partV (nextL t) wi = popN (wi &&& fullQ t)
  | 0, _, hk, _, _ => by omega
  | k + 1, wi, hk, hwn, hcl => by
    have hw : wi < 4294967296 := Nat.lt_trans hwn (pow16_lt h.le)
    by_cases h0 : wi = 0
    · subst h0
      rw [(part_zero _).2, Nat.zero_and]
      exact ((popN_zero (by omega)).2 rfl).symm
    have hs : SymN (nextL t) wi := fun x y _ _ hb => (nextL_bit h).2 (h.sym _ _ ((nextL_bit h).1 hb)).2
    have hc := ctz_bit h0 hw
    have hc32 := bit_lt_of (n := 32) hw hc
    rw [(part_step hw h0).2]
    have hless := parts_less (a := nextL t) hw h0
    have hstart := reach_start (a := nextL t) hw hc32
    have hsub := fun i (hi : (reachN (nextL t) wi (Lib.ctz 32 wi)).testBit i = true) => reach_sub hw hc hi
    have hclo := reach_closed (a := nextL t) hw hc32
    have heq := fun x (hx : (reachN (nextL t) wi (Lib.ctz 32 wi)).testBit x = true) => reach_eq hw hs hc hx
    have hP := reachN_lt (nextL t) wi (Lib.ctz 32 wi)
    generalize Lib.ctz 32 wi = c at *
    generalize hPe : reachN (nextL t) wi c = P at *
    have hA := Nat.lt_of_le_of_lt (andN_le wi P) hw
    have ih := partV_full h hir k (andN wi P) (by omega) (Nat.lt_of_le_of_lt (andN_le wi P) hwn) (fun v u hv hu => by
      rw [testBit_andN hw hP, Bool.and_eq_true] at hv ⊢
      refine ⟨hcl v u hv.1 hu, ?_⟩
      cases hb : P.testBit u
      · rfl
      · have := hclo u hb v hv.1 ((nextL_bit h).2 (h.sym v u hu).2)
        rw [this] at hv; simp at hv)
    rw [ih]
    have hF : ∀ m : Nat, m < 4294967296 → m &&& fullQ t < 4294967296 := fun m hm => Nat.lt_of_le_of_lt Nat.and_le_left hm
    have hsplit := pop_splitP (s := wi &&& fullQ t) (r := P &&& fullQ t) (hF _ hw) (hF _ hP) (fun i hi => by
      rw [Nat.testBit_and, Bool.and_eq_true] at hi ⊢
      exact ⟨hsub i hi.1, hi.2⟩)
    have e : andN (wi &&& fullQ t) (P &&& fullQ t) = andN wi P &&& fullQ t := by
      apply nat_ext
      intro i
      rw [testBit_andN (hF _ hw) (hF _ hP), Nat.testBit_and, Nat.testBit_and, Nat.testBit_and, testBit_andN hw hP]
      cases wi.testBit i <;> cases P.testBit i <;> cases (fullQ t).testBit i <;> rfl
    rw [e] at hsplit
    rw [hsplit]
    congr 1
    have hcn : c < t.length := bit_lt_of hwn hc
    by_cases hp : 1 < popN P
    · rw [if_pos hp]
      congr 1
      apply nat_ext
      intro i
      rw [Nat.testBit_and]
      cases hi : P.testBit i
      · rfl
      · rw [Bool.true_and]
        symm
        refine testBit_fullQ.2 ⟨bit_lt_of hwn (hsub i hi), fun he => ?_⟩
        have hone : ClosedN (nextL t) wi (bit i) := fun x hx u _ hb => by
          rw [testBit_bit, decide_eq_true_eq] at hx
          subst hx
          have := (nextL_bit h).1 hb
          rw [he] at this; simp at this
        have hi32 := bit_lt_of (n := 32) hP hi
        have hall : ∀ y, P.testBit y = true → y = i := fun y hy => by
          rw [← heq i hi] at hy
          have := reach_least hw hi32 hone (by rw [testBit_bit, decide_eq_true_eq]) hy
          rw [testBit_bit, decide_eq_true_eq] at this
          exact this.symm
        have hl := nodup_lenA (l := bitsN P) (E := [i]) ((bitsN_sorted P).imp fun h => by omega) (fun y hy => by rw [hall y ((mem_bitsN hP).1 hy)]; simp)
        unfold popN at hp
        simp at hl; omega
    · rw [if_neg hp]
      have hz : P &&& fullQ t = 0 := by
        apply nat_ext
        intro i
        rw [Nat.testBit_and, Nat.zero_testBit]
        cases hi : P.testBit i
        · rfl
        · rw [Bool.true_and]
          cases hq : (fullQ t).testBit i
          · rfl
          · exfalso
            obtain ⟨h1, h2⟩ := testBit_fullQ.1 hq
            obtain ⟨u, hu⟩ := List.exists_mem_of_ne_nil _ h2
            have hu2 := hclo i hi u (hcl i u (hsub i hi) hu) ((nextL_bit h).2 hu)
            exact hir i (by
              have := pop_one_all hP hi hp hu2
              rw [this] at hu; exact hu)
      rw [hz]
      exact ((popN_zero (by omega)).2 rfl).symm
/-- The turns as a permutation of sides. -/
def turnD (t : List (List Nat)) (x : Dart) : Dart := (x.1, nextIn (t.getD x.1 []) x.2)
theorem succ_turn (t : List (List Nat)) (x : Dart) : succD t x = turnD t (revD x) := rfl
theorem turn_permP {t : List (List Nat)} (h : RotN t) : PermF (dartsN t) (turnD t) := by
  refine ⟨fun x hx => ?_, fun x y hx hy e => ?_⟩
  · rw [mem_dartsN h] at hx ⊢
    exact nextIn_mem hx
  · rw [mem_dartsN h] at hx hy
    obtain ⟨x1, x2⟩ := x
    obtain ⟨y1, y2⟩ := y
    simp only [turnD, Prod.mk.injEq] at e
    obtain ⟨rfl, e⟩ := e
    exact congrArg (x1, ·) (nextIn_inj (h.nd _) hx hy e)
theorem succ_perm {t : List (List Nat)} (h : RotN t) : PermF (dartsN t) (succD t) :=
  ⟨fun x hx => (mem_dartsN h).2 (succ_isD h ((mem_dartsN h).1 hx)), fun x y hx hy e => succ_inj h ((mem_dartsN h).1 hx) ((mem_dartsN h).1 hy) e⟩
theorem itD_itF (t : List (List Nat)) : ∀ (k : Nat) (x : Dart), itD t k x = itF (succD t) k x
  | 0, _ => rfl
  | k + 1, x => by rw [itD, itF, itD_itF t k]
theorem leads_iff {t : List (List Nat)} {x y : Dart} : Leads t x y ↔ LeadF (succD t) x y := by
  unfold Leads LeadF
  simp only [itD_itF]
/-- The faces are the cycles. -/
theorem cyc_faces {t : List (List Nat)} (h : RotN t) : cycF (dartsN t) (succD t) = (facesN t).length := by
  obtain ⟨S, hS, e⟩ := faces_reps h
  rw [← e]
  refine cyc_eq (succ_perm h) ⟨fun s hs => (mem_dartsN h).2 (hS.all s hs), hS.apart.imp fun hn hc => hn (leads_iff.2 hc), fun y hy => ?_⟩
  obtain ⟨s, hs, hl⟩ := hS.cover y ((mem_dartsN h).1 hy)
  exact ⟨s, hs, leads_iff.1 hl⟩
theorem turn_it {t : List (List Nat)} (h : RotN t) {u : Nat} : ∀ (j : Nat) (hj : j < (t.getD u []).length) (h0 : 0 < (t.getD u []).length), itF (turnD t) j (u, (t.getD u [])[0]) = (u, (t.getD u [])[j])
  | 0, _, _ => rfl
  | j + 1, hj, h0 => by
    rw [itF_succ, turn_it h j (by omega) h0]
    simp only [turnD, Prod.mk.injEq, true_and]
    rw [nextIn_at (h.nd u) (show j < (t.getD u []).length by omega), Nat.mod_eq_of_lt hj, List.getD_eq_getElem?_getD, List.getElem?_eq_getElem hj]
    rfl
theorem cyc_turn {t : List (List Nat)} (h : RotN t) : cycF (dartsN t) (turnD t) = popN (fullQ t) := by
  have hfix : ∀ {x y : Dart}, LeadF (turnD t) x y → y.1 = x.1 := fun {x y} hl => LeadF.closed (f := turnD t) (C := fun z : Dart => z.1 = x.1) (fun z hz => hz) rfl hl
  have hlt : fullQ t < 4294967296 := by
    have : fullQ t < 2 ^ t.length := lt_bits fun i hi => (testBit_fullQ.1 hi).1
    exact Nat.lt_trans this (pow16_lt h.le)
  have hS : RepF (dartsN t) (turnD t) ((bitsN (fullQ t)).map fun u => (u, (t.getD u []).headD 0)) := by
    refine ⟨fun s hs => ?_, ?_, fun y hy => ?_⟩
    · obtain ⟨u, hu, rfl⟩ := List.mem_map.1 hs
      have := (testBit_fullQ.1 ((mem_bitsN hlt).1 hu)).2
      refine (mem_dartsN h).2 ?_
      show (t.getD u []).headD 0 ∈ t.getD u []
      generalize t.getD u [] = l at *
      cases l with
      | nil => exact absurd rfl this
      | cons a l => simp
    · rw [List.pairwise_map]
      refine (bitsN_sorted _).imp fun hlt hc => ?_
      have := hfix hc
      simp only at this
      omega
    · have hD : y.2 ∈ t.getD y.1 [] := (mem_dartsN h).1 hy
      have hy1 := h.lt hD
      have hne : t.getD y.1 [] ≠ [] := List.ne_nil_of_mem hD
      refine ⟨_, List.mem_map.2 ⟨y.1, (mem_bitsN hlt).2 (testBit_fullQ.2 ⟨hy1, hne⟩), rfl⟩, ?_⟩
      obtain ⟨j, hj, e⟩ := List.getElem_of_mem hD
      have h0 : 0 < (t.getD y.1 []).length := by omega
      refine ⟨j, ?_⟩
      have e0 : (t.getD y.1 []).headD 0 = (t.getD y.1 [])[0] := by
        generalize t.getD y.1 [] = l at *
        cases l with
        | nil => simp at h0
        | cons a l => rfl
      rw [e0, turn_it h j hj h0, e]
  rw [cyc_eq (turn_permP h) hS, List.length_map]
  rfl
/-- Turned round along some edges. -/
def somR (t : List (List Nat)) (L : List Dart) (x : Dart) : Dart := if x ∈ L ∨ revD x ∈ L then turnD t (revD x) else turnD t x
theorem revD_revD (x : Dart) : revD (revD x) = x := rfl
theorem som_cons (t : List (List Nat)) {e : Dart} {L : List Dart} (h1 : e ∉ L) (h2 : revD e ∉ L) : somR t (e :: L) = swapF e (revD e) (somR t L) := by
  funext x
  unfold swapF
  by_cases hx : x = e
  · subst hx
    rw [if_pos rfl]
    unfold somR
    rw [if_pos (.inl (by simp)), if_neg (by rw [revD_revD]; exact fun hc => hc.elim h2 h1)]
  · rw [if_neg hx]
    by_cases hx2 : x = revD e
    · subst hx2
      rw [if_pos rfl]
      unfold somR
      rw [if_pos (.inr (by rw [revD_revD]; simp)), if_neg (fun hc => hc.elim h1 h2), revD_revD]
    · rw [if_neg hx2]
      have hx3 : revD x ≠ e := fun hc => hx2 (by rw [← hc]; rfl)
      unfold somR
      simp only [List.mem_cons, hx, hx3, false_or]
theorem som_parity {t : List (List Nat)} (h : RotN t) : ∀ L : List Dart, L.Nodup → (∀ x ∈ L, x ∈ dartsN t ∧ x.1 < x.2) → PermF (dartsN t) (somR t L) ∧ (cycF (dartsN t) (somR t L) + L.length + cycF (dartsN t) (turnD t)) % 2 = 0
  | [], _, _ => by
    have e : somR t [] = turnD t := by funext x; simp [somR]
    rw [e]
    exact ⟨turn_permP h, by simp; omega⟩
  | e :: L, hn, hL => by
    obtain ⟨h1, h2⟩ := List.nodup_cons.1 hn
    obtain ⟨ih1, ih2⟩ := som_parity h L h2 (fun x hx => hL x (by simp [hx]))
    have he := hL e (by simp)
    have hr : revD e ∉ L := fun hc => by
      have := (hL (revD e) (by simp [hc])).2
      have := he.2
      simp only [revD] at *
      omega
    have hrD : revD e ∈ dartsN t := (mem_dartsN h).2 (h.sym _ _ ((mem_dartsN h).1 he.1)).2
    have hne : e ≠ revD e := fun hc => by
      have h3 := he.2
      have h4 := congrArg Prod.fst hc
      simp only [revD] at h4
      omega
    rw [som_cons t h1 hr]
    refine ⟨swap_perm ih1 he.1 hrD, ?_⟩
    rw [List.length_cons]
    by_cases hl : LeadF (somR t L) e (revD e)
    · have := (cyc_split ih1 he.1 hrD hne hl).1
      omega
    · have := (cyc_join ih1 he.1 hrD hl).1
      omega
theorem cyc_congr {α : Type} [DecidableEq α] {D : List α} {f g : α → α} (h : PermF D f) (he : ∀ x, x ∈ D → f x = g x) : cycF D g = cycF D f := by
  have hg : PermF D g := ⟨fun x hx => by rw [← he x hx]; exact h.maps x hx, fun x y hx hy e => h.inj x y hx hy (by rw [he x hx, he y hy]; exact e)⟩
  have hit : ∀ k x, x ∈ D → itF g k x = itF f k x := fun k x hx => by
    induction k with
    | zero => rfl
    | succ k ih => rw [itF_succ, itF_succ, ih, he _ (itF_in h hx k)]
  obtain ⟨S, hS⟩ := rep_ex h
  rw [cyc_eq h hS]
  refine cyc_eq hg ⟨hS.all, ?_, fun y hy => ?_⟩
  · refine List.Pairwise.imp_of_mem ?_ hS.apart
    rintro a b ha hb hn ⟨k, hk⟩
    exact hn ⟨k, by rw [← hit k a (hS.all a ha)]; exact hk⟩
  · obtain ⟨s, hs, k, hk⟩ := hS.cover y hy
    exact ⟨s, hs, k, by rw [hit k s (hS.all s hs)]; exact hk⟩
theorem twice_even {t : List (List Nat)} (h : RotN t) (hir : ∀ u, u ∉ t.getD u []) : twiceI t % 2 = 0 := by
  have hE : ∀ x ∈ (dartsN t).filter fun x => decide (x.1 < x.2), x ∈ dartsN t ∧ x.1 < x.2 := fun x hx => by
    obtain ⟨h1, h2⟩ := List.mem_filter.1 hx
    exact ⟨h1, of_decide_eq_true h2⟩
  have hp := som_parity h _ ((darts_nodup t).filter _) hE
  have hc : cycF (dartsN t) (succD t) = cycF (dartsN t) (somR t ((dartsN t).filter fun x => decide (x.1 < x.2))) := by
    refine cyc_congr hp.1 (fun x hx => ?_)
    have hxD := (mem_dartsN h).1 hx
    have hne : x.1 ≠ x.2 := fun e => hir x.2 (by have h3 : x.2 ∈ t.getD x.1 [] := hxD; rw [e] at h3; exact h3)
    unfold somR
    rw [if_pos, succ_turn]
    by_cases hlt : x.1 < x.2
    · exact .inl (List.mem_filter.2 ⟨hx, decide_eq_true hlt⟩)
    · exact .inr (List.mem_filter.2 ⟨(mem_dartsN h).2 (h.sym _ _ hxD).2, decide_eq_true (by simp only [revD]; omega)⟩)
  have hp2 := hp.2
  rw [← hc, cyc_faces h, cyc_turn h] at hp2
  have hs := darts_even h hir
  rw [darts_sides h] at hs
  have hV : partV (nextL t) (firstN t.length) = popN (fullQ t) := by
    have hf : firstN t.length < 2 ^ t.length := by unfold firstN; have := Nat.two_pow_pos t.length; omega
    rw [partV_full h hir _ _ (Nat.lt_succ_self _) hf (fun v u _ hu => by rw [testBit_firstN, decide_eq_true_eq]; exact (h.sym v u hu).1)]
    congr 1
    apply nat_ext
    intro i
    rw [Nat.testBit_and]
    cases hq : (fullQ t).testBit i
    · simp
    · rw [testBit_firstN, decide_eq_true (testBit_fullQ.1 hq).1]; rfl
  unfold twiceI
  rw [hV]
  have h2 : sidesN t / 2 = ((dartsN t).filter fun x => decide (x.1 < x.2)).length := by omega
  rw [h2]
  generalize ((dartsN t).filter fun x => decide (x.1 < x.2)).length = E at *
  generalize popN (fullQ t) = V at *
  generalize (facesN t).length = F at *
  omega
end Go.Proofs.YtbpjbjeglcphcaaGreatDoor
