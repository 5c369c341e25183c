/- The law of MirrorOf. -/
import Derived.Test.YtdbanndcdbikmaaGreatDoorMir3
import Derived.Test.YtdbanndcdbikmaaGreatDoorFac2
import Derived.Test.YtdbanndcdbikmaaGreatDoorFacO
import Derived.Test.YtdbanndcdbikmaaGreatDoorMark4
import Derived.Test.YtdbanndcdbikmaaGreatDoorMarkA
namespace Go.Proofs.YtdbanndcdbikmaaGreatDoor
open Go.RowKit
noncomputable def mirF (g r : List (List Int)) : List (List Int) := if aroundB g r then (mirN (tOf r)).map natsI else []
/-- A row written over in its own block. -/
theorem ownR_rowTo {w w' : World} {B C ab n c k : Nat} {EO EI : TypeId} {g : List (List Int)} {r : List Int} {v : Value} (h : OwnR w B C EO EI (.slice (some ⟨ab, 0, none⟩) n c) g) (hk : k < g.length) (hcell : w.cell? ⟨ab, k, none⟩ = some v) (hkept : KeptBut w w' v.ownBlock)
    (hown : Own w' B EI 1 v r.length (r.map (.int .i64))) : OwnR w' B C EO EI (.slice (some ⟨ab, 0, none⟩) n c) (g.set k r) := by
  obtain ⟨vs, h1, h2, h3, hap, h4⟩ := h
  obtain ⟨a, cc, hn⟩ := h2.isSlice
  simp only [Value.slice.injEq] at hn
  obtain ⟨-, rfl, -⟩ := hn
  have hkv : k < vs.length := by omega
  have hv : vs[k] = v := by
    have e := (World.ownsRow.cellAt h2 k (by omega)).symm.trans hcell
    simpa [hkv] using e
  subst hv
  have hrow := h4 k hk hkv
  refine ⟨vs, by simp [h1], ?_, h3, hap, fun i hi hi2 => ?_⟩
  · rw [List.length_set]
    exact h2.kept hkept (fun b hb he => (hrow.2 b he).2 hb)
  · rw [List.length_set] at hi
    by_cases e : k = i
    · subst e
      rw [List.getElem_set_self]
      exact ⟨hown, hrow.2⟩
    · rw [List.getElem_set_ne e]
      obtain ⟨h5, h6⟩ := h4 i hi hi2
      exact ⟨h5.kept hkept (fun b hb he => e (hap k i hkv hi2 b he hb)), h6⟩
def revTo (r : List (List Int)) (k : Nat) : List (List Int) := (r.take k).map List.reverse ++ r.drop k
theorem revTo_len (r : List (List Int)) (k : Nat) : (revTo r k).length = r.length := by simp [revTo]; omega
theorem revTo_get {r : List (List Int)} {k : Nat} (hk : k < r.length) (h2 : k < (revTo r k).length) : (revTo r k)[k] = r[k] := by
  have h : (revTo r k)[k]? = some r[k] := by
    unfold revTo
    rw [List.getElem?_append_right (by simp; omega)]
    simp [Nat.min_eq_left (Nat.le_of_lt hk), hk]
  exact (List.getElem?_eq_some_iff.1 h).2
theorem set_mid {α : Type} : ∀ (A B : List α) (x y : α) (k : Nat), A.length = k → (A ++ x :: B).set k y = A ++ y :: B
  | [], B, x, y, k, h => by subst h; rfl
  | a :: A, B, x, y, k, h => by
    subst h
    simp only [List.cons_append, List.length_cons, List.set_cons_succ]
    rw [set_mid A B x y A.length rfl]
theorem revTo_set {r : List (List Int)} {k : Nat} (hk : k < r.length) : (revTo r k).set k r[k].reverse = revTo r (k + 1) := by
  unfold revTo
  rw [List.drop_eq_getElem_cons hk, set_mid _ _ _ _ k (by simp; omega), List.take_succ_eq_append_getElem hk, List.map_append, List.append_assoc]
  rfl
theorem revTo_all (r : List (List Int)) : revTo r r.length = r.map List.reverse := by simp [revTo]
theorem rot_rowM {t : List (List Nat)} (h : RotN t) {l : List Nat} (hl : l ∈ t) : l.length ≤ 16 ∧ ∀ x ∈ l, x < 16 := by
  obtain ⟨k, hk, rfl⟩ := List.getElem_of_mem hl
  have e : t.getD k [] = t[k] := by simp [hk]
  have hx : ∀ x ∈ t[k], x < t.length := fun x hx => (h.sym k x (e ▸ hx)).1
  have h2 := nodup_lenA (E := List.range t.length) (e ▸ h.nd k) (fun x hx' => List.mem_range.2 (hx x hx'))
  rw [List.length_range] at h2
  have := h.le
  exact ⟨by omega, fun x hx' => by have := hx x hx'; omega⟩
theorem revTo_small {r : List (List Int)} (h : SmallR r 1048576) (k : Nat) : SmallR (r.map List.reverse) 1048576 := by
  refine ⟨by rw [List.length_map]; exact h.1, fun i hi _ => ?_⟩
  rw [List.getElem_map, List.length_reverse]
  have h2 : i < r.length := by simpa using hi
  exact h.2 i h2 h2
set_option maxRecDepth 100000 in
set_option maxHeartbeats 8000000 in
theorem implMirrorOf_any {S S' : Nat → Prop} {gv rv : Value} {g r : List (List Int)} {w : World} (hvg : SlR S w gv g) (hvr : SlR S' w rv r) (hs : SmallR r 1048576) :
    Calls Tryz.prog 10 #[.agg #[gv], .agg #[rv]] w fun e w' => ∃ u, e = .returned (.agg #[u]) ∧ OwnR w' w.heap.size w'.heap.size 36 2 u (mirF g r) ∧ Below w.heap.size w w' := by
  obtain ⟨ga, gc, rfl⟩ := hvg.slice
  obtain ⟨ra, rc, rfl⟩ := hvr.slice
  obtain ⟨W, hW⟩ : ∃ W, W = (((w.alloc (.cells #[.slice ga g.length gc] 26)).alloc (.cells #[.slice ra r.length rc] 28)).alloc (.cells #[.slice none 0 0] 28)) := ⟨_, rfl⟩
  have hWW := Lib.hid hW
  have hq0 : Below w.heap.size w W := by rw [hW]; exact (((Below.refl _ _).alloc (Nat.le_refl _) _).alloc (by simp) _).alloc (by simp; omega) _
  have hr0 : Own W w.heap.size 28 1 (.slice (some ⟨w.heap.size + 1 + 1, 0, none⟩) 1 1) 1 [.slice none 0 0] := by
    rw [hW]
    have h := own_new ((w.alloc (.cells #[.slice ga g.length gc] 26)).alloc (.cells #[.slice ra r.length rc] 28)) w.heap.size 28 (.slice none 0 0) (by simp; omega)
    rw [show ((w.alloc (.cells #[.slice ga g.length gc] 26)).alloc (.cells #[.slice ra r.length rc] 28)).heap.size = w.heap.size + 1 + 1 by simp] at h
    exact h
  have c10 : W.cell? ⟨w.heap.size + 1, 0, none⟩ = some (.slice ra r.length rc) := by rw [hW]; simp [go_sem]
  have hao := implAroundOk_any (hvg.below hq0 (Nat.le_refl _)) (hvr.below hq0 (Nat.le_refl _)) (fun x hx => by
    obtain ⟨i, hi, rfl⟩ := List.getElem_of_mem hx
    have := hs.2 i hi hi; omega)
  clear hW
  by_cases ha : aroundB g r = true
  case neg =>
    have HE := Lib.hid (show mirF g r = [] by rw [mirF, if_neg ha])
    rw [Bool.not_eq_true] at ha
    rw [ha] at hao
    clear ha
    rw [HE.out]
    rw [hWW.out] at hao
    go_enter Tryz.func10, Tryz.ntmps10
    go_wp2_with fail
    refine hao.mono ?_
    rintro e w1 ⟨rfl, hb1⟩
    rw [← hWW.out] at hb1
    have hq1 := hq0.trans (hb1.mono hq0.size)
    obtain ⟨r1, r2, -, r3⟩ := own_cell (hr0.below hb1 (Nat.le_refl _))
    clear hao
    go_wp2
    refine bodyPost_ret (v := .agg #[.slice none 0 0]) (by simp [results, Tryz.results10, go_sem, r1]) rfl ⟨_, rfl, ?_, ?_⟩
    · exact ⟨[], rfl, Own.nil _ _ _ _, fun b hb => by simp [Value.ownBlock] at hb, ApartL.nil, fun i hi => by simp at hi⟩
    · exact hq1.setCell (by simp; omega) _
  have hP := around_iff.1 ha
  have HE := Lib.hid (show mirF g r = (((tOf r).map List.reverse).map rotL).map natsI by rw [mirF, if_pos ha]; simp [mirN])
  rw [ha] at hao
  rw [HE.out]
  have HRT := Lib.hid (aro_rot hP)
  have HEQ := Lib.hid (aro_eq hP)
  have HRL := Lib.hid (show r.map List.reverse = ((tOf r).map List.reverse).map natsI by
    conv => lhs; rw [aro_eq hP]
    simp [natsI, List.map_reverse])
  have hlen : r.length ≤ 16 := by have := HRT.out.le; rwa [tOf_len] at this
  clear ha hP
  rw [hWW.out] at hao
  go_enter Tryz.func10, Tryz.ntmps10
  go_wp2_with fail
  refine hao.mono ?_
  rintro e w1 ⟨rfl, hb1⟩
  rw [← hWW.out] at hb1
  have hq1 := hq0.trans (hb1.mono hq0.size)
  have c1 := (hb1.cell (cell_lt c10)).trans c10
  have hr1 := hr0.below hb1 (Nat.le_refl _)
  have htn := turnsOf_any (hvr.below hq1 (Nat.le_refl _)) hs
  clear hao
  go_wp2_with fail
  refine htn.mono ?_
  rintro e w2 ⟨tu, rfl, htu, hb2⟩
  clear htn
  have hq2 := hq1.trans (hb2.mono hq1.size)
  have hR0 : OwnR w2 w1.heap.size w2.heap.size 57 3 tu (revTo r 0) := by simpa [revTo] using htu
  have hq1s := hq1.size
  obtain ⟨ta, tc, rfl⟩ := htu.isSlice
  clear htu c10 hr0
  have HSR := Lib.hid hs
  clear hs
  go_wp2_with fail
  go_loopw [17] (fun i wr => ∃ k : Nat, k ≤ r.length ∧ i = .int .i64 k ∧ OwnR wr w1.heap.size w2.heap.size 57 3 (.slice ta r.length tc) (revTo r k) ∧ Below w1.heap.size w1 wr) (fun i _ => r.length - (RowKit.intOf i).toNat)
  case atStart => exact ⟨0, Nat.zero_le _, rfl, hR0, hb2⟩
  case round =>
    clear hR0
    obtain ⟨k, hk, rfl, hR, hq⟩ := hrel
    obtain ⟨wi, rfl⟩ : ∃ wx : World, wx = wr := ⟨_, rfl⟩
    have hqw := hq1.trans (hq.mono hq1.size)
    by_cases hlt : k < r.length
    · have hta : ∃ tb, ta = some ⟨tb, 0, none⟩ := by
        obtain ⟨vs, -, h2, -⟩ := hR
        rcases own_none_some h2 with ⟨-, hn⟩ | ⟨gb, gc', he⟩
        · rw [revTo_len] at hn; omega
        · simp only [Value.slice.injEq] at he
          exact ⟨gb, he.1⟩
      obtain ⟨tb, rfl⟩ := hta
      have hkl : k < (revTo r k).length := by rw [revTo_len]; exact hlt
      obtain ⟨xa, xc, hcell, -, hrow, -, -⟩ := hR.row hkl
      have e1 := revTo_get hlt hkl
      rw [e1] at hcell hrow
      have hrl : r[k].length ≤ 1048576 := by have := HSR.out.2 k hlt hlt; omega
      have hST := fun (w' : World) (hk : KeptBut wi w' (Value.slice xa r[k].length xc).ownBlock) (ho : Own w' w1.heap.size 3 1 (.slice xa r[k].length xc) r[k].length (r[k].reverse.map (.int .i64))) => ownR_rowTo hR hkl hcell hk (r := r[k].reverse) (by rw [List.length_reverse]; exact ho)
      rw [revTo_set hlt] at hST
      generalize r[k] = l at *
      clear e1
      go_wp2_with fail
      refine (reverseI_any hrow hrl).mono ?_
      rintro e w3 ⟨rfl, hrow3, hk3⟩
      have hR3 := hST w3 hk3 hrow3
      have hq3 := hk3.below hq hq.size (fun b hb => (hrow.lt b hb).1)
      clear hST hR hrow hcell
      go_wp2_with fail
      exact ⟨⟨k + 1, by omega, by simp, hR3, hq3⟩, by simp [RowKit.intOf]; omega⟩
    · obtain rfl : k = r.length := by omega
      rw [revTo_all] at hR
      have hRR := hR.rows (revTo_small HSR.out 0)
      rw [HRL.out] at hRR
      have hr4 := hr1.below hq (Nat.le_refl _)
      have har := aroundOf_any hRR (by rw [List.length_map, tOf_len]; omega) (fun l hl => by
        obtain ⟨l', hl', rfl⟩ := List.mem_map.1 hl
        have h1 := rot_rowM HRT.out hl'
        rw [List.length_reverse]
        exact ⟨by omega, fun x hx => by have := h1.2 x (List.mem_reverse.1 hx); omega⟩)
      obtain ⟨G, hG⟩ : ∃ G, G = ((((tOf r).map List.reverse).map rotL).map natsI) := ⟨_, rfl⟩
      rw [← hG] at har
      have HGH := Lib.hid hG
      clear hG
      clear hR hRR
      go_wp2_with fail
      refine har.mono ?_
      rintro e w4 ⟨u, rfl, hu, hb4⟩
      have hr5 := hr4.below hb4 (Nat.le_refl _)
      have hq4 := hqw.trans (hb4.mono hqw.size)
      have hws := hqw.size
      obtain ⟨r1, r2, -, r3⟩ := own_cell hr5
      obtain ⟨ua, uc, rfl⟩ := hu.isSlice
      clear har
      go_wp2
      refine bodyPost_ret (v := .agg #[.slice ua G.length uc]) (by simp [results, Tryz.results10, go_sem, r1]) rfl ⟨_, rfl, ?_, hq4.setCell (by simp; omega) _⟩
      have hG := HGH.out
      clear HGH
      subst hG
      exact (hu.setOther hr5 (by decide) (by decide) _).weaken (by omega) (Nat.le_of_eq (by simp))
theorem mirF_small (g r : List (List Int)) : SmallR (mirF g r) 1048576 := by
  unfold mirF
  split
  · rename_i hc
    have hr := mirN_rot (aro_rot (around_iff.1 hc))
    refine ⟨by have := hr.le; rw [List.length_map]; omega, fun i hi _ => ?_⟩
    rw [List.getElem_map, natsI_len]
    have := (rot_rowM hr (List.getElem_mem (by simpa using hi))).1
    omega
  · exact ⟨by simp, fun i hi => by simp at hi⟩
