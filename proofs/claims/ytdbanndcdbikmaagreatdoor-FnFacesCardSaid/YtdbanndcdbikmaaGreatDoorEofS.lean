/- The reference's EmbeddingOf: it answers, with own rows. -/
import Derived.Test.YtdbanndcdbikmaaGreatDoorEmbY
import Derived.Test.YtdbanndcdbikmaaGreatDoorRowO
namespace Go.Proofs.YtdbanndcdbikmaaGreatDoor
open Go.RowKit
def Rk22 (r : List (List Int)) : Prop := 0 < r.length ∧ r.length ≤ 16 ∧ ∀ y ∈ r, y.length ≤ 40
theorem bestR_mem : ∀ (l : List (List (List Nat))) (p : List (List Nat)), l.foldl bestStepR p = p ∨ l.foldl bestStepR p ∈ l
  | [], p => .inl rfl
  | a :: l, p => by
    rw [List.foldl_cons]
    rcases bestR_mem l (bestStepR p a) with h | h
    · rw [h]
      unfold bestStepR
      split
      · exact .inr (by simp)
      · exact .inl rfl
    · exact .inr (by simp [h])
theorem bestR_ne : ∀ (l : List (List (List Nat))) (p : List (List Nat)), (∀ a ∈ l, a ≠ []) → p ≠ [] → l.foldl bestStepR p ≠ []
  | [], p, _, hp => hp
  | a :: l, p, hl, hp => by
    rw [List.foldl_cons]
    refine bestR_ne l _ (fun x hx => hl x (by simp [hx])) ?_
    unfold bestStepR
    split
    · exact hl a (by simp)
    · exact hp
theorem waysS_ok {g : List (List Int)} (hg : GOk g) (h8 : g.length ≤ 8) : (waysS g).1 = 0 ∨ Rk22 ((waysS g).2.map natsI) := by
  by_cases h0 : leafS g = []
  · left; unfold waysS; rw [h0]; rfl
  right
  have hlo := hg.lo
  have hE := (edgesP_ok hg).1
  have hm : ∀ a ∈ leafS g, a.length = g.length ∧ ∀ l ∈ a, l.length ≤ 16 := fun a ha => by
    obtain ⟨t', ht, rfl⟩ := srchS_mem (edgesP g) [] _ (by simpa using hE) (hasE_start hg.hi) ha
    refine ⟨by rw [List.length_map]; exact ht.len, fun l hl => ?_⟩
    obtain ⟨r, hr, rfl⟩ := List.mem_map.1 hl
    obtain ⟨k, hk, rfl⟩ := List.getElem_of_mem hr
    have e : t'.getD k [] = t'[k] := by simp [hk]
    have := rot_row ht.rot k
    rw [e] at this
    rw [(rotL_perm _).length_eq]
    exact this
  have hne : ∀ a ∈ leafS g, a ≠ [] := fun a ha e => by have := (hm a ha).1; rw [e] at this; simp at this; omega
  have h2 : (waysS g).2 ∈ leafS g := by
    unfold waysS
    rw [stepW_fold]
    rcases bestR_mem (leafS g) [] with h | h
    · exfalso
      revert h
      match hl : leafS g, h0, hne with
      | a :: l, _, hne =>
        rw [List.foldl_cons]
        refine bestR_ne l _ (fun x hx => hne x (by simp [hx])) ?_
        unfold bestStepR
        rw [if_pos (.inl rfl)]
        exact hne a (by simp)
    · exact h
  obtain ⟨h3, h4⟩ := hm _ h2
  refine ⟨by rw [List.length_map]; omega, by rw [List.length_map]; omega, fun y hy => ?_⟩
  obtain ⟨l, hl, rfl⟩ := List.mem_map.1 hy
  rw [natsI_len]
  have := h4 l hl
  omega
set_option maxRecDepth 100000 in
set_option maxHeartbeats 4000000 in
theorem specEmbeddingOfT_any {S : Nat → Prop} {v : Value} {g : List (List Int)} {w : World} (hv : SlR S w v g) :
    Calls Tryz.prog 17 #[.agg #[v]] w fun e w' => ∃ u b r, e = .returned (.tuple #[.agg #[u], .bool b]) ∧ RowO (fun b => w.heap.size ≤ b ∧ b < w'.heap.size) w' u r ∧ (b = true → Rk22 r) ∧ Below w.heap.size w w' := by
  have hq0 : Below w.heap.size w ((w.alloc (.cells #[v] 26)).alloc (.cells #[.slice none 0 0] 28)) := ((Below.refl _ _).alloc (Nat.le_refl _) _).alloc (by simp) _
  have hsm := l26SmallE_any (hv.below hq0 (Nat.le_refl _))
  have HAL := Lib.hid (fun (h : smallB g = true) (W : World) (hb : Below w.heap.size w W) => l22All_any (small_is h).1 (small_is h).2 (hv.below hb (Nat.le_refl _)))
  obtain ⟨va, vc, rfl⟩ := hv.slice
  have c0 : ((w.alloc (.cells #[.slice va g.length vc] 26)).alloc (.cells #[.slice none 0 0] 28)).cell? ⟨w.heap.size, 0, none⟩ = some (.slice va g.length vc) := by simp [go_sem]
  have d0 : ((w.alloc (.cells #[.slice va g.length vc] 26)).alloc (.cells #[.slice none 0 0] 28)).cell? ⟨w.heap.size + 1, 0, none⟩ = some (.slice none 0 0) := by simp [go_sem]
  have e0 : ((w.alloc (.cells #[.slice va g.length vc] 26)).alloc (.cells #[.slice none 0 0] 28)).frozen? ⟨w.heap.size + 1, 0, none⟩ = false := by simp [go_sem]
  have HNIL := Lib.hid (fun W : World => show RowO (fun b => w.heap.size ≤ b ∧ b < W.heap.size) W (.slice none 0 0) [] from RowO.nil _ _)
  cases hs : smallB g with
  | false =>
    rw [hs] at hsm
    clear hs HAL
    go_enter Tryz.func17, Tryz.ntmps17
    go_wp2_with fail
    refine hsm.mono ?_
    rintro e w1 ⟨rfl, hb1⟩
    have hq1 := hq0.trans (hb1.mono hq0.size)
    have d1 := (hb1.cell (cell_lt d0)).trans d0
    have e1 := (hb1.frozen (cell_lt d0)).trans e0
    go_wp2
    refine bodyPost_ret (v := .tuple #[.agg #[.slice none 0 0], .bool false]) (by simp [results, Tryz.results17, go_sem, d1]) rfl ?_
    exact ⟨.slice none 0 0, false, [], rfl, HNIL.out _, fun h => by simp at h, hq1.setCell (by simp) _⟩
  | true =>
    have HM := Lib.hid (waysS_ok (small_is hs).1 (small_is hs).2)
    have hal := HAL.out hs
    rw [hs] at hsm
    clear hs HAL
    generalize (waysS g).1 = mn at *
    generalize (waysS g).2 = E at *
    go_enter Tryz.func17, Tryz.ntmps17
    go_wp2_with fail
    refine hsm.mono ?_
    rintro e w1 ⟨rfl, hb1⟩
    have hq1 := hq0.trans (hb1.mono hq0.size)
    have c1 := (hb1.cell (cell_lt c0)).trans c0
    have d1 := (hb1.cell (cell_lt d0)).trans d0
    have e1 := (hb1.frozen (cell_lt d0)).trans e0
    have hz1 : w.heap.size + 1 < w1.heap.size := cell_lt d1
    clear hsm hq0 c0 hb1 d0 e0
    go_wp2_with fail
    refine (hal w1 hq1).mono ?_
    rintro e w2 ⟨bv, rfl, hbv, hb2⟩
    have hq2 := hq1.trans (hb2.mono hq1.size)
    have d2 := (hb2.cell (cell_lt d1)).trans d1
    have e2 := (hb2.frozen (cell_lt d1)).trans e1
    have hz2 := hb2.size
    obtain ⟨ba, bc, rfl⟩ := hbv.slice
    rw [List.length_map] at *
    have hb3 : ∀ (o : Obj) (x : Value), Below (w2.setCell ⟨w.heap.size + 1, 0, none⟩ x).heap.size (w2.setCell ⟨w.heap.size + 1, 0, none⟩ x) ((w2.setCell ⟨w.heap.size + 1, 0, none⟩ x).alloc o) := fun o x => (Below.refl _ _).alloc (Nat.le_refl _) _
    have hq3 : ∀ (o : Obj) (x : Value), Below w.heap.size w ((w2.setCell ⟨w.heap.size + 1, 0, none⟩ x).alloc o) := fun o x => (hq2.setCell (by simp) x).trans ((hb3 o x).mono (by have := hq2.size; simp; omega))
    have d3 : ∀ (o : Obj) (x : Value), ((w2.setCell ⟨w.heap.size + 1, 0, none⟩ x).alloc o).cell? ⟨w.heap.size + 1, 0, none⟩ = some x := fun o x => ((hb3 o x).cell (cell_lt (World.cell?_setCell_same _ _ x d2))).trans (World.cell?_setCell_same _ _ x d2)
    have hlt := cell_lt d2
    by_cases hm : mn = 0
    · have hd : (mn == 0) = true := by simp [hm]
      clear hm HM
      go_wp2
      refine bodyPost_ret (v := .tuple #[.agg #[.slice none 0 0], .bool false]) (by simp [results, Tryz.results17, go_sem, d3]) rfl ?_
      exact ⟨.slice none 0 0, false, [], rfl, HNIL.out _, fun h => by simp at h, hq3 _ _⟩
    · have HE := Lib.hid (HM.out.resolve_left hm)
      have hd : (mn == 0) = false := by simp [hm]
      clear hm HM
      have hbk : ∀ o : Obj, RowO (fun b => w.heap.size ≤ b ∧ b < ((w2.setCell ⟨w.heap.size + 1, 0, none⟩ (.slice ba E.length bc)).alloc o).heap.size) ((w2.setCell ⟨w.heap.size + 1, 0, none⟩ (.slice ba E.length bc)).alloc o) (.slice ba E.length bc) (E.map natsI) := fun o =>
        ((hbv.keep fun b hb => Below.heap_setCell _ _ _ _ (fun e => by have e2 : b = w.heap.size + 1 := (by simpa [eq_comm] using e); omega)).below (hb3 o _) (Nat.le_refl _)).weak fun b hb => ⟨by omega, by have := (hb3 o (.slice ba E.length bc)).size; simp at this ⊢; omega⟩
      have HBK := Lib.hid hbk
      clear hbk
      generalize E.length = el at *
      go_wp2
      refine bodyPost_ret (v := .tuple #[.agg #[.slice ba el bc], .bool true]) (by simp [results, Tryz.results17, go_sem, d3]) rfl ?_
      exact ⟨.slice ba el bc, true, E.map natsI, rfl, HBK.out _, fun _ => HE.out, hq3 _ _⟩
end Go.Proofs.YtdbanndcdbikmaaGreatDoor
