/- The program's EmbeddingOf. -/
import Derived.Test.YtdbanndcdbikmaaGreatDoorHrQ
import Derived.Test.YtdbanndcdbikmaaGreatDoorEofC
import Derived.Test.YtdbanndcdbikmaaGreatDoorEmbD
import Derived.Test.YtdbanndcdbikmaaGreatDoorFit4
import Derived.Test.YtdbanndcdbikmaaGreatDoorMod3
namespace Go.Proofs.YtdbanndcdbikmaaGreatDoor
open Go.RowKit
theorem efB_step {L : List Nat} : ∀ (l : List (List (List Nat))) (s : List (List Nat)), (∀ t ∈ l, t.map List.length = L) → (s = [] ∨ s.map List.length = L) → l.foldl (fun s x => efB x s) s = (l.map fun x => x.map rotL).foldl bestStepR s
  | [], s, _, _ => rfl
  | t :: l, s, hl, hs => by
    have ht : (t.map rotL).map List.length = L := by
      rw [← hl t (by simp), List.map_map]
      exact List.map_congr_left fun r _ => (rotL_perm r).length_eq
    have he : efB t s = bestStepR s (t.map rotL) := by
      unfold efB bestStepR
      by_cases h0 : s = []
      · rw [if_pos (.inl h0), if_pos (.inl h0)]
      · have hsh : ShapeR (t.map rotL) s := by unfold ShapeR; rw [ht, hs.resolve_left h0]
        rw [lessR_cmp hsh]
        by_cases h : cmpR (t.map rotL) s < 0
        · rw [if_pos (.inr h), if_pos (.inr (by simpa using h))]
        · rw [if_neg (fun hn => hn.elim h0 h), if_neg (fun hn => hn.elim h0 (fun hx => h (by simpa using hx)))]
    rw [List.map_cons, List.foldl_cons, List.foldl_cons, he]
    refine efB_step l _ (fun t ht => hl t (by simp [ht])) ?_
    right
    unfold bestStepR
    split
    · exact ht
    · rename_i hn
      exact hs.resolve_left fun e => hn (.inl e)
theorem hasE_smK {n : Nat} {t : List (List Nat)} {E : List (Nat × Nat)} (h : HasE n t E) (h1 : 0 < n) (h2 : n ≤ 16) : SmK t := by
  refine ⟨by rw [h.len]; exact h1, by rw [h.len]; omega, fun l hl => ?_⟩
  obtain ⟨k, hk, rfl⟩ := List.getElem_of_mem hl
  have e : t.getD k [] = t[k] := by simp [hk]
  have hx : ∀ x ∈ t[k], x < t.length := fun x hx => (h.rot.sym k x (e ▸ hx)).1
  have h3 := nodup_lenA (E := List.range t.length) (e ▸ h.rot.nd k) (fun x hx' => List.mem_range.2 (hx x hx'))
  rw [List.length_range] at h3
  have := h.len
  exact ⟨by omega, fun x hx' => by have := hx x hx'; omega⟩
theorem hasE_shape {n : Nat} {t t' : List (List Nat)} {E : List (Nat × Nat)} (h : HasE n t E) (h' : HasE n t' E) : t.map List.length = t'.map List.length := by
  refine List.ext_getElem (by simp [h.len, h'.len]) fun i h1 h2 => ?_
  have e : ∀ (t : List (List Nat)) (hi : i < t.length), t.getD i [] = t[i] := fun t hi => by simp [hi]
  rw [List.length_map] at h1 h2
  have hp : (t.getD i []).Perm (t'.getD i []) := by
    refine (List.perm_ext_iff_of_nodup (h.rot.nd i) (h'.rot.nd i)).2 fun b => ?_
    rw [h.mem, h'.mem]
  rw [e t h1, e t' h2] at hp
  simpa using hp.length_eq
/-- The least planar system of a graph; none where there is none. -/
noncomputable def embF (g : List (List Int)) : List (List Nat) := if smallB g = true then (waysS g).2 else []
theorem rawI_best {g : List (List Int)} (h : smallB g = true) : (rawI (growR (netsL g) 0) (List.replicate (netsL g).length [])).foldl (fun s x => efB x s) [] = embF g := by
  obtain ⟨hg, h8⟩ := small_is h
  obtain ⟨h3, h4, h5⟩ := grow_all (netW_of hg)
  have hl2 := netsL_len g
  have hle : (netsL g).length ≤ 16 := by rw [hl2]; omega
  have hpos : 0 < (netsL g).length := by rw [hl2]; exact hg.lo
  have hm : ∀ x ∈ rawI (growR (netsL g) 0) (List.replicate (netsL g).length []), HasE (netsL g).length x (growR (netsL g) 0) := fun x hx => by
    have := rawI_mem (growR (netsL g) 0) [] _ (by simpa using h3) (hasE_start hle) x hx
    simpa using this
  have hI : leafI g = (rawI (growR (netsL g) 0) (List.replicate (netsL g).length [])).map fun x => x.map rotL := by rw [hl2]; exact srchI_raw _ _
  have hE : (rawI (growR (netsL g) 0) (List.replicate (netsL g).length [])).foldl (fun s x => efB x s) [] = (leafI g).foldl bestStepR [] := by
    rw [hI]
    generalize rawI (growR (netsL g) 0) (List.replicate (netsL g).length []) = l at hm
    match l, hm with
    | [], _ => rfl
    | t0 :: l, hm => exact efB_step (L := t0.map List.length) (t0 :: l) [] (fun t ht => hasE_shape (hm t ht) (hm t0 (by simp))) (.inl rfl)
  have hlen : ∀ a ∈ leafI g, a.length = (netsL g).length := fun a ha => by
    rw [hI] at ha
    obtain ⟨t, ht, rfl⟩ := List.mem_map.1 ha
    rw [List.length_map, (hm t ht).len]
  have hsh : ∀ a ∈ leafI g, ∀ b ∈ leafI g, ShapeR a b := fun a ha b hb => by
    rw [hI] at ha hb
    obtain ⟨t, ht, rfl⟩ := List.mem_map.1 ha
    obtain ⟨t', ht', rfl⟩ := List.mem_map.1 hb
    have e : ∀ t : List (List Nat), (t.map rotL).map List.length = t.map List.length := fun t => by
      rw [List.map_map]
      exact List.map_congr_left fun r _ => (rotL_perm r).length_eq
    unfold ShapeR
    rw [e, e]
    exact hasE_shape (hm t ht) (hm t' ht')
  rw [hE, best_perm hpos (leaf_perm hg).symm hlen hsh]
  unfold embF waysS
  rw [if_pos h, stepW_fold]
theorem embF_ok (g : List (List Int)) : embF g = [] ∨ SmK (embF g) := by
  by_cases h : smallB g = true
  case neg => left; unfold embF; rw [if_neg h]
  rw [← rawI_best h]
  obtain ⟨hg, h8⟩ := small_is h
  obtain ⟨h3, h4, h5⟩ := grow_all (netW_of hg)
  have hl2 := netsL_len g
  have hm : ∀ x ∈ rawI (growR (netsL g) 0) (List.replicate (netsL g).length []), SmK x := fun x hx => by
    have := rawI_mem (growR (netsL g) 0) [] _ (by simpa using h3) (hasE_start (by rw [hl2]; omega)) x hx
    rw [List.nil_append] at this
    exact hasE_smK this (by rw [hl2]; exact hg.lo) (by rw [hl2]; omega)
  generalize rawI (growR (netsL g) 0) (List.replicate (netsL g).length []) = l at hm
  have : ∀ (l : List (List (List Nat))) (s : List (List Nat)), (∀ x ∈ l, SmK x) → (s = [] ∨ SmK s) → (l.foldl (fun s x => efB x s) s = [] ∨ SmK (l.foldl (fun s x => efB x s) s)) := fun l => by
    induction l with
    | nil => intro s _ hs; exact hs
    | cons t l ih =>
      intro s hl hs
      rw [List.foldl_cons]
      refine ih _ (fun x hx => hl x (by simp [hx])) ?_
      unfold efB
      split
      · exact .inr (smK_rot (hl t (by simp)))
      · exact hs
  exact this l [] hm (.inl rfl)
theorem embF_many {g : List (List Int)} (h : smallB g = true) : (embF g = [] ↔ (waysS g).1 = 0) := by
  have he := rawI_best h
  obtain ⟨hg, h8⟩ := small_is h
  obtain ⟨h3, h4, h5⟩ := grow_all (netW_of hg)
  have hl2 := netsL_len g
  have hm : ∀ x ∈ rawI (growR (netsL g) 0) (List.replicate (netsL g).length []), SmK x := fun x hx => by
    have := rawI_mem (growR (netsL g) 0) [] _ (by simpa using h3) (hasE_start (by rw [hl2]; omega)) x hx
    rw [List.nil_append] at this
    exact hasE_smK this (by rw [hl2]; exact hg.lo) (by rw [hl2]; omega)
  have hI : leafI g = (rawI (growR (netsL g) 0) (List.replicate (netsL g).length [])).map fun x => x.map rotL := by rw [hl2]; exact srchI_raw _ _
  rw [ways_many h]
  unfold manyP
  rw [if_pos h, (leaf_perm hg).length_eq, hI, List.length_map, ← he]
  generalize rawI (growR (netsL g) 0) (List.replicate (netsL g).length []) = l at hm
  have h2 : ∀ (l : List (List (List Nat))) (s : List (List Nat)), (∀ x ∈ l, SmK x) → s ≠ [] → l.foldl (fun s x => efB x s) s ≠ [] := fun l => by
    induction l with
    | nil => intro s _ hs; exact hs
    | cons t l ih =>
      intro s hl hs
      rw [List.foldl_cons]
      refine ih _ (fun x hx => hl x (by simp [hx])) ?_
      unfold efB
      split
      · intro e
        have := (smK_rot (hl t (by simp))).1
        rw [e] at this
        simp at this
      · exact hs
  match l, hm with
  | [], _ => simp
  | t :: l, hm =>
    rw [List.foldl_cons]
    have h0 : efB t [] ≠ [] := by
      unfold efB
      rw [if_pos (.inl rfl)]
      intro e
      have := (smK_rot (hm t (by simp))).1
      rw [e] at this
      simp at this
    have := h2 l _ (fun x hx => hm x (by simp [hx])) h0
    constructor
    · intro e; exact absurd e this
    · intro e; simp at e; omega
set_option maxRecDepth 100000 in
set_option maxHeartbeats 4000000 in
theorem implEmbeddingOf_any {S : Nat → Prop} {v : Value} {g : List (List Int)} {w : World} (ht : Tab w) (hv : SlR S w v g) :
    Calls Tryz.prog 19 #[.agg #[v]] w fun e w' => ∃ u, e = .returned (.tuple #[.agg #[u], .bool (decide (embF g ≠ []))]) ∧ OwnR w' w.heap.size w'.heap.size 36 2 u ((embF g).map natsI) ∧ Below w.heap.size w w' := by
  have hq0 : Below w.heap.size w ((w.alloc (.cells #[v] 26)).alloc (.cells #[.slice none 0 0] 28)) := ((Below.refl _ _).alloc (Nat.le_refl _) _).alloc (by simp) _
  have hsm := isSmall_any (hv.below hq0 (Nat.le_refl _))
  have HNT := Lib.hid (fun (h : smallB g = true) (W : World) (hb : Below w.heap.size w W) => netsOf_any _ _ _ (hv.below hb (Nat.le_refl _)) (small_is h).1)
  have HCT := Lib.hid (fun (h : smallB g = true) => rawI_best h)
  have HGO := Lib.hid (fun (h : smallB g = true) => small_is h)
  have HVT := Lib.hid (fun (W : World) (hb : Below w.heap.size w W) => ht.below hb (Nat.le_refl _))
  obtain ⟨va, vc, rfl⟩ := hv.slice
  have c0 : ((w.alloc (.cells #[.slice va g.length vc] 26)).alloc (.cells #[.slice none 0 0] 28)).cell? ⟨w.heap.size, 0, none⟩ = some (.slice va g.length vc) := by simp [go_sem]
  have d0 : ((w.alloc (.cells #[.slice va g.length vc] 26)).alloc (.cells #[.slice none 0 0] 28)).cell? ⟨w.heap.size + 1, 0, none⟩ = some (.slice none 0 0) := by
    simp [go_sem]
  have e0 : ((w.alloc (.cells #[.slice va g.length vc] 26)).alloc (.cells #[.slice none 0 0] 28)).frozen? ⟨w.heap.size + 1, 0, none⟩ = false := by simp [go_sem]
  cases hs : smallB g with
  | false =>
    have HE := Lib.hid (show embF g = [] by unfold embF; rw [hs]; rfl)
    rw [hs] at hsm
    clear hs HNT HCT HGO
    go_enter Tryz.func19, Tryz.ntmps19
    go_wp2_with fail
    refine hsm.mono ?_
    rintro e w1 ⟨rfl, hb1⟩
    have hq1 := hq0.trans (hb1.mono hq0.size)
    have d1 := (hb1.cell (cell_lt d0)).trans d0
    have e1 := (hb1.frozen (cell_lt d0)).trans e0
    go_wp2
    refine bodyPost_ret (v := .tuple #[.agg #[.slice none 0 0], .bool false]) (by simp [results, Tryz.results19, go_sem, d1]) rfl ?_
    exact ⟨.slice none 0 0, by rw [HE.out]; rfl, by rw [HE.out]; exact ⟨[], rfl, Own.nil _ _ _ _, fun b hb => by simp [Value.ownBlock] at hb, ApartL.nil, fun i hi => by simp at hi⟩, hq1.setCell (by simp) _⟩
  | true =>
    have hnt := HNT.out hs
    have hct := HCT.out hs
    obtain ⟨hg, h8⟩ := HGO.out hs
    rw [hs] at hsm
    clear hs HNT HCT HGO
    go_enter Tryz.func19, Tryz.ntmps19
    go_wp2_with fail
    refine hsm.mono ?_
    rintro e w1 ⟨rfl, hb1⟩
    have hq1 := hq0.trans (hb1.mono hq0.size)
    have c1 := (hb1.cell (cell_lt c0)).trans c0
    have d1 := (hb1.cell (cell_lt d0)).trans d0
    have e1 := (hb1.frozen (cell_lt d0)).trans e0
    have hz1 : w.heap.size + 2 ≤ w1.heap.size := by have := hb1.size; simp at this; omega
    have hb2 : Below w1.heap.size w1 ((w1.alloc (.cells #[.slice none 0 0] 28)).alloc (.cells #[.bool false] 4)) := ((Below.refl _ _).alloc (Nat.le_refl _) _).alloc (by simp) _
    have c2 := (hb2.cell (cell_lt c1)).trans c1
    have d2 := (hb2.cell (cell_lt d1)).trans d1
    have e2 := (hb2.frozen (cell_lt d1)).trans e1
    have k0 : ((w1.alloc (.cells #[.slice none 0 0] 28)).alloc (.cells #[.bool false] 4)).cell? ⟨w1.heap.size + 1, 0, none⟩ = some (.bool false) := by simp [go_sem]
    have f0 : ((w1.alloc (.cells #[.slice none 0 0] 28)).alloc (.cells #[.bool false] 4)).frozen? ⟨w1.heap.size + 1, 0, none⟩ = false := by simp [go_sem]
    have k1 : ((w1.alloc (.cells #[.slice none 0 0] 28)).alloc (.cells #[.bool false] 4)).cell? ⟨w1.heap.size, 0, none⟩ = some (.slice none 0 0) := by simp [go_sem]
    have f1 : ((w1.alloc (.cells #[.slice none 0 0] 28)).alloc (.cells #[.bool false] 4)).frozen? ⟨w1.heap.size, 0, none⟩ = false := by simp [go_sem]
    have hq2 := hq1.trans (hb2.mono hq1.size)
    have hnt2 := hnt _ hq2
    go_wp2_with fail
    refine hnt2.mono ?_
    rintro e w3 ⟨nu, rfl, hnu, hb3⟩
    have hq3 := hq2.trans (hb3.mono hq2.size)
    have d3 := (hb3.cell (cell_lt d2)).trans d2
    have e3 := (hb3.frozen (cell_lt d2)).trans e2
    have hcl := cell_lt k0
    have hdl := cell_lt k1
    have k3 := (hb3.cell hcl).trans k0
    have f3 := (hb3.frozen hcl).trans f0
    have k4 := (hb3.cell hdl).trans k1
    have f4 := (hb3.frozen hdl).trans f1
    have hcb : ∃ cb, cb = w1.heap.size + 1 := ⟨_, rfl⟩
    obtain ⟨cb, hcb⟩ := hcb
    obtain ⟨db, hdb⟩ : ∃ db, db = w1.heap.size := ⟨_, rfl⟩
    rw [← hcb] at k3 f3 hcl ⊢
    rw [← hdb] at k4 f4 hdl ⊢
    have hcw : cb < w3.heap.size := Nat.lt_of_lt_of_le hcl hb3.size
    have hdw : db < w3.heap.size := Nat.lt_of_lt_of_le hdl hb3.size
    have hst : BestSt cb db (BestF cb db 0 0) [] w3 := ⟨0, 0, .slice none 0 0, rfl, by omega, by simpa using k3, f3, k4, f4, ⟨[], rfl, Own.nil _ _ _ _, fun b hb => by simp [Value.ownBlock] at hb, ApartL.nil, fun i hi => by simp at hi⟩, .inl rfl⟩
    have hem := embeddings_any (eachBest cb db) (F := BestF cb db 0 0) (s := []) (HVT.out w3 hq3) (netW_of hg) (by rw [netsL_len]; exact hg.lo) (by have := hnu.ints (xs := natsI (netsL g)) (by have := hg.hi; omega); exact this) hst (fun b hb => by rcases hb with hb | hb | hb <;> omega) (fun t h => hasE_smK h (by rw [netsL_len]; exact hg.lo) (by rw [netsL_len]; exact hg.hi))
    rw [hct] at hem
    have HB := Lib.hid (show w.heap.size + 2 ≤ db ∧ w.heap.size + 2 ≤ cb by omega)
    clear hcb hdb hnt hnt2 hb2 hb3 c1 c2 c0 d1 d2 d0 e1 e2 e0 k0 k1 f0 f1 k3 f3 k4 f4 hst hcl hdl hsm hq0 hq2
    go_wp2_with fail
    refine hem.mono ?_
    rintro e w4 ⟨F4, rfl, ⟨B, C, bv, rfl, hA⟩, hk4, hF4⟩
    obtain ⟨ba, bc, rfl⟩ := hA.own.isSlice
    rw [List.length_map] at hA
    have hne : ¬ BestF cb db 0 0 (w.heap.size + 1) := fun hb => by
      have := HB.out
      rcases hb with hb | hb | hb <;> omega
    have hz3 : w.heap.size + 1 < w3.heap.size := by have := HB.out; omega
    have d4 := (cell_heap (a := ⟨w.heap.size + 1, 0, none⟩) (hk4.block _ hz3 hne)).trans d3
    have e4 := (World.frozen?_of_block (a := ⟨w.heap.size + 1, 0, none⟩) (hk4.block _ hz3 hne)).trans e3
    have hq4 : Below w.heap.size w w4 := hk4.below hq3 hq3.size (fun b hb => by have := HB.out; rcases hb with hb | hb | hb <;> omega)
    have HRG := Lib.hid (fun b (h1 : B ≤ b) (h2 : b < C) => show w.heap.size + 2 ≤ b by
      have := HB.out
      rcases hF4 b (.inr (.inr ⟨h1, h2⟩)) with (h3 | h3 | h3) | h3 <;> omega)
    have cf := hA.cf
    have cv := hA.cv
    have hown := hA.own
    have hne1 : ¬ (w.heap.size + 1 = cb) := fun e => hne (.inl e)
    have hne2 : ¬ (w.heap.size + 1 = db) := fun e => hne (.inr (.inl e))
    generalize (embF g).length = el at *
    obtain ⟨fb, hfb⟩ : ∃ fb, fb = decide (embF g ≠ []) := ⟨_, rfl⟩
    rw [← hfb] at cf
    have HFB := Lib.hid hfb
    clear hfb
    clear hA hk4 hF4 hem d3 e3
    go_wp2_with fail
    refine wp_region_held_drew (S := (fun w' => w'.cell? ⟨db, 0, none⟩ = some (.slice ba el bc) ∧ w'.cell? ⟨cb, 0, none⟩ = some (.bool fb))) (by kernel_rfl) ?_ (fun hHeld => ?_)
    · first | exact ⟨cv, cf⟩ | exact ⟨(World.cell?_setCell_other _ _ _ _ (fun e => hne2 (congrArg Addr.block e))).trans hHeld.1, (World.cell?_setCell_other _ _ _ _ (fun e => hne1 (congrArg Addr.block e))).trans hHeld.2⟩
    have hd5 : Drawn w4 w4.drew := (Drawn.refl _).drew
    have d5 := (hd5.cell _).trans d4
    have e5 : w4.drew.frozen? ⟨w.heap.size + 1, 0, none⟩ = false := e4
    have o5 := hown.drewR
    have hq5 := hq4.drew
    generalize w4.drew = wd at hd5 hHeld d5 e5 o5 hq5 ⊢
    refine wpAnyH_take (i := 0) (v := ?v1) (by simp only [List.getElem?_toArray, List.getElem?_cons_zero]; exact rfl) (by kernel_rfl) (by kernel_rfl) (by kernel_rfl) (by intro _ _ _ h; exact h) (Or.inl ⟨by rfl, ?y1⟩) hHeld ?_
    case y1 => (intro w hSw; (try dsimp only at hSw); go_simp; try (with_reducible rfl))
    try simp only [Act.put, List.setIfInBounds_toArray, List.set_cons_zero, List.set_cons_succ]
    refine wpAnyH_take (i := 1) (v := ?v2) (by simp only [List.getElem?_toArray, List.getElem?_cons_succ, List.getElem?_cons_zero]; exact rfl) (by kernel_rfl) (by kernel_rfl) (by kernel_rfl) (by intro _ _ _ h; exact h) (Or.inl ⟨by rfl, ?y2⟩) hHeld ?_
    case y2 => (intro w hSw; (try dsimp only at hSw); go_simp; try (with_reducible rfl))
    try simp only [Act.put, List.setIfInBounds_toArray, List.set_cons_zero, List.set_cons_succ]
    refine wpAnyH_ready (rs := [2]) (by kernel_rfl) (by simp) ?_
    refine AllReadyH.cons (by simp only [List.getElem?_toArray, List.getElem?_cons_succ, List.getElem?_cons_zero]; exact rfl) (fun K hK => ?_) AllReadyH.nil
    go_simp
    skip
    try dsimp only
    refine hK.out _ _ ?h4 (fun hHeld => ?_)
    case h4 => first | exact ⟨cv, cf⟩ | exact ⟨(World.cell?_setCell_other _ _ _ _ (fun e => hne2 (congrArg Addr.block e))).trans hHeld.1, (World.cell?_setCell_other _ _ _ _ (fun e => hne1 (congrArg Addr.block e))).trans hHeld.2⟩
    clear hK K
    try simp only [Act.put, List.setIfInBounds_toArray, List.set_cons_zero, List.set_cons_succ]
    refine wpAnyH_take (i := 3) (v := ?v5) (by simp only [List.getElem?_toArray, List.getElem?_cons_succ, List.getElem?_cons_zero]; exact rfl) (by kernel_rfl) (by kernel_rfl) (by kernel_rfl) (by intro _ _ _ h; exact h) (Or.inl ⟨by rfl, ?y5⟩) hHeld ?_
    case y5 => (intro w hSw; (try dsimp only at hSw); go_simp; try (with_reducible rfl))
    try simp only [Act.put, List.setIfInBounds_toArray, List.set_cons_zero, List.set_cons_succ]
    refine wpAnyH_done (by kernel_rfl) ?_ _
    have hsz5 : w.heap.size + 1 < wd.heap.size := cell_lt d5
    have o6 : OwnR (wd.setCell ⟨w.heap.size + 1, 0, none⟩ (.slice ba el bc)) B C 36 2 (.slice ba el bc) ((embF g).map natsI) := o5.keepB fun b h1 h2 => Below.heap_setCell _ _ _ _ (fun e => by have := HRG.out b h1 h2; have e2 : b = w.heap.size + 1 := (by simpa [eq_comm] using e); omega)
    have o7 := o6.subL (B1 := w.heap.size) (fun b h1 h2 => by have := HRG.out b h1 h2; omega)
    have d6 := World.cell?_setCell_same wd ⟨w.heap.size + 1, 0, none⟩ (.slice ba el bc) d5
    have hq6 : Below w.heap.size w (wd.setCell ⟨w.heap.size + 1, 0, none⟩ (.slice ba el bc)) := hq5.setCell (by simp) _
    clear o5 o6 hHeld
    go_wp2
    refine bodyPost_ret (v := .tuple #[.agg #[.slice ba el bc], .bool fb]) (by simp [results, Tryz.results19, go_sem, d6]) rfl ⟨_, by rw [HFB.out], o7, hq6⟩
end Go.Proofs.YtdbanndcdbikmaaGreatDoor
