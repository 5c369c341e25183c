/- A graph with a loop has more edges than vertices beyond its parts: plain facts. -/
import Derived.Test.YtgkkgagnoeedaaaDoorLoopL
import Derived.Test.YtgkkgagnoeedaaaDoorConn
import Derived.Test.YtgkkgagnoeedaaaDoorReaE
namespace Go.Proofs.YtgkkgagnoeedaaaDoor
open Go.RowKit
theorem parts_all {a : List Nat} {wi : Nat} (hw : wi < 4294967296) (hs : SymN a wi) : ∀ v, wi.testBit v = true → ∃ p ∈ partsN a wi, p.testBit v = true ∧ ∃ r, wi.testBit r = true ∧ p = reachN a wi r := by
  have key : ∀ k, ∃ out D, PartsI a wi out D ∧ (∀ i, D.testBit i = true → ∃ p ∈ out, p.testBit i = true ∧ ∃ r, wi.testBit r = true ∧ p = reachN a wi r) ∧ ∀ i, i < k → wi.testBit i = true → D.testBit i = true := by
    intro k
    induction k with
    | zero => exact ⟨[], 0, PartsI.start hw, (fun i hi => by rw [Nat.zero_testBit] at hi; cases hi), fun i hi => by omega⟩
    | succ k ih =>
      obtain ⟨out, D, h1, h2, h3⟩ := ih
      by_cases hk : wi.testBit k = true ∧ D.testBit k = false
      · refine ⟨_, _, h1.next hw hs hk.1 hk.2 (fun i hi hlt => h3 i hlt hi), fun i hi => ?_, fun i hi hwi => ?_⟩
        · rw [Nat.testBit_or, Bool.or_eq_true] at hi
          rcases hi with hi | hi
          · obtain ⟨p, hp, hr⟩ := h2 i hi
            exact ⟨p, by simp [hp], hr⟩
          · exact ⟨_, by simp, hi, k, hk.1, rfl⟩
        · rw [Nat.testBit_or, Bool.or_eq_true]
          by_cases e : i = k
          · subst e
            exact .inr (reach_start hw (bit_lt_of (n := 32) hw hwi))
          · exact .inl (h3 i (by omega) hwi)
      · refine ⟨out, D, h1, h2, fun i hi hwi => ?_⟩
        by_cases e : i = k
        · subst e
          cases hD : D.testBit i
          · exact absurd ⟨hwi, hD⟩ hk
          · rfl
        · exact h3 i (by omega) hwi
  obtain ⟨out, D, h1, h2, h3⟩ := key 32
  have hall : ∀ i, wi.testBit i = true → D.testBit i = true := fun i hi => h3 i (bit_lt_of (n := 32) hw hi) hi
  have he := h1.done hw hall
  subst he
  exact fun v hv => h2 v (hall v hv)
theorem least_nat {P : Nat → Prop} (h : ∃ k, P k) : ∃ k, P k ∧ ∀ j, j < k → ¬ P j := by
  obtain ⟨k, hk⟩ := h
  induction k using Nat.strongRecOn with
  | ind k ih =>
    by_cases he : ∃ j, j < k ∧ P j
    · obtain ⟨j, hj, hp⟩ := he
      exact ih j hj hp
    · exact ⟨k, hk, fun j hj hp => he ⟨j, hj, hp⟩⟩
theorem dist_exists (a : List Nat) (wi v n : Nat) : ∃ D, IsDist a wi v n D := by
  have h : ∀ u : Nat, ∃ d : Int, (d = -1 ∧ ∀ k, (ballN a wi v k).testBit u = false) ∨ ∃ k : Nat, d = k ∧ (ballN a wi v k).testBit u = true ∧ ∀ j, j < k → (ballN a wi v j).testBit u = false := fun u => by
    by_cases hk : ∃ k, (ballN a wi v k).testBit u = true
    · obtain ⟨k, h1, h2⟩ := least_nat hk
      exact ⟨k, .inr ⟨k, rfl, h1, fun j hj => by simpa using h2 j hj⟩⟩
    · exact ⟨-1, .inl ⟨rfl, fun k => by
        cases hb : (ballN a wi v k).testBit u
        · rfl
        · exact absurd ⟨k, hb⟩ hk⟩⟩
  exact ⟨fun u => Classical.choose (h u), fun u _ => Classical.choose_spec (h u)⟩
/-- All sides of edges. -/
def sidesN (H : List Nat) (n : Nat) : List (Nat × Nat) := (List.range n).flatMap fun u => (bitsN (H.getD u 0)).map fun v => (u, v)
theorem mem_sidesN {H : List Nat} {n u v : Nat} (hm : H.getD u 0 < 4294967296) : (u, v) ∈ sidesN H n ↔ u < n ∧ (H.getD u 0).testBit v = true := by
  unfold sidesN
  rw [List.mem_flatMap]
  constructor
  · rintro ⟨x, hx, hy⟩
    rw [List.mem_map] at hy
    obtain ⟨y, hy, he⟩ := hy
    simp only [Prod.mk.injEq] at he
    obtain ⟨rfl, rfl⟩ := he
    exact ⟨List.mem_range.1 hx, (mem_bitsN hm).1 hy⟩
  · rintro ⟨h1, h2⟩
    exact ⟨u, List.mem_range.2 h1, List.mem_map.2 ⟨v, (mem_bitsN hm).2 h2, rfl⟩⟩
theorem sides_len (H : List Nat) : (sidesN H H.length).length = (H.map popN).sum := by
  have h : ∀ k, k ≤ H.length → (sidesN H k).length = ((H.take k).map popN).sum := by
    intro k
    induction k with
    | zero => intro _; simp [sidesN]
    | succ k ih =>
      intro hk
      have e : sidesN H (k + 1) = sidesN H k ++ (bitsN (H.getD k 0)).map fun v => (k, v) := by
        unfold sidesN
        rw [List.range_succ, List.flatMap_append]; simp
      rw [e, List.length_append, ih (by omega), List.length_map, List.take_succ_eq_append_getElem (by omega), List.map_append, List.sum_append]
      have e2 : H.getD k 0 = H[k] := by simp [show k < H.length by omega]
      rw [e2]; simp [popN]
  have := h H.length (Nat.le_refl _)
  rwa [List.take_length] at this
/-- Levels with a way down from every vertex but R, and a loop: then so many sides at least. -/
theorem forest_count {H : List Nat} {n : Nat} {lvl par : Nat → Nat} {R : List Nat} (hH : ∀ u, H.getD u 0 < 4294967296) (hs : ∀ x y, x < n → y < n → (H.getD x 0).testBit y = true → (H.getD y 0).testBit x = true)
    (hp : ∀ v, v < n → v ∉ R → par v < n ∧ (H.getD v 0).testBit (par v) = true ∧ lvl v = lvl (par v) + 1) {q : List Nat} (hq : LoopN H n q) : 2 * (n - R.length) + 2 ≤ (sidesN H n).length := by
  have h3 := hq.three
  -- the highest vertex of the loop
  have hmax : ∃ i, i < q.length ∧ ∀ j, j < q.length → lvl (q.getD j 0) ≤ lvl (q.getD i 0) := by
    have : ∀ k, k < q.length → ∃ i, i ≤ k ∧ ∀ j, j ≤ k → lvl (q.getD j 0) ≤ lvl (q.getD i 0) := by
      intro k
      induction k with
      | zero => intro _; exact ⟨0, Nat.le_refl _, fun j hj => by rw [show j = 0 by omega]; exact Nat.le_refl _⟩
      | succ k ih =>
        intro hk
        obtain ⟨i, hi, hm⟩ := ih (by omega)
        by_cases hlt : lvl (q.getD (k + 1) 0) ≤ lvl (q.getD i 0)
        · exact ⟨i, by omega, fun j hj => by
            by_cases e : j = k + 1
            · rw [e]; exact hlt
            · exact hm j (by omega)⟩
        · exact ⟨k + 1, Nat.le_refl _, fun j hj => by
            by_cases e : j = k + 1
            · rw [e]; exact Nat.le_refl _
            · have := hm j (by omega); omega⟩
    obtain ⟨i, hi, hm⟩ := this (q.length - 1) (by omega)
    exact ⟨i, by omega, fun j hj => hm j (by omega)⟩
  obtain ⟨i, hi, hm⟩ := hmax
  have hlt : ∀ j, j < q.length → q.getD j 0 < n := fun j hj => hq.path.lt _ (getD_mem hj)
  -- its neighbours on the loop
  obtain ⟨j1, j2, hj1, hj2, hne, hi1, hi2, ha1, ha2⟩ : ∃ j1 j2, j1 < q.length ∧ j2 < q.length ∧ j1 ≠ j2 ∧ j1 ≠ i ∧ j2 ≠ i ∧ (H.getD (q.getD i 0) 0).testBit (q.getD j1 0) = true ∧ (H.getD (q.getD i 0) 0).testBit (q.getD j2 0) = true := by
    have hcl := hq.cl
    unfold finN lastN at hcl
    by_cases e0 : i = 0
    · subst e0
      exact ⟨1, q.length - 1, by omega, by omega, by omega, by omega, by omega, hq.path.ch 0 (by omega), hs _ _ (hlt _ (by omega)) (hlt _ hi) hcl⟩
    · have hprev := hq.path.ch (i - 1) (by omega)
      rw [show i - 1 + 1 = i by omega] at hprev
      have hprev := hs _ _ (hlt _ (by omega)) (hlt _ hi) hprev
      by_cases e1 : i = q.length - 1
      · subst e1
        exact ⟨q.length - 1 - 1, 0, by omega, by omega, by omega, by omega, by omega, hprev, hcl⟩
      · exact ⟨i - 1, i + 1, by omega, by omega, by omega, by omega, by omega, hprev, hq.path.ch i (by omega)⟩
  generalize hx : q.getD i 0 = x at *
  have hxn : x < n := hx ▸ hlt i hi
  -- one of the two edges is no way down
  obtain ⟨y, hyn, hyx, hady, hny, hly⟩ : ∃ y, y < n ∧ y ≠ x ∧ (H.getD x 0).testBit y = true ∧ (x ∉ R → y ≠ par x) ∧ lvl y ≤ lvl x := by
    have hd : q.getD j1 0 ≠ q.getD j2 0 := fun e => hne (nodup_getD hq.path.nd hj1 hj2 e)
    have hloop : ∀ j, j < q.length → j ≠ i → q.getD j 0 ≠ x := fun j hj hji e => hji (nodup_getD hq.path.nd hj hi (by rw [e, hx]))
    by_cases hxR : x ∉ R ∧ q.getD j1 0 = par x
    · exact ⟨q.getD j2 0, hlt _ hj2, hloop j2 hj2 hi2, ha2, fun _ e => hd (by rw [hxR.2, e]), hm j2 hj2⟩
    · exact ⟨q.getD j1 0, hlt _ hj1, hloop j1 hj1 hi1, ha1, fun h e => hxR ⟨h, e⟩, hm j1 hj1⟩
  have hxy : y ∉ R → x ≠ par y := fun hyR e => by
    have := (hp y hyn hyR).2.2
    rw [← e] at this
    omega
  -- the list of sides
  generalize hN : (List.range n).filter (fun v => decide (v ∉ R)) = N
  have hNm : ∀ v, v ∈ N ↔ v < n ∧ v ∉ R := fun v => by rw [← hN, List.mem_filter]; simp
  have hNd : N.Nodup := by rw [← hN]; exact List.Pairwise.filter _ List.nodup_range
  have hNl : n - R.length ≤ N.length := by
    have := nodup_lenA (l := List.range n) (E := N ++ R) List.nodup_range (fun v hv => by
      by_cases h : v ∈ R
      · simp [h]
      · exact List.mem_append_left _ ((hNm v).2 ⟨List.mem_range.1 hv, h⟩))
    rw [List.length_range, List.length_append] at this
    omega
  have hL := nodup_lenA (l := N.map (fun v => (v, par v)) ++ (N.map (fun v => (par v, v)) ++ [(x, y), (y, x)])) (E := sidesN H n) ?_ ?_
  · simp at hL; omega
  · rw [List.nodup_append, List.nodup_append]
    refine ⟨?_, ⟨?_, ?_, ?_⟩, ?_⟩
    · rw [List.Nodup, List.pairwise_map]
      exact hNd.imp fun h e => h (by simpa using (Prod.mk.inj e).1)
    · rw [List.Nodup, List.pairwise_map]
      exact hNd.imp fun h e => h (by simpa using (Prod.mk.inj e).2)
    · simp only [List.nodup_cons, List.mem_singleton, Prod.mk.injEq, List.not_mem_nil, not_false_eq_true, List.nodup_nil, and_true]
      rintro ⟨e, -⟩; exact hyx e.symm
    · intro a ha b hb e
      subst e
      obtain ⟨v, hv, rfl⟩ := List.mem_map.1 ha
      have hvv := (hNm v).1 hv
      simp only [List.mem_cons, Prod.mk.injEq, List.not_mem_nil, or_false] at hb
      rcases hb with ⟨e1, e2⟩ | ⟨e1, e2⟩
      · subst e2; exact hxy hvv.2 e1.symm
      · subst e2; exact hny hvv.2 e1.symm
    · intro a ha b hb e
      subst e
      obtain ⟨v, hv, rfl⟩ := List.mem_map.1 ha
      have hvv := (hNm v).1 hv
      rcases List.mem_append.1 hb with hb | hb
      · obtain ⟨u, hu, he⟩ := List.mem_map.1 hb
        simp only [Prod.mk.injEq] at he
        have huu := (hNm u).1 hu
        have h1 := (hp v hvv.1 hvv.2).2.2
        have h2 := (hp u huu.1 huu.2).2.2
        rw [he.1] at h2
        rw [← he.2] at h1
        omega
      · simp only [List.mem_cons, Prod.mk.injEq, List.not_mem_nil, or_false] at hb
        rcases hb with ⟨e1, e2⟩ | ⟨e1, e2⟩
        · subst e1; exact hny hvv.2 e2.symm
        · subst e1; exact hxy hvv.2 e2.symm
  · intro a ha
    rcases List.mem_append.1 ha with ha | ha
    · obtain ⟨v, hv, rfl⟩ := List.mem_map.1 ha
      have hvv := (hNm v).1 hv
      exact (mem_sidesN (hH _)).2 ⟨hvv.1, (hp v hvv.1 hvv.2).2.1⟩
    · rcases List.mem_append.1 ha with ha | ha
      · obtain ⟨v, hv, rfl⟩ := List.mem_map.1 ha
        have hvv := (hNm v).1 hv
        have h1 := hp v hvv.1 hvv.2
        exact (mem_sidesN (hH _)).2 ⟨h1.1, hs _ _ hvv.1 h1.1 h1.2.1⟩
      · simp only [List.mem_cons, List.not_mem_nil, or_false] at ha
        rcases ha with rfl | rfl
        · exact (mem_sidesN (hH _)).2 ⟨hxn, hady⟩
        · exact (mem_sidesN (hH _)).2 ⟨hyn, hs _ _ hxn hyn hady⟩
theorem forest {H : List Nat} (h16 : H.length ≤ 16) (hH : ∀ m ∈ H, m < 2 ^ H.length) {F : Nat} (hF : F < 2 ^ H.length) (hFb : ∀ v, v < H.length → F.testBit v = true) (hs : ∀ x y, x < H.length → y < H.length → (H.getD x 0).testBit y = true → (H.getD y 0).testBit x = true)
    {q : List Nat} (hq : LoopN H H.length q) : (H.length : Int) - (partsN H F).length < (((H.map popN).sum / 2 : Nat) : Int) := by
  have hF32 : F < 4294967296 := Nat.lt_trans hF (pow16_lt h16)
  have hWI : WideI H H.length := ⟨rfl, h16, hH⟩
  have hFlt : ∀ v, F.testBit v = true → v < H.length := fun v hv => bit_lt_of hF hv
  have hsN : SymN H F := fun x y hx hy h => hs x y (hFlt x hx) (hFlt y hy) h
  have hH32 : ∀ u, H.getD u 0 < 4294967296 := fun u => by
    by_cases e : u < H.length
    · rw [show H.getD u 0 = H[u] by simp [e]]; exact hWI.lt32 _ (List.getElem_mem e)
    · rw [show H.getD u 0 = 0 by simp [show H.length ≤ u by omega]]; omega
  -- the root of a part, and how far a vertex is from it
  have hroot : ∃ ro : Nat → Nat, ∀ p, (∃ r, F.testBit r = true ∧ p = reachN H F r) → F.testBit (ro p) = true ∧ p = reachN H F (ro p) := by
    refine ⟨fun p => open Classical in if h : ∃ r, F.testBit r = true ∧ p = reachN H F r then Classical.choose h else 0, fun p h => ?_⟩
    simp only [dif_pos h]
    exact Classical.choose_spec h
  obtain ⟨ro, hro⟩ := hroot
  have hDs : ∃ Ds : Nat → Nat → Int, ∀ r, IsDist H F r H.length (Ds r) := ⟨fun r => Classical.choose (dist_exists H F r H.length), fun r => Classical.choose_spec (dist_exists H F r H.length)⟩
  obtain ⟨Ds, hDs⟩ := hDs
  have hpart : ∀ v, v < H.length → F.testBit (ro (reachN H F v)) = true ∧ reachN H F v = reachN H F (ro (reachN H F v)) ∧ reachN H F v ∈ partsN H F := fun v hv => by
    have hvF := hFb v hv
    obtain ⟨p, hp, hpv, r, hr, he⟩ := parts_all hF32 hsN v hvF
    have e2 : reachN H F v = p := by
      rw [he]; exact reach_eq hF32 hsN hr (by rw [← he]; exact hpv)
    have := hro (reachN H F v) ⟨v, hvF, rfl⟩
    exact ⟨this.1, this.2, e2 ▸ hp⟩
  have hpar : ∀ v, v < H.length → v ∉ (partsN H F).map ro → ∃ x, x < H.length ∧ (H.getD v 0).testBit x = true ∧ (Ds (ro (reachN H F v)) v).toNat = (Ds (ro (reachN H F x)) x).toNat + 1 := fun v hv hvR => by
    obtain ⟨h1, h2, h3⟩ := hpart v hv
    generalize hr : ro (reachN H F v) = r at *
    have hI : DistI H F r H.length := ⟨hWI, hF, hFlt r h1⟩
    have hvr : (reachN H F r).testBit v = true := by rw [← h2]; exact reach_start hF32 (by omega)
    have h0 := ((reach_ball hI (hDs r) h1 v).1 hvr).2
    have hne : Ds r v ≠ 0 := fun e => by
      have := dist_zero (hDs r) hv e
      subst this
      exact hvR (List.mem_map.2 ⟨reachN H F v, h3, hr⟩)
    obtain ⟨k, hk⟩ : ∃ k : Nat, Ds r v = ((k + 1 : Nat) : Int) := ⟨(Ds r v).toNat - 1, by omega⟩
    obtain ⟨x, hx, hb, hd⟩ := dist_prev hI (hDs r) hs hv hk
    refine ⟨x, hx, hb, ?_⟩
    have hxr : (reachN H F r).testBit x = true := (reach_ball hI (hDs r) h1 x).2 ⟨hx, by omega⟩
    have e3 : reachN H F x = reachN H F r := reach_eq hF32 hsN h1 hxr
    rw [e3, ← h2, hr, hk, hd]
    omega
  have hpf : ∃ par : Nat → Nat, ∀ v, v < H.length → v ∉ (partsN H F).map ro → par v < H.length ∧ (H.getD v 0).testBit (par v) = true ∧ (Ds (ro (reachN H F v)) v).toNat = (Ds (ro (reachN H F (par v))) (par v)).toNat + 1 := by
    refine ⟨fun v => open Classical in if h : v < H.length ∧ v ∉ (partsN H F).map ro then Classical.choose (hpar v h.1 h.2) else 0, fun v h1 h2 => ?_⟩
    simp only [dif_pos (show v < H.length ∧ v ∉ (partsN H F).map ro from ⟨h1, h2⟩)]
    exact Classical.choose_spec (hpar v h1 h2)
  obtain ⟨par, hpf⟩ := hpf
  have hc := forest_count (lvl := fun v => (Ds (ro (reachN H F v)) v).toNat) (par := par) hH32 hs hpf hq
  rw [sides_len, List.length_map] at hc
  omega
end Go.Proofs.YtgkkgagnoeedaaaDoor
