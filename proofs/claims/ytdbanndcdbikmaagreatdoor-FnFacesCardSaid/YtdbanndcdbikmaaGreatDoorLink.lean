/- A graph that a call builds: the empty graph, the link. -/
import Derived.Test.YtdbanndcdbikmaaGreatDoorPairs
import Derived.Test.YtdbanndcdbikmaaGreatDoorMark4
import Derived.Test.YtdbanndcdbikmaaGreatDoorLoopL
import Derived.Test.YtdbanndcdbikmaaGreatDoorFit4
import Derived.Test.YtdbanndcdbikmaaGreatDoorReach2
namespace Go.Proofs.YtdbanndcdbikmaaGreatDoor
open Go.RowKit
/-- One row more, laid behind all that was. -/
theorem ownR_snoc {w w' : World} {B C : Nat} {EO EI : TypeId} {u u' : Value} {g : List (List Int)} {r : List Int} {v : Value} {vs : List Value} (hl : vs.length = g.length) (hC : C ≤ w.heap.size) (hap : ApartL vs) (hrow : ∀ i (h : i < g.length) (h2 : i < vs.length), Own w B EI 1 vs[i] g[i].length (g[i].map (.int .i64)) ∧ (∀ b, vs[i].ownBlock = some b → b < C ∧ u.ownBlock ≠ some b)) (hbC : ∀ b, u.ownBlock = some b → b < C)
    (hown : Own w' B EO 1 u' (g.length + 1) (vs ++ [v])) (hv : Own w B EI 1 v r.length (r.map (.int .i64))) (hvC : ∀ b, v.ownBlock = some b → C ≤ b) (hk : KeptBut w w' u.ownBlock) (hm : u'.ownBlock = u.ownBlock ∨ ∃ b, u'.ownBlock = some b ∧ w.heap.size ≤ b) : OwnR w' B w'.heap.size EO EI u' (g ++ [r]) := by
  have hu' : ∀ b, b < w.heap.size → u.ownBlock ≠ some b → u'.ownBlock ≠ some b := fun b hb hne e => by
    rcases hm with h | ⟨c, h, hc⟩
    · rw [h] at e; exact hne e
    · rw [h] at e; simp at e; omega
  refine ⟨vs ++ [v], by simp [hl], by rw [List.length_append, List.length_singleton]; exact hown, fun b hb => (hown.lt b hb).2, hap.snoc (N := C) (fun i hi b hb => ((hrow i (by omega) hi).2 b hb).1) hvC, fun i hi hi2 => ?_⟩
  by_cases e : i < g.length
  · rw [List.getElem_append_left e, List.getElem_append_left (by omega)]
    obtain ⟨h1, h2⟩ := hrow i e (by omega)
    exact ⟨h1.kept hk (fun b hb he => (h2 b hb).2 he), fun b hb => ⟨Nat.lt_of_lt_of_le (h1.lt b hb).2 hk.2.2.2.1, hu' b (h1.lt b hb).2 (h2 b hb).2⟩⟩
  · have e2 : i = g.length := by simp at hi; omega
    subst e2
    rw [List.getElem_append_right (by omega), List.getElem_append_right (by omega)]
    have a1 : g.length - vs.length = 0 := by omega
    simp only [Nat.sub_self, a1, List.getElem_cons_zero]
    have hne : ∀ b, v.ownBlock = some b → u.ownBlock ≠ some b := fun b hb he => by have h1 := hbC b he; have h2 := hvC b hb; omega
    exact ⟨hv.kept hk (fun b hb he => hne b hb he), fun b hb => ⟨Nat.lt_of_lt_of_le (hv.lt b hb).2 hk.2.2.2.1, hu' b (hv.lt b hb).2 (hne b hb)⟩⟩
/-- A row set anew. -/
theorem ownR_set {w w1 : World} {B C ab n c k : Nat} {EO EI : TypeId} {g : List (List Int)} {r : List Int} {v : Value} (h : OwnR w B C EO EI (.slice (some ⟨ab, 0, none⟩) n c) g) (hb : Below w.heap.size w w1) (hC : C ≤ w.heap.size) (hB : B ≤ w.heap.size) (hk : k < g.length)
    (hv : Own w1 w.heap.size EI 1 v r.length (r.map (.int .i64))) : OwnR (w1.setCell ⟨ab, k, none⟩ v) B w1.heap.size EO EI (.slice (some ⟨ab, 0, none⟩) n c) (g.set k r) := by
  obtain ⟨vs, h1, h2, h3, hap, h4⟩ := h
  obtain ⟨a, cc, hn⟩ := h2.isSlice
  simp only [Value.slice.injEq] at hn
  obtain ⟨-, rfl, -⟩ := hn
  have hab : B ≤ ab ∧ ab < w.heap.size := h2.lt ab rfl
  have hset : ∀ b, b ≠ ab → (w1.setCell ⟨ab, k, none⟩ v).heap[b]? = w1.heap[b]? := fun b hb => Below.heap_setCell _ _ _ _ (by simpa using hb)
  have hsz := hb.size
  refine ⟨vs.set k v, by simp [h1], ?_, fun b hb => ?_, ?_, fun i hi hi2 => ?_⟩
  · rw [List.length_set]
    exact (h2.below hb (Nat.le_refl _)).stored k v
  · have : ab = b := by simpa [Value.ownBlock] using hb
    omega
  · intro i j hi hj b hb1 hb2
    rw [List.length_set] at hi hj
    rw [List.getElem_set] at hb1 hb2
    by_cases ei : k = i <;> by_cases ej : k = j
    · omega
    · rw [if_pos ei] at hb1; rw [if_neg ej] at hb2
      have h5 := (hv.lt b hb1).1; have h6 := ((h4 j (by omega) hj).2 b hb2).1; omega
    · rw [if_neg ei] at hb1; rw [if_pos ej] at hb2
      have h5 := (hv.lt b hb2).1; have h6 := ((h4 i (by omega) hi).2 b hb1).1; omega
    · rw [if_neg ei] at hb1; rw [if_neg ej] at hb2
      exact hap i j hi hj b hb1 hb2
  · rw [List.length_set] at hi hi2
    have hne : ∀ b, b ≠ ab → (w1.setCell ⟨ab, k, none⟩ v).heap[b]? = w1.heap[b]? := hset
    by_cases e : k = i
    · subst e
      rw [List.getElem_set_self, List.getElem_set_self]
      refine ⟨(hv.keep fun b hbv => hset b (by have := (hv.lt b hbv).1; omega)).weak hB, fun b hbv => ⟨(hv.lt b hbv).2, fun he => ?_⟩⟩
      have : ab = b := by simpa [Value.ownBlock] using he
      have := (hv.lt b hbv).1; omega
    · rw [List.getElem_set_ne e, List.getElem_set_ne e]
      obtain ⟨h5, h6⟩ := h4 i hi hi2
      refine ⟨(h5.below hb (Nat.le_refl _)).keep fun b hbv => hset b (fun he => (h6 b hbv).2 (by rw [he]; rfl)), fun b hbv => ⟨?_, (h6 b hbv).2⟩⟩
      have := (h6 b hbv).1; omega
/-- Looks at an own graph's row. -/
theorem OwnR.row {w : World} {B C ab n c k : Nat} {EO EI : TypeId} {g : List (List Int)} (h : OwnR w B C EO EI (.slice (some ⟨ab, 0, none⟩) n c) g) (hk : k < g.length) : ∃ ra rc, w.cell? ⟨ab, k, none⟩ = some (.slice ra g[k].length rc) ∧ w.frozen? ⟨ab, k, none⟩ = false ∧ Own w B EI 1 (.slice ra g[k].length rc) g[k].length (g[k].map (.int .i64)) ∧ ab < w.heap.size ∧ B ≤ ab := by
  obtain ⟨vs, h1, h2, h3, hap, h4⟩ := h
  have h5 := (h4 k hk (by omega)).1
  obtain ⟨ra, rc, hre⟩ := h5.isSlice
  have hn : n = g.length := by
    obtain ⟨a, cc, hn⟩ := h2.isSlice
    simp only [Value.slice.injEq] at hn
    exact hn.2.1
  subst hn
  have hkv : k < vs.length := by omega
  have hlt := h2.lt ab rfl
  rw [hre] at h5
  exact ⟨ra, rc, (World.ownsRow.cellAt h2 k (by omega)).trans (by simp [hkv, hre]), World.ownsRow.frozenAt h2 k, h5, hlt.2, hlt.1⟩
theorem OwnR.rowM {w : World} {B C ab n c k : Nat} {EO EI : TypeId} {M : List Nat} (h : OwnR w B C EO EI (.slice (some ⟨ab, 0, none⟩) n c) (M.map bitsI)) (hk : k < M.length) : ∃ ra rc, w.cell? ⟨ab, k, none⟩ = some (.slice ra (bitsI M[k]).length rc) ∧ w.frozen? ⟨ab, k, none⟩ = false ∧ OwnB w B EI (.slice ra (bitsI M[k]).length rc) M[k] ∧ ab < w.heap.size ∧ B ≤ ab := by
  have := h.row (k := k) (by simpa using hk)
  simpa [OwnB] using this
def linkN (M : List Nat) (k i : Nat) : List Nat := (M.set k (M.getD k 0 ||| bit i)).set i (M.getD i 0 ||| bit k)
theorem linkN_len (M : List Nat) (k i : Nat) : (linkN M k i).length = M.length := by simp [linkN]
theorem OwnR.drewR {w : World} {B C : Nat} {EO EI : TypeId} {u : Value} {g : List (List Int)} (h : OwnR w B C EO EI u g) : OwnR w.drew B C EO EI u g := h.below (B1 := w.heap.size) ((Below.refl _ _).drew) (Nat.le_refl _)
/-- Blocks of elements of other types are other blocks. -/
theorem own_type {w : World} {B B' : Nat} {E E' : TypeId} {s s' : Nat} {v v' : Value} {n n' : Nat} {xs xs' : List Value} (h : Own w B E s v n xs) (h' : Own w B' E' s' v' n' xs') (hE : E ≠ E') (b : Nat) (hb : v.ownBlock = some b) : v'.ownBlock ≠ some b := by
  intro hb'
  rcases h.2 with ⟨rfl, -⟩ | ⟨g, cap, cur, rfl, -, hg, -⟩
  · simp [Value.ownBlock] at hb
  · rcases h'.2 with ⟨rfl, -⟩ | ⟨g', cap', cur', rfl, -, hg', -⟩
    · simp [Value.ownBlock] at hb'
    · have e1 : g = b := by simpa [Value.ownBlock] using hb
      have e2 : g' = b := by simpa [Value.ownBlock] using hb'
      subst e1; subst e2
      rw [hg] at hg'
      simp only [Option.some.injEq, Obj.cells.injEq] at hg'
      exact hE hg'.2.1
theorem OwnR.setOther {w : World} {B C B' b : Nat} {EO EI E : TypeId} {u : Value} {g : List (List Int)} {xs : List Value} (h : OwnR w B C EO EI u g) (h' : Own w B' E 1 (.slice (some ⟨b, 0, none⟩) 1 1) 1 xs) (h1 : EO ≠ E) (h2 : EI ≠ E) (x : Value) : OwnR (w.setCell ⟨b, 0, none⟩ x) B C EO EI u g := by
  obtain ⟨vs, a1, a2, a3, hap, a4⟩ := h
  have hset : ∀ k, k ≠ b → (w.setCell ⟨b, 0, none⟩ x).heap[k]? = w.heap[k]? := fun k hk => Below.heap_setCell _ _ _ _ (by simpa using hk)
  exact ⟨vs, a1, a2.keep fun k hk => hset k (fun e => own_type a2 h' h1 k hk (by rw [e]; rfl)), a3, hap, fun i hi hi2 => ⟨(a4 i hi hi2).1.keep fun k hk => hset k (fun e => own_type (a4 i hi hi2).1 h' h2 k hk (by rw [e]; rfl)), (a4 i hi hi2).2⟩⟩
set_option maxRecDepth 100000 in
set_option maxHeartbeats 4000000 in
theorem l1Link_any {B C k i : Nat} {u : Value} {M : List Nat} {w : World} (hu : OwnR w B C 36 2 u (M.map bitsI)) (hC : C ≤ w.heap.size) (hB : B ≤ w.heap.size) (hk : k < M.length) (hi : i < M.length) (hki : k ≠ i) (hM : ∀ m ∈ M, m < 65536) (hl : M.length ≤ 16) (h1 : (M.getD k 0).testBit i = false) (h2 : (M.getD i 0).testBit k = false) :
    Calls Tryz.prog 131 #[.agg #[u], .int .i64 (k : Int), .int .i64 (i : Int)] w fun e w' => e = .returned (.agg #[u]) ∧ OwnR w' B w'.heap.size 36 2 u ((linkN M k i).map bitsI) ∧ Below B w w' ∧ (∀ b, b < w.heap.size → u.ownBlock ≠ some b → w'.heap[b]? = w.heap[b]?) := by
  obtain ⟨ab, uc, rfl⟩ : ∃ ab uc, u = .slice (some ⟨ab, 0, none⟩) M.length uc := by
    obtain ⟨vs, -, h, -⟩ := hu
    rw [List.length_map] at h
    exact own_some h (by omega)
  have hk0 : M.getD k 0 = M[k] := by simp [hk]
  have hi0 : M.getD i 0 = M[i] := by simp [hi]
  have hLN := Lib.hid (show linkN M k i = (M.set k (M[k] ||| bit i)).set i (M[i] ||| bit k) by rw [linkN, hk0, hi0])
  have hMk := hM _ (List.getElem_mem hk)
  have hMi := hM _ (List.getElem_mem hi)
  rw [hk0] at h1
  rw [hi0] at h2
  have hq0 : Below w.heap.size w ((w.alloc (.cells #[.slice (some ⟨ab, 0, none⟩) M.length uc] 26)).alloc (.cells #[.slice none 0 0] 26)) := ((Below.refl _ _).alloc (Nat.le_refl _) _).alloc (by simp) _
  have hu0 := hu.below hq0 (Nat.le_refl _)
  obtain ⟨ra, rc, hc0, -, -, hab, hBab⟩ := hu.rowM hk
  have hcb := (hq0.cell (p := ⟨ab, k, none⟩) hab).trans hc0
  have hrow1 := fun (W : World) (B1 : Nat) (h : OwnR W B1 C 36 2 (.slice (some ⟨ab, 0, none⟩) M.length uc) (M.map bitsI)) => h.rowM hk
  have hres := own_new (w.alloc (.cells #[.slice (some ⟨ab, 0, none⟩) M.length uc] 26)) (w.heap.size + 1) 26 (.slice none 0 0) (by simp)
  rw [show (w.alloc (.cells #[.slice (some ⟨ab, 0, none⟩) M.length uc] 26)).heap.size = w.heap.size + 1 by simp] at hres
  have hlm : (M.map bitsI).length = M.length := by simp
  have HI := Lib.hid (show (M.set k (M[k] ||| bit i))[i]'(by simpa using hi) = M[i] from List.getElem_set_ne hki _)
  have hne : ab ≠ w.heap.size := by omega
  have hne2 : ab ≠ w.heap.size + 1 := by omega
  clear hk0 hi0 hc0 hM
  go_enter Tryz.func131, Tryz.ntmps131
  go_wp2
  refine wp_region_late (S := (fun w' => w'.cell? ⟨w.heap.size, 0, none⟩ = some (.slice (some ⟨ab, 0, none⟩) M.length uc) ∧ w'.cell? ⟨ab, k, none⟩ = some (.slice ra (bitsI M[k]).length rc))) (late := [11]) (by kernel_rfl) ?_ (fun hHeld => ?_)
  · first | exact ⟨‹_›, ‹_›⟩ | (simp [*, go_sem])
  obtain ⟨c0, cr⟩ := hHeld
  have hu1 := hu0.drewR
  have hq1 := hq0.drew
  have hres1 := hres.drawn (Drawn.refl _).drew
  generalize World.drew _ = wd at c0 cr hu1 hq1 hres1 ⊢
  have hHeld : (fun w' => World.cell? w' ⟨w.heap.size, 0, none⟩ = some (.slice (some ⟨ab, 0, none⟩) M.length uc) ∧ World.cell? w' ⟨ab, k, none⟩ = some (.slice ra (bitsI M[k]).length rc)) wd := ⟨c0, cr⟩
  have hwd := hq1.size
  obtain ⟨ra', rc', hc1, hf1, hown1, -, -⟩ := hu1.rowM hk
  obtain ⟨rfl, rfl⟩ : ra' = ra ∧ rc' = rc := by simpa using (Option.some.inj (hc1.symm.trans cr))
  refine wpLate_take (i := 0) (v := ?v1) (by simp only [List.getElem?_toArray, List.getElem?_cons_zero]; exact rfl) (by kernel_rfl) (by kernel_rfl) (by kernel_rfl) (by intro _ _ _ h; exact h) (Or.inl ⟨by rfl, ?y1⟩) ?_
  case y1 => (intro w _; go_simp; try (with_reducible rfl))
  try simp only [Act.put, List.setIfInBounds_toArray, List.set_cons_zero, List.set_cons_succ]
  refine wpLate_load (i := 1) (v := ?v2) (by simp only [List.getElem?_toArray, List.getElem?_cons_succ, List.getElem?_cons_zero]; exact rfl) (by kernel_rfl) (by kernel_rfl) (by kernel_rfl) (by kernel_rfl) (by intro _ _ _ h; exact h) (Or.inl ⟨by rfl, ?y2⟩) hHeld ?_
  case y2 => (intro w hSw; (try dsimp only at hSw); go_simp; try (with_reducible rfl))
  try simp only [Act.put, List.setIfInBounds_toArray, List.set_cons_zero, List.set_cons_succ]
  refine wpLate_take (i := 2) (v := ?v3) (by simp only [List.getElem?_toArray, List.getElem?_cons_succ, List.getElem?_cons_zero]; exact rfl) (by kernel_rfl) (by kernel_rfl) (by kernel_rfl) (by intro _ _ _ h; exact h) (Or.inl ⟨by rfl, ?y3⟩) ?_
  case y3 => (intro w _; go_simp; try (with_reducible rfl))
  try simp only [Act.put, List.setIfInBounds_toArray, List.set_cons_zero, List.set_cons_succ]
  refine wpLate_take (i := 3) (v := ?v4) (by simp only [List.getElem?_toArray, List.getElem?_cons_succ, List.getElem?_cons_zero]; exact rfl) (by kernel_rfl) (by kernel_rfl) (by kernel_rfl) (by intro _ _ _ h; exact h) (Or.inl ⟨by rfl, ?y4⟩) ?_
  case y4 => (intro w _; go_simp; try (with_reducible rfl))
  try simp only [Act.put, List.setIfInBounds_toArray, List.set_cons_zero, List.set_cons_succ]
  refine wpLate_load (i := 4) (v := ?v5) (by simp only [List.getElem?_toArray, List.getElem?_cons_succ, List.getElem?_cons_zero]; exact rfl) (by kernel_rfl) (by kernel_rfl) (by kernel_rfl) (by kernel_rfl) (by intro _ _ _ h; exact h) (Or.inl ⟨by rfl, ?y5⟩) hHeld ?_
  case y5 => (intro w hSw; (try dsimp only at hSw); go_simp; try (with_reducible rfl))
  try simp only [Act.put, List.setIfInBounds_toArray, List.set_cons_zero, List.set_cons_succ]
  refine wpLate_take (i := 5) (v := ?v6) (by simp only [List.getElem?_toArray, List.getElem?_cons_succ, List.getElem?_cons_zero]; exact rfl) (by kernel_rfl) (by kernel_rfl) (by kernel_rfl) (by intro _ _ _ h; exact h) (Or.inl ⟨by rfl, ?y6⟩) ?_
  case y6 => (intro w _; go_simp; try (with_reducible rfl))
  try simp only [Act.put, List.setIfInBounds_toArray, List.set_cons_zero, List.set_cons_succ]
  refine wpLate_take (i := 6) (v := ?v7) (by simp only [List.getElem?_toArray, List.getElem?_cons_succ, List.getElem?_cons_zero]; exact rfl) (by kernel_rfl) (by kernel_rfl) (by kernel_rfl) (by intro _ _ _ h; exact h) (Or.inl ⟨by rfl, ?y7⟩) ?_
  case y7 => (intro w _; go_simp; try (with_reducible rfl))
  try simp only [Act.put, List.setIfInBounds_toArray, List.set_cons_zero, List.set_cons_succ]
  refine wpLate_load (i := 7) (v := ?v8) (by simp only [List.getElem?_toArray, List.getElem?_cons_succ, List.getElem?_cons_zero]; exact rfl) (by kernel_rfl) (by kernel_rfl) (by kernel_rfl) (by kernel_rfl) (by intro _ _ _ h; exact h) (Or.inl ⟨by rfl, ?y8⟩) hHeld ?_
  case y8 => (intro w hSw; (try dsimp only at hSw); go_simp; try (with_reducible rfl))
  try simp only [Act.put, List.setIfInBounds_toArray, List.set_cons_zero, List.set_cons_succ]
  refine wpLate_take (i := 8) (v := ?v9) (by simp only [List.getElem?_toArray, List.getElem?_cons_succ, List.getElem?_cons_zero]; exact rfl) (by kernel_rfl) (by kernel_rfl) (by kernel_rfl) (by intro _ _ _ h; exact h) (Or.inl ⟨by rfl, ?y9⟩) ?_
  case y9 => (intro w _; go_simp; try (with_reducible rfl))
  try simp only [Act.put, List.setIfInBounds_toArray, List.set_cons_zero, List.set_cons_succ]
  refine wpLate_one (i := 9) (by kernel_rfl) (by simp only [List.getElem?_toArray, List.getElem?_cons_succ, List.getElem?_cons_zero]; exact rfl) (by kernel_rfl) (fun K hK => ?_)
  go_simp
  refine (intoB_new hown1 (by omega) (by omega) h1).mono ?_
  rintro e wn ⟨v1, rfl, hv1, hbn⟩
  obtain ⟨v1a, v1c, rfl⟩ := Own.isSlice hv1
  have hR1 := ownR_set hu1 hbn (by omega) (by omega) (by rw [hlm]; exact hk) hv1
  rw [← List.map_set] at hR1
  have hf1 := (hbn.frozen (p := ⟨ab, k, none⟩) (by show ab < _; omega)).trans hf1
  have c0 := (hbn.cell (cell_lt c0)).trans c0
  have cr := (hbn.cell (cell_lt cr)).trans cr
  have hq2 := hq1.trans (hbn.mono hq1.size)
  try dsimp only
  refine hK.out _ _ ?h11 (fun hHeld => ?_)
  case h11 => first | exact ⟨‹_›, ‹_›⟩ | (simp [*, go_sem])
  clear hK K
  try simp only [Act.put, List.setIfInBounds_toArray, List.set_cons_zero, List.set_cons_succ]
  refine wpLate_take (i := 10) (v := ?v12) (by simp only [List.getElem?_toArray, List.getElem?_cons_succ, List.getElem?_cons_zero]; exact rfl) (by kernel_rfl) (by kernel_rfl) (by kernel_rfl) (by intro _ _ _ h; exact h) (Or.inl ⟨by rfl, ?y12⟩) ?_
  case y12 => (intro w _; go_simp; try (with_reducible rfl))
  try simp only [Act.put, List.setIfInBounds_toArray, List.set_cons_zero, List.set_cons_succ]
  refine wpLate_late (i := 11) (by kernel_rfl) (by simp only [List.getElem?_toArray, List.getElem?_cons_succ, List.getElem?_cons_zero]; exact rfl) (by kernel_rfl) (fun K hK => ?_)
  go_simp
  skip
  try dsimp only
  refine hK.out _ _ ?_
  clear hK K
  try simp only [Act.put, List.setIfInBounds_toArray, List.set_cons_zero, List.set_cons_succ]
  refine wpLate_done (by kernel_rfl) ?_ _
  have hq3 := hq2.mono hB
  have hq4 : Below B w (wn.setCell ⟨ab, k, none⟩ (.slice v1a (bitsI (M[k] ||| bit i)).length v1c)) := hq3.setCell hBab _
  have c4 : (wn.setCell ⟨ab, k, none⟩ (.slice v1a (bitsI (M[k] ||| bit i)).length v1c)).cell? ⟨w.heap.size, 0, none⟩ = some (.slice (some ⟨ab, 0, none⟩) M.length uc) := (World.cell?_of_block (a := ⟨w.heap.size, 0, none⟩) (Below.heap_setCell _ _ _ _ (by simpa using fun e => hne e.symm))).trans c0
  have hsz4 : (wn.setCell ⟨ab, k, none⟩ (.slice v1a (bitsI (M[k] ||| bit i)).length v1c)).heap.size = wn.heap.size := by simp
  have hres4 := (hres1.below hbn (Nat.le_refl _)).keep (w' := wn.setCell ⟨ab, k, none⟩ (.slice v1a (bitsI (M[k] ||| bit i)).length v1c)) (fun b hb => Below.heap_setCell _ _ _ _ (by have hbe : w.heap.size + 1 = b := (by simpa [Value.ownBlock] using hb); (simp; omega)))
  have hfr1 : ∀ b, b < w.heap.size → b ≠ ab → (wn.setCell ⟨ab, k, none⟩ (.slice v1a (bitsI (M[k] ||| bit i)).length v1c)).heap[b]? = w.heap[b]? := fun b hb he => (Below.heap_setCell _ _ _ _ (by simpa using he)).trans (hq2.block b hb)
  have hM1l : (M.set k (M[k] ||| bit i)).length = M.length := by simp
  have hiM : i < (M.set k (M[k] ||| bit i)).length := by rw [hM1l]; exact hi
  have hsz5 := hq4.size
  have hwB : wn.heap.size ≤ (wn.setCell ⟨ab, k, none⟩ (.slice v1a (bitsI (M[k] ||| bit i)).length v1c)).heap.size := by simp
  rw [← hM1l] at hR1 c4
  have HM1L := Lib.hid hM1l
  have hdl := hbn.size
  have hdl2 : w.heap.size < wd.heap.size := by have h := hres1.lt (w.heap.size + 1) rfl; omega
  generalize (wn.setCell ⟨ab, k, none⟩ (.slice v1a (bitsI (M[k] ||| bit i)).length v1c)) = wz at *
  clear hq1 hq2 hq3 hc1 cr c0 hf1 hown1 hv1 hbn hres1 hu1 hM1l
  obtain ⟨ra2, rc2, d1, -, -, habz, -⟩ := hR1.rowM hiM
  simp only [HI.out] at d1
  have hrd := fun (W : World) (h : OwnR W B wn.heap.size 36 2 (.slice (some ⟨ab, 0, none⟩) (M.set k (M[k] ||| bit i)).length uc) ((M.set k (M[k] ||| bit i)).map bitsI)) => h.rowM hiM
  simp only [HI.out] at hrd
  have hlm2 : ((M.set k (M[k] ||| bit i)).map bitsI).length = (M.set k (M[k] ||| bit i)).length := by simp
  clear HI
  generalize hM1 : M.set k (M[k] ||| bit i) = M1 at *
  have HM1 := Lib.hid hM1
  rw [← HM1L.out] at hi
  have hlM1 : M1.length ≤ 16 := by rw [HM1L.out]; exact hl
  have hk1 : k < M1.length := by rw [HM1L.out]; exact hk
  clear hM1 hu hu0 hcb hrow1 hlm hq0
  go_wp2
  refine wp_region_late (S := (fun w' => w'.cell? ⟨w.heap.size, 0, none⟩ = some (.slice (some ⟨ab, 0, none⟩) M1.length uc) ∧ w'.cell? ⟨ab, i, none⟩ = some (.slice ra2 (bitsI M[i]).length rc2))) (late := [11]) (by kernel_rfl) ?_ (fun hHeld => ?_)
  · first | exact ⟨‹_›, ‹_›⟩ | (simp [*, go_sem])
  obtain ⟨c0, cr⟩ := hHeld
  have hu1 := hR1.drewR
  have hq1 := hq4.drew
  have hb1 : Below wz.heap.size wz wz.drew := (Below.refl _ _).drew
  have hres5 := hres4.drawn (Drawn.refl _).drew
  generalize World.drew _ = wd2 at c0 cr hu1 hq1 hres5 hb1 ⊢
  have hHeld : (fun w' => World.cell? w' ⟨w.heap.size, 0, none⟩ = some (.slice (some ⟨ab, 0, none⟩) M1.length uc) ∧ World.cell? w' ⟨ab, i, none⟩ = some (.slice ra2 (bitsI M[i]).length rc2)) wd2 := ⟨c0, cr⟩
  have hwd2 := hb1.size
  obtain ⟨ra', rc', hc1, hf1, hown1, -, -⟩ := hrd _ hu1
  obtain ⟨rfl, rfl⟩ : ra' = ra2 ∧ rc' = rc2 := by simpa using (Option.some.inj (hc1.symm.trans cr))
  refine wpLate_take (i := 0) (v := ?v15) (by simp only [List.getElem?_toArray, List.getElem?_cons_zero]; exact rfl) (by kernel_rfl) (by kernel_rfl) (by kernel_rfl) (by intro _ _ _ h; exact h) (Or.inl ⟨by rfl, ?y15⟩) ?_
  case y15 => (intro w _; go_simp; try (with_reducible rfl))
  try simp only [Act.put, List.setIfInBounds_toArray, List.set_cons_zero, List.set_cons_succ]
  refine wpLate_load (i := 1) (v := ?v16) (by simp only [List.getElem?_toArray, List.getElem?_cons_succ, List.getElem?_cons_zero]; exact rfl) (by kernel_rfl) (by kernel_rfl) (by kernel_rfl) (by kernel_rfl) (by intro _ _ _ h; exact h) (Or.inl ⟨by rfl, ?y16⟩) hHeld ?_
  case y16 => (intro w hSw; (try dsimp only at hSw); go_simp; try (with_reducible rfl))
  try simp only [Act.put, List.setIfInBounds_toArray, List.set_cons_zero, List.set_cons_succ]
  refine wpLate_take (i := 2) (v := ?v17) (by simp only [List.getElem?_toArray, List.getElem?_cons_succ, List.getElem?_cons_zero]; exact rfl) (by kernel_rfl) (by kernel_rfl) (by kernel_rfl) (by intro _ _ _ h; exact h) (Or.inl ⟨by rfl, ?y17⟩) ?_
  case y17 => (intro w _; go_simp; try (with_reducible rfl))
  try simp only [Act.put, List.setIfInBounds_toArray, List.set_cons_zero, List.set_cons_succ]
  refine wpLate_take (i := 3) (v := ?v18) (by simp only [List.getElem?_toArray, List.getElem?_cons_succ, List.getElem?_cons_zero]; exact rfl) (by kernel_rfl) (by kernel_rfl) (by kernel_rfl) (by intro _ _ _ h; exact h) (Or.inl ⟨by rfl, ?y18⟩) ?_
  case y18 => (intro w _; go_simp; try (with_reducible rfl))
  try simp only [Act.put, List.setIfInBounds_toArray, List.set_cons_zero, List.set_cons_succ]
  refine wpLate_load (i := 4) (v := ?v19) (by simp only [List.getElem?_toArray, List.getElem?_cons_succ, List.getElem?_cons_zero]; exact rfl) (by kernel_rfl) (by kernel_rfl) (by kernel_rfl) (by kernel_rfl) (by intro _ _ _ h; exact h) (Or.inl ⟨by rfl, ?y19⟩) hHeld ?_
  case y19 => (intro w hSw; (try dsimp only at hSw); go_simp; try (with_reducible rfl))
  try simp only [Act.put, List.setIfInBounds_toArray, List.set_cons_zero, List.set_cons_succ]
  refine wpLate_take (i := 5) (v := ?v20) (by simp only [List.getElem?_toArray, List.getElem?_cons_succ, List.getElem?_cons_zero]; exact rfl) (by kernel_rfl) (by kernel_rfl) (by kernel_rfl) (by intro _ _ _ h; exact h) (Or.inl ⟨by rfl, ?y20⟩) ?_
  case y20 => (intro w _; go_simp; try (with_reducible rfl))
  try simp only [Act.put, List.setIfInBounds_toArray, List.set_cons_zero, List.set_cons_succ]
  refine wpLate_take (i := 6) (v := ?v21) (by simp only [List.getElem?_toArray, List.getElem?_cons_succ, List.getElem?_cons_zero]; exact rfl) (by kernel_rfl) (by kernel_rfl) (by kernel_rfl) (by intro _ _ _ h; exact h) (Or.inl ⟨by rfl, ?y21⟩) ?_
  case y21 => (intro w _; go_simp; try (with_reducible rfl))
  try simp only [Act.put, List.setIfInBounds_toArray, List.set_cons_zero, List.set_cons_succ]
  refine wpLate_load (i := 7) (v := ?v22) (by simp only [List.getElem?_toArray, List.getElem?_cons_succ, List.getElem?_cons_zero]; exact rfl) (by kernel_rfl) (by kernel_rfl) (by kernel_rfl) (by kernel_rfl) (by intro _ _ _ h; exact h) (Or.inl ⟨by rfl, ?y22⟩) hHeld ?_
  case y22 => (intro w hSw; (try dsimp only at hSw); go_simp; try (with_reducible rfl))
  try simp only [Act.put, List.setIfInBounds_toArray, List.set_cons_zero, List.set_cons_succ]
  refine wpLate_take (i := 8) (v := ?v23) (by simp only [List.getElem?_toArray, List.getElem?_cons_succ, List.getElem?_cons_zero]; exact rfl) (by kernel_rfl) (by kernel_rfl) (by kernel_rfl) (by intro _ _ _ h; exact h) (Or.inl ⟨by rfl, ?y23⟩) ?_
  case y23 => (intro w _; go_simp; try (with_reducible rfl))
  try simp only [Act.put, List.setIfInBounds_toArray, List.set_cons_zero, List.set_cons_succ]
  refine wpLate_one (i := 9) (by kernel_rfl) (by simp only [List.getElem?_toArray, List.getElem?_cons_succ, List.getElem?_cons_zero]; exact rfl) (by kernel_rfl) (fun K hK => ?_)
  go_simp
  refine (intoB_new hown1 (by omega) (by omega) h2).mono ?_
  rintro e wn2 ⟨v2, rfl, hv2, hbn⟩
  obtain ⟨v2a, v2c, rfl⟩ := Own.isSlice hv2
  have hR2 := ownR_set hu1 hbn (by omega) (by omega) (by rw [hlm2]; exact hi) hv2
  rw [← List.map_set] at hR2
  have hf1 := (hbn.frozen (p := ⟨ab, i, none⟩) (by show ab < _; omega)).trans hf1
  have c0 := (hbn.cell (cell_lt c0)).trans c0
  have cr := (hbn.cell (cell_lt cr)).trans cr
  have hwn2 := hbn.size
  have hq2 := hq1.trans (hbn.mono (by omega))
  try dsimp only
  refine hK.out _ _ ?h25 (fun hHeld => ?_)
  case h25 => first | exact ⟨‹_›, ‹_›⟩ | (simp [*, go_sem])
  clear hK K
  try simp only [Act.put, List.setIfInBounds_toArray, List.set_cons_zero, List.set_cons_succ]
  refine wpLate_take (i := 10) (v := ?v26) (by simp only [List.getElem?_toArray, List.getElem?_cons_succ, List.getElem?_cons_zero]; exact rfl) (by kernel_rfl) (by kernel_rfl) (by kernel_rfl) (by intro _ _ _ h; exact h) (Or.inl ⟨by rfl, ?y26⟩) ?_
  case y26 => (intro w _; go_simp; try (with_reducible rfl))
  try simp only [Act.put, List.setIfInBounds_toArray, List.set_cons_zero, List.set_cons_succ]
  refine wpLate_late (i := 11) (by kernel_rfl) (by simp only [List.getElem?_toArray, List.getElem?_cons_succ, List.getElem?_cons_zero]; exact rfl) (by kernel_rfl) (fun K hK => ?_)
  go_simp
  skip
  try dsimp only
  refine hK.out _ _ ?_
  clear hK K
  try simp only [Act.put, List.setIfInBounds_toArray, List.set_cons_zero, List.set_cons_succ]
  refine wpLate_done (by kernel_rfl) ?_ _
  have hq5 : Below B w (wn2.setCell ⟨ab, i, none⟩ (.slice v2a (bitsI (M[i] ||| bit k)).length v2c)) := hq2.setCell hBab _
  have c5 : (wn2.setCell ⟨ab, i, none⟩ (.slice v2a (bitsI (M[i] ||| bit k)).length v2c)).cell? ⟨w.heap.size, 0, none⟩ = some (.slice (some ⟨ab, 0, none⟩) M1.length uc) := (World.cell?_of_block (a := ⟨w.heap.size, 0, none⟩) (Below.heap_setCell _ _ _ _ (by simpa using fun e => hne e.symm))).trans c0
  have hres6 := (hres5.below hbn (Nat.le_refl _)).keep (w' := wn2.setCell ⟨ab, i, none⟩ (.slice v2a (bitsI (M[i] ||| bit k)).length v2c)) (fun b hb => Below.heap_setCell _ _ _ _ (by have hbe : w.heap.size + 1 = b := (by simpa [Value.ownBlock] using hb); (simp; omega)))
  have hfr2 : ∀ b, b < w.heap.size → b ≠ ab → (wn2.setCell ⟨ab, i, none⟩ (.slice v2a (bitsI (M[i] ||| bit k)).length v2c)).heap[b]? = w.heap[b]? := fun b hb he => (Below.heap_setCell _ _ _ _ (by simpa using he)).trans ((hbn.block b (by omega)).trans ((hb1.block b (by omega)).trans (hfr1 b hb he)))
  have hsz6 : wn2.heap.size ≤ (wn2.setCell ⟨ab, i, none⟩ (.slice v2a (bitsI (M[i] ||| bit k)).length v2c)).heap.size := by simp
  rw [← hLN.out] at hR2
  rw [HM1L.out] at *
  generalize (wn2.setCell ⟨ab, i, none⟩ (.slice v2a (bitsI (M[i] ||| bit k)).length v2c)) = wy at *
  clear hq1 hq2 hc1 cr c0 hf1 hown1 hv2 hbn hres5 hu1
  obtain ⟨x1, x2, -, -⟩ := own_cell hres6
  go_wp2
  refine bodyPost_ret (v := .agg #[.slice (some ⟨ab, 0, none⟩) M.length uc]) (by simp [results, Tryz.results131, go_sem, x1]) rfl ⟨rfl, ?_, ?_, fun b hb hn => (Below.heap_setCell _ _ _ _ (by simp; omega)).trans (hfr2 b hb (fun e => hn (by rw [e]; rfl)))⟩
  · exact (hR2.setOther hres6 (by decide) (by decide) _).weaken (Nat.le_refl _) (by simp; omega)
  · exact hq5.setCell (by simp; omega) _
theorem repl_snoc (k : Nat) : (List.replicate (k + 1) ([] : List Int)) = List.replicate k [] ++ [[]] := by
  rw [List.replicate_succ']
set_option maxHeartbeats 2000000 in
theorem l1Empty_big {n : Nat} {w : World} (hn : n ≤ 1000) : Calls Tryz.prog 95 #[.int .i64 (n : Int)] w fun e w' => ∃ u, e = .returned (.agg #[u]) ∧ OwnR w' w.heap.size w'.heap.size 36 2 u (List.replicate n []) ∧ Below w.heap.size w w' := by
  have hq0 : Below w.heap.size w ((w.alloc (.cells #[.slice none 0 0] 26)).alloc (.cells #[.slice none 0 0] 26)) := ((Below.refl _ _).alloc (Nat.le_refl _) _).alloc (by simp) _
  have hr0 := (own_new w w.heap.size 26 (.slice none 0 0) (Nat.le_refl _)).alloc (.cells #[.slice none 0 0] 26)
  have hg0 := own_new (w.alloc (.cells #[.slice none 0 0] 26)) (w.heap.size + 1) 26 (.slice none 0 0) (by simp)
  rw [show (w.alloc (.cells #[.slice none 0 0] 26)).heap.size = w.heap.size + 1 by simp] at hg0
  have hR0 : OwnR ((w.alloc (.cells #[.slice none 0 0] 26)).alloc (.cells #[.slice none 0 0] 26)) w.heap.size ((w.alloc (.cells #[.slice none 0 0] 26)).alloc (.cells #[.slice none 0 0] 26)).heap.size 36 2 (.slice none 0 0) (List.replicate 0 []) := ⟨[], rfl, Own.nil _ _ _ _, fun b hb => by simp [Value.ownBlock] at hb, ApartL.nil, fun i hi => by simp at hi⟩
  go_enter Tryz.func95, Tryz.ntmps95
  go_wp2
  go_loopw [4] (fun i wr => ∃ (k : Nat) (u : Value), k ≤ n ∧ i = .int .i64 k ∧ OwnR wr w.heap.size wr.heap.size 36 2 u (List.replicate k []) ∧ Own wr w.heap.size 26 1 (.slice (some ⟨w.heap.size, 0, none⟩) 1 1) 1 [.slice none 0 0] ∧ Own wr (w.heap.size + 1) 26 1 (.slice (some ⟨w.heap.size + 1, 0, none⟩) 1 1) 1 [u] ∧ Below w.heap.size w wr) (fun i _ => n - (intOf i).toNat)
  case atStart => exact ⟨0, _, Nat.zero_le _, rfl, hR0, hr0, hg0, hq0⟩
  case round =>
    clear hR0 hr0 hg0 hq0
    obtain ⟨k, u, hk, rfl, hR, hr, hg, hq⟩ := hrel
    obtain ⟨wi, rfl⟩ : ∃ wx : World, wx = wr := ⟨_, rfl⟩
    obtain ⟨g1, g2, -, g3⟩ := own_cell hg
    obtain ⟨r1, r2, -, r3⟩ := own_cell hr
    obtain ⟨ua, uc, rfl⟩ := hR.isSlice
    rw [List.length_replicate] at *
    by_cases hlt : k < n
    · have hba : Below wi.heap.size wi (wi.alloc (.cells #[] 2)) := (Below.refl _ _).alloc (Nat.le_refl _) _
      have hv2 : Own (wi.alloc (.cells #[] 2)) wi.heap.size 2 1 (.slice (some ⟨wi.heap.size, 0, none⟩) 0 0) ([] : List Int).length (([] : List Int).map (.int .i64)) := World.ownsRow_lit (base := wi.heap.size) (e := 2) (size := 1) wi #[] 0 (Nat.le_refl _) (by unfold maxLen; omega) rfl
      have hr3 := hr.below hba (Nat.le_refl _)
      have hg4 := hg.below hba (Nat.le_refl _)
      have hq2 := hq.trans (hba.mono hq.size)
      obtain ⟨vs, hvl, hown, hbC, hap, hrows⟩ := hR
      rw [List.length_replicate] at hvl hown
      have hown2 := hown.below hba (Nat.le_refl _)
      have hrows2 : ∀ i (h : i < (List.replicate k ([] : List Int)).length) (h2 : i < vs.length), Own (wi.alloc (.cells #[] 2)) w.heap.size 2 1 vs[i] (List.replicate k ([] : List Int))[i].length ((List.replicate k ([] : List Int))[i].map (.int .i64)) ∧ (∀ b, vs[i].ownBlock = some b → b < wi.heap.size ∧ _) := fun i h h2 => ⟨(hrows i h h2).1.below hba (Nat.le_refl _), (hrows i h h2).2⟩
      have hB2 := hq.size
      clear hrows
      go_wp2_with (at_builtin; refine wpList_append1b elRows rfl _ _ rfl hown2 rfl (by first | rfl | simp) rfl rfl (by omega) (by simp; omega) ?_; intro o5 w5 hown5 hkept hmv; have hg5 := hg4.kept hkept (fun b hb he => own_type hg4 hown2 (by decide) b hb he); have hr5 := hr3.kept hkept (fun b hb he => own_type hr3 hown2 (by decide) b hb he); obtain ⟨x1, x2, -, x3⟩ := own_cell hg5; obtain ⟨oa5, oc5, rfl⟩ := hown5.isSlice)
      have hR5 : OwnR w5 w.heap.size w5.heap.size 36 2 (.slice oa5 (k + 1) oc5) (List.replicate k [] ++ [[]]) := ownR_snoc (by rw [List.length_replicate]; exact hvl) (by simp) hap hrows2 hbC (by rw [List.length_replicate]; exact hown5) (hv2.weak hB2) (fun b hb => by simp [Value.ownBlock] at hb; omega) hkept (by
        rcases hmv with h | h
        · exact .inl h
        · exact .inr ⟨_, h, by simp⟩)
      have hq5 := hkept.below hq2 hq2.size (fun c h => (hown2.lt c h).1)
      go_roundw
      case rel => exact ⟨k + 1, _, by omega, by go_num, by rw [repl_snoc]; exact (hR5.setOther hg5 (by decide) (by decide) _).weaken (Nat.le_refl _) (by simp), hr5.keep (fun b hb => Below.heap_setCell _ _ _ _ (by have hbe : w.heap.size = b := (by simpa [Value.ownBlock] using hb); (simp; omega))), own_set hg5 _, hq5.setCell (by simp) _⟩
      case measure => simp [intOf]; omega
    · obtain rfl : k = n := by omega
      go_wp2
      refine bodyPost_ret (v := .agg #[.slice ua k uc]) (by simp [results, Tryz.results95, go_sem, r1]) rfl ⟨_, rfl, ?_, ?_⟩
      · exact (hR.setOther hr (by decide) (by decide) _).weaken (Nat.le_refl _) (by simp)
      · exact hq.setCell (by simp) _
theorem l1Empty_any {n : Nat} {w : World} (hn : n ≤ 16) : Calls Tryz.prog 95 #[.int .i64 (n : Int)] w fun e w' => ∃ u, e = .returned (.agg #[u]) ∧ OwnR w' w.heap.size w'.heap.size 36 2 u (List.replicate n []) ∧ Below w.heap.size w w' := l1Empty_big (by omega)
theorem OwnR.other {w : World} {B C B' b : Nat} {EO EI E : TypeId} {u : Value} {g : List (List Int)} {xs : List Value} (h : OwnR w B C EO EI u g) (h' : Own w B' E 1 (.slice (some ⟨b, 0, none⟩) 1 1) 1 xs) (h1 : EO ≠ E) : u.ownBlock ≠ some b := by
  obtain ⟨vs, a1, a2, -⟩ := h
  exact fun e => own_type a2 h' h1 b e rfl
theorem own1_keep {w w' : World} {B b : Nat} {E : TypeId} {xs : List Value} (h : Own w B E 1 (.slice (some ⟨b, 0, none⟩) 1 1) 1 xs) (hk : w'.heap[b]? = w.heap[b]?) : Own w' B E 1 (.slice (some ⟨b, 0, none⟩) 1 1) 1 xs := h.keep fun k hb => by
  have e : b = k := by simpa [Value.ownBlock] using hb
  rw [← e]; exact hk
/-- Linked so far: all pairs below i, and i with all below k. -/
def LkG (E : Nat → Nat → Bool) (n i k : Nat) (M : List Nat) : Prop := M.length = n ∧ ∀ x, x < n → ∀ y, (M.getD x 0).testBit y = true ↔ ((y < x ∧ (x < i ∨ x = i ∧ y < k) ∧ E x y = true) ∨ (x < y ∧ (y < i ∨ y = i ∧ x < k) ∧ E y x = true))
theorem linkN_get {M : List Nat} {k i x : Nat} (hk : k < M.length) (hi : i < M.length) (hki : k ≠ i) : (linkN M k i).getD x 0 = if x = i then M.getD i 0 ||| bit k else if x = k then M.getD k 0 ||| bit i else M.getD x 0 := by
  unfold linkN
  simp only [List.getD_eq_getElem?_getD, List.getElem?_set, List.length_set]
  by_cases e1 : x = i
  · subst e1; simp [hi]
  · have e1' : ¬ i = x := fun h => e1 h.symm
    rw [if_neg e1', if_neg e1]
    by_cases e2 : x = k
    · subst e2; simp [hk]
    · have e2' : ¬ k = x := fun h => e2 h.symm
      rw [if_neg e2', if_neg e2]
theorem repl_bits (n : Nat) : (List.replicate n ([] : List Int)) = (List.replicate n 0).map bitsI := by
  rw [List.map_replicate]; first | done | (congr 1 <;> simp [bitsI, bitsN_zero])

/-- Linked along a list of pairs. -/
def EdL (L : List NP) (n : Nat) (M : List Nat) : Prop := M.length = n ∧ ∀ x, x < n → ∀ y, (M.getD x 0).testBit y = true ↔ ((x, y) ∈ L ∨ (y, x) ∈ L)
theorem EdL.start (n : Nat) : EdL [] n (List.replicate n 0) := by
  refine ⟨by simp, fun x hx y => ?_⟩
  have : (List.replicate n 0).getD x 0 = 0 := by simp [List.getD_eq_getElem?_getD, List.getElem?_replicate, hx]
  rw [this]; simp
theorem EdL.next {L : List NP} {n k i : Nat} {M : List Nat} (h : EdL L n M) (hki : k < i) (hi : i < n) : EdL (L ++ [(k, i)]) n (linkN M k i) := by
  refine ⟨by rw [linkN_len]; exact h.1, fun x hx y => ?_⟩
  have hm : ∀ p q : Nat, ((p, q) ∈ L ++ [(k, i)] ↔ ((p, q) ∈ L ∨ (p = k ∧ q = i))) := fun p q => by
    rw [List.mem_append, List.mem_singleton, Prod.mk.injEq]
  rw [hm, hm, linkN_get (by rw [h.1]; omega) (by rw [h.1]; omega) (by omega)]
  have hx2 := h.2 x hx y
  have hk2 := h.2 k (by omega) y
  have hi2 := h.2 i hi y
  by_cases e1 : x = i
  · subst e1
    rw [if_pos rfl, Nat.testBit_or, testBit_bit, Bool.or_eq_true, decide_eq_true_eq, hi2]
    constructor
    · rintro ((a | a) | a)
      · exact .inl (.inl a)
      · exact .inr (.inl a)
      · exact .inr (.inr ⟨a.symm, rfl⟩)
    · rintro ((a | a) | (a | a))
      · exact .inl (.inl a)
      · omega
      · exact .inl (.inr a)
      · exact .inr a.1.symm
  · rw [if_neg e1]
    by_cases e2 : x = k
    · subst e2
      rw [if_pos rfl, Nat.testBit_or, testBit_bit, Bool.or_eq_true, decide_eq_true_eq, hk2]
      constructor
      · rintro ((a | a) | a)
        · exact .inl (.inl a)
        · exact .inr (.inl a)
        · exact .inl (.inr ⟨rfl, a.symm⟩)
      · rintro ((a | a) | (a | a))
        · exact .inl (.inl a)
        · exact .inr a.2.symm
        · exact .inl (.inr a)
        · omega
    · rw [if_neg e2, hx2]
      constructor
      · rintro (a | a)
        · exact .inl (.inl a)
        · exact .inr (.inl a)
      · rintro ((a | a) | (a | a))
        · exact .inl a
        · omega
        · exact .inr a
        · omega
theorem EdL.pre {L : List NP} {n k i : Nat} {M : List Nat} (h : EdL L n M) (hki : k < i) (hi : i < n) (hL : ∀ s ∈ L, s.1 < s.2) (hn : (k, i) ∉ L) : (M.getD k 0).testBit i = false ∧ (M.getD i 0).testBit k = false := by
  have h2 : (i, k) ∉ L := fun hm => by have := hL _ hm; simp at this; omega
  constructor
  · cases hb : (M.getD k 0).testBit i with
    | false => rfl
    | true => rcases (h.2 k (by omega) i).1 hb with a | a; exact absurd a hn; exact absurd a h2
  · cases hb : (M.getD i 0).testBit k with
    | false => rfl
    | true => rcases (h.2 i hi k).1 hb with a | a; exact absurd a h2; exact absurd a hn
theorem EdL.lt {L : List NP} {n : Nat} {M : List Nat} (h : EdL L n M) (hL : ∀ s ∈ L, s.1 < s.2 ∧ s.2 < n) : ∀ m ∈ M, m < 2 ^ n := fun m hm => by
  obtain ⟨x, hx, rfl⟩ := List.getElem_of_mem hm
  apply Nat.lt_pow_two_of_testBit
  intro y hy
  cases hb : M[x].testBit y with
  | false => rfl
  | true =>
    have hx2 : x < n := by rw [← h.1]; exact hx
    rcases (h.2 x hx2 y).1 (by simpa [hx] using hb) with a | a
    · have := hL _ a; simp at this; omega
    · have := hL _ a; simp at this; omega
/-- Masks that hold a right graph. -/
theorem gok_masks {M : List Nat} {n : Nat} (hl : M.length = n) (h1 : 1 ≤ n) (h16 : n ≤ 16) (hlt : ∀ m ∈ M, m < 2 ^ n) (hir : ∀ x, x < n → (M.getD x 0).testBit x = false) (hsy : ∀ x y, x < n → y < n → (M.getD x 0).testBit y = true → (M.getD y 0).testBit x = true) : GOk (M.map bitsI) := by
  have h32 : ∀ m ∈ M, m < 4294967296 := fun m hm => by have := hlt m hm; have := pow_le16 h16; omega
  have hmem : ∀ (x : Nat) (hx : x < M.length) (u : Int), u ∈ bitsI M[x] ↔ ∃ i : Nat, u = (i : Int) ∧ M[x].testBit i = true := fun x hx u => by
    unfold bitsI
    simp only [List.mem_map, mem_bitsN (h32 _ (List.getElem_mem hx))]
    constructor
    · rintro ⟨i, hi, rfl⟩; exact ⟨i, rfl, hi⟩
    · rintro ⟨i, rfl, hi⟩; exact ⟨i, hi, rfl⟩
  have hbl : ∀ (x : Nat) (hx : x < M.length) (i : Nat), M[x].testBit i = true → i < n := fun x hx i hi => bit_lt_of (hlt _ (List.getElem_mem hx)) hi
  have hgd : ∀ (x : Nat) (hx : x < M.length), M.getD x 0 = M[x] := fun x hx => by simp [hx]
  refine ⟨by simp; omega, by simp; omega, fun v hv => ?_, fun v hv => ?_, fun v hv u hu => ?_⟩
  · have hv2 : v < M.length := by simpa using hv
    rw [List.getElem_map]
    intro i hi _
    have hmi := (hmem v hv2 _).1 (List.getElem_mem hi)
    obtain ⟨j, hj, hb⟩ := hmi
    have hjn := hbl v hv2 j hb
    refine ⟨by omega, by rw [hj, List.length_map]; omega, fun k hk => ?_⟩
    exact List.pairwise_iff_getElem.1 (bitsI_sorted M[v]) k i (by omega) hi hk
  · have hv2 : v < M.length := by simpa using hv
    rw [List.getElem_map, hmem v hv2]
    rintro ⟨i, hi, hb⟩
    have : v = i := by omega
    subst this
    have := hir v (by omega)
    rw [hgd v hv2, hb] at this; cases this
  · have hv2 : v < M.length := by simpa using hv
    rw [List.getElem_map, hmem v hv2] at hu
    obtain ⟨i, rfl, hb⟩ := hu
    have hin := hbl v hv2 i hb
    have hiM : i < M.length := by omega
    have h2 := hsy v i (by omega) hin (by rw [hgd v hv2]; exact hb)
    rw [hgd i hiM] at h2
    have e : (M.map bitsI).getD (i : Int).toNat [] = bitsI M[i] := by simp [hiM]
    rw [e, hmem i hiM]
    exact ⟨v, rfl, h2⟩
theorem EdL.gok {L : List NP} {n : Nat} {M : List Nat} (h : EdL L n M) (h1 : 1 ≤ n) (h16 : n ≤ 16) (hL : ∀ s ∈ L, s.1 < s.2 ∧ s.2 < n) : GOk (M.map bitsI) := by
  refine gok_masks h.1 h1 h16 (h.lt hL) (fun x hx => ?_) (fun x y hx hy hb => ?_)
  · cases hb : (M.getD x 0).testBit x with
    | false => rfl
    | true => rcases (h.2 x hx x).1 hb with a | a <;> (have := hL _ a; simp at this)
  · exact (h.2 y hy x).2 ((h.2 x hx y).1 hb).symm
/-- The pairs drawn so far. -/
structure PL (n : Nat) (L : List NP) (v u : Nat) : Prop where
  all : ∀ s ∈ L, s.1 < s.2 ∧ s.2 < n ∧ (s.2 < v ∨ s.2 = v ∧ s.1 < u)
  nd : L.Nodup
theorem PL.start (n : Nat) : PL n [] 1 0 := ⟨fun s h => (by cases h), List.nodup_nil⟩
theorem PL.skip {n : Nat} {L : List NP} {v u : Nat} (h : PL n L v u) : PL n L v (u + 1) := ⟨fun s hs => by have := h.all s hs; omega, h.nd⟩
theorem PL.row {n : Nat} {L : List NP} {v : Nat} (h : PL n L v v) : PL n L (v + 1) 0 := ⟨fun s hs => by have := h.all s hs; omega, h.nd⟩
theorem PL.add {n : Nat} {L : List NP} {v u : Nat} (h : PL n L v u) (hu : u < v) (hv : v < n) : PL n (L ++ [(u, v)]) v (u + 1) := by
  refine ⟨fun s hs => ?_, ?_⟩
  · rcases List.mem_append.1 hs with a | a
    · have := h.all s a; omega
    · simp at a; subst a; exact ⟨hu, hv, .inr ⟨rfl, by simp⟩⟩
  · rw [List.nodup_append]
    refine ⟨h.nd, by simp, fun a ha b hb e => ?_⟩
    simp at hb
    have := h.all a ha
    rw [e, hb] at this; simp at this
theorem own1_kept {w w' : World} {B b : Nat} {E : TypeId} {xs : List Value} {r : Option Nat} (h : Own w B E 1 (.slice (some ⟨b, 0, none⟩) 1 1) 1 xs) (hk : KeptBut w w' r) (hr : r ≠ some b) : Own w' B E 1 (.slice (some ⟨b, 0, none⟩) 1 1) 1 xs :=
  h.keep fun k hb => by
    have e : b = k := by simpa [Value.ownBlock] using hb
    subst e
    exact hk.2.2.2.2 b (h.lt b rfl).2 (fun e => hr e.symm)
theorem gok_small {g : List (List Int)} (hg : GOk g) : SmallR g 1048576 := ⟨by have := hg.hi; omega, fun i hi _ => by have := rise_len (hg.rise i hi) (by omega); have := hg.hi; omega⟩
end Go.Proofs.YtdbanndcdbikmaaGreatDoor
