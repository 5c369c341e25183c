/- A graph that a call builds: the link, the empty graph. -/
import Derived.Test.YtklnjpdpinccoaaOrb1
namespace Go.Proofs.Ytklnjpdpinccoaa
open Go.RowKit
theorem OwnR.rowM {w : World} {B C ab n c k : Nat} {EO EI : TypeId} {M : List Nat} (h : OwnR w B C EO EI (.slice (some ⟨ab, 0, none⟩) n c) (M.map bitsI)) (hk : k < M.length) : ∃ ra rc, w.cell? ⟨ab, k, none⟩ = some (.slice ra (bitsI M[k]).length rc) ∧ w.frozen? ⟨ab, k, none⟩ = false ∧ OwnB w B EI (.slice ra (bitsI M[k]).length rc) M[k] ∧ ab < w.heap.size ∧ B ≤ ab := by
  have := h.row (k := k) (by simpa using hk)
  simpa [OwnB] using this
def linkN (M : List Nat) (k i : Nat) : List Nat := (M.set k (M.getD k 0 ||| bit i)).set i (M.getD i 0 ||| bit k)
theorem linkN_len (M : List Nat) (k i : Nat) : (linkN M k i).length = M.length := by simp [linkN]
theorem OwnR.drewR {w : World} {B C : Nat} {EO EI : TypeId} {u : Value} {g : List (List Int)} (h : OwnR w B C EO EI u g) : OwnR w.drew B C EO EI u g := h.below (B1 := w.heap.size) ((Below.refl _ _).drew) (Nat.le_refl _)
/-- Blocks of elements of other types are other blocks. -/
theorem own_type {w : World} {B B' : Nat} {E E' : TypeId} {s s' : Nat} {v v' : Value} {n n' : Nat} {xs xs' : List Value} (h : Own w B E s v n xs) (h' : Own w B' E' s' v' n' xs') (hE : E ≠ E') (b : Nat) (hb : v.ownBlock = some b) : v'.ownBlock ≠ some b := by
  intro hb'
  rcases h.2 with ⟨rfl, -⟩ | ⟨g, cap, cur, rfl, -, hg, -⟩
  · simp [Value.ownBlock] at hb
  · rcases h'.2 with ⟨rfl, -⟩ | ⟨g', cap', cur', rfl, -, hg', -⟩
    · simp [Value.ownBlock] at hb'
    · have e1 : g = b := by simpa [Value.ownBlock] using hb
      have e2 : g' = b := by simpa [Value.ownBlock] using hb'
      subst e1; subst e2
      rw [hg] at hg'
      simp only [Option.some.injEq, Obj.cells.injEq] at hg'
      exact hE hg'.2.1
theorem OwnR.setOther {w : World} {B C B' b : Nat} {EO EI E : TypeId} {u : Value} {g : List (List Int)} {xs : List Value} (h : OwnR w B C EO EI u g) (h' : Own w B' E 1 (.slice (some ⟨b, 0, none⟩) 1 1) 1 xs) (h1 : EO ≠ E) (h2 : EI ≠ E) (x : Value) : OwnR (w.setCell ⟨b, 0, none⟩ x) B C EO EI u g := by
  obtain ⟨vs, a1, a2, a3, hap, a4⟩ := h
  have hset : ∀ k, k ≠ b → (w.setCell ⟨b, 0, none⟩ x).heap[k]? = w.heap[k]? := fun k hk => Below.heap_setCell _ _ _ _ (by simpa using hk)
  exact ⟨vs, a1, a2.keep fun k hk => hset k (fun e => own_type a2 h' h1 k hk (by rw [e]; rfl)), a3, hap, fun i hi hi2 => ⟨(a4 i hi hi2).1.keep fun k hk => hset k (fun e => own_type (a4 i hi hi2).1 h' h2 k hk (by rw [e]; rfl)), (a4 i hi hi2).2⟩⟩
set_option maxRecDepth 100000 in
set_option maxHeartbeats 4000000 in
theorem l1Link_any {B C k i : Nat} {u : Value} {M : List Nat} {w : World} (hu : OwnR w B C 26 2 u (M.map bitsI)) (hC : C ≤ w.heap.size) (hB : B ≤ w.heap.size) (hk : k < M.length) (hi : i < M.length) (hki : k ≠ i) (hM : ∀ m ∈ M, m < 65536) (hl : M.length ≤ 16) (h1 : (M.getD k 0).testBit i = false) (h2 : (M.getD i 0).testBit k = false) :
    Calls Try.prog 106 #[.agg #[u], .int .i64 (k : Int), .int .i64 (i : Int)] w fun e w' => e = .returned (.agg #[u]) ∧ OwnR w' B w'.heap.size 26 2 u ((linkN M k i).map bitsI) ∧ Below B w w' ∧ (∀ b, b < w.heap.size → u.ownBlock ≠ some b → w'.heap[b]? = w.heap[b]?) := by
  obtain ⟨ab, uc, rfl⟩ : ∃ ab uc, u = .slice (some ⟨ab, 0, none⟩) M.length uc := by
    obtain ⟨vs, -, h, -⟩ := hu
    rw [List.length_map] at h
    exact own_some h (by omega)
  have hk0 : M.getD k 0 = M[k] := by simp [hk]
  have hi0 : M.getD i 0 = M[i] := by simp [hi]
  have hLN := Lib.hid (show linkN M k i = (M.set k (M[k] ||| bit i)).set i (M[i] ||| bit k) by rw [linkN, hk0, hi0])
  have hMk := hM _ (List.getElem_mem hk)
  have hMi := hM _ (List.getElem_mem hi)
  rw [hk0] at h1
  rw [hi0] at h2
  have hq0 : Below w.heap.size w ((w.alloc (.cells #[.slice (some ⟨ab, 0, none⟩) M.length uc] 28)).alloc (.cells #[.slice none 0 0] 28)) := ((Below.refl _ _).alloc (Nat.le_refl _) _).alloc (by simp) _
  have hu0 := hu.below hq0 (Nat.le_refl _)
  obtain ⟨ra, rc, hc0, -, -, hab, hBab⟩ := hu.rowM hk
  have hcb := (hq0.cell (p := ⟨ab, k, none⟩) hab).trans hc0
  have hrow1 := fun (W : World) (B1 : Nat) (h : OwnR W B1 C 26 2 (.slice (some ⟨ab, 0, none⟩) M.length uc) (M.map bitsI)) => h.rowM hk
  have hres := own_new (w.alloc (.cells #[.slice (some ⟨ab, 0, none⟩) M.length uc] 28)) (w.heap.size + 1) 28 (.slice none 0 0) (by simp)
  rw [show (w.alloc (.cells #[.slice (some ⟨ab, 0, none⟩) M.length uc] 28)).heap.size = w.heap.size + 1 by simp] at hres
  have hlm : (M.map bitsI).length = M.length := by simp
  have HI := Lib.hid (show (M.set k (M[k] ||| bit i))[i]'(by simpa using hi) = M[i] from List.getElem_set_ne hki _)
  have hne : ab ≠ w.heap.size := by omega
  have hne2 : ab ≠ w.heap.size + 1 := by omega
  clear hk0 hi0 hc0 hM
  go_enter Try.func106, Try.ntmps106
  go_wp2
  refine wp_region_late (S := (fun w' => w'.cell? ⟨w.heap.size, 0, none⟩ = some (.slice (some ⟨ab, 0, none⟩) M.length uc) ∧ w'.cell? ⟨ab, k, none⟩ = some (.slice ra (bitsI M[k]).length rc))) (late := [11]) (by kernel_rfl) ?_ (fun hHeld => ?_)
  · first | exact ⟨‹_›, ‹_›⟩ | (simp [*, go_sem])
  obtain ⟨c0, cr⟩ := hHeld
  have hu1 := hu0.drewR
  have hq1 := hq0.drew
  have hres1 := hres.drawn (Drawn.refl _).drew
  generalize World.drew _ = wd at c0 cr hu1 hq1 hres1 ⊢
  have hHeld : (fun w' => World.cell? w' ⟨w.heap.size, 0, none⟩ = some (.slice (some ⟨ab, 0, none⟩) M.length uc) ∧ World.cell? w' ⟨ab, k, none⟩ = some (.slice ra (bitsI M[k]).length rc)) wd := ⟨c0, cr⟩
  have hwd := hq1.size
  obtain ⟨ra', rc', hc1, hf1, hown1, -, -⟩ := hu1.rowM hk
  obtain ⟨rfl, rfl⟩ : ra' = ra ∧ rc' = rc := by simpa using (Option.some.inj (hc1.symm.trans cr))
  refine wpLate_take (i := 0) (v := ?v1) (by simp only [List.getElem?_toArray, List.getElem?_cons_zero]; exact rfl) (by kernel_rfl) (by kernel_rfl) (by kernel_rfl) (by intro _ _ _ h; exact h) (Or.inl ⟨by rfl, ?y1⟩) ?_
  case y1 => (intro w _; go_simp; try (with_reducible rfl))
  try simp only [Act.put, List.setIfInBounds_toArray, List.set_cons_zero, List.set_cons_succ]
  refine wpLate_load (i := 1) (v := ?v2) (by simp only [List.getElem?_toArray, List.getElem?_cons_succ, List.getElem?_cons_zero]; exact rfl) (by kernel_rfl) (by kernel_rfl) (by kernel_rfl) (by kernel_rfl) (by intro _ _ _ h; exact h) (Or.inl ⟨by rfl, ?y2⟩) hHeld ?_
  case y2 => (intro w hSw; (try dsimp only at hSw); go_simp; try (with_reducible rfl))
  try simp only [Act.put, List.setIfInBounds_toArray, List.set_cons_zero, List.set_cons_succ]
  refine wpLate_take (i := 2) (v := ?v3) (by simp only [List.getElem?_toArray, List.getElem?_cons_succ, List.getElem?_cons_zero]; exact rfl) (by kernel_rfl) (by kernel_rfl) (by kernel_rfl) (by intro _ _ _ h; exact h) (Or.inl ⟨by rfl, ?y3⟩) ?_
  case y3 => (intro w _; go_simp; try (with_reducible rfl))
  try simp only [Act.put, List.setIfInBounds_toArray, List.set_cons_zero, List.set_cons_succ]
  refine wpLate_take (i := 3) (v := ?v4) (by simp only [List.getElem?_toArray, List.getElem?_cons_succ, List.getElem?_cons_zero]; exact rfl) (by kernel_rfl) (by kernel_rfl) (by kernel_rfl) (by intro _ _ _ h; exact h) (Or.inl ⟨by rfl, ?y4⟩) ?_
  case y4 => (intro w _; go_simp; try (with_reducible rfl))
  try simp only [Act.put, List.setIfInBounds_toArray, List.set_cons_zero, List.set_cons_succ]
  refine wpLate_load (i := 4) (v := ?v5) (by simp only [List.getElem?_toArray, List.getElem?_cons_succ, List.getElem?_cons_zero]; exact rfl) (by kernel_rfl) (by kernel_rfl) (by kernel_rfl) (by kernel_rfl) (by intro _ _ _ h; exact h) (Or.inl ⟨by rfl, ?y5⟩) hHeld ?_
  case y5 => (intro w hSw; (try dsimp only at hSw); go_simp; try (with_reducible rfl))
  try simp only [Act.put, List.setIfInBounds_toArray, List.set_cons_zero, List.set_cons_succ]
  refine wpLate_take (i := 5) (v := ?v6) (by simp only [List.getElem?_toArray, List.getElem?_cons_succ, List.getElem?_cons_zero]; exact rfl) (by kernel_rfl) (by kernel_rfl) (by kernel_rfl) (by intro _ _ _ h; exact h) (Or.inl ⟨by rfl, ?y6⟩) ?_
  case y6 => (intro w _; go_simp; try (with_reducible rfl))
  try simp only [Act.put, List.setIfInBounds_toArray, List.set_cons_zero, List.set_cons_succ]
  refine wpLate_take (i := 6) (v := ?v7) (by simp only [List.getElem?_toArray, List.getElem?_cons_succ, List.getElem?_cons_zero]; exact rfl) (by kernel_rfl) (by kernel_rfl) (by kernel_rfl) (by intro _ _ _ h; exact h) (Or.inl ⟨by rfl, ?y7⟩) ?_
  case y7 => (intro w _; go_simp; try (with_reducible rfl))
  try simp only [Act.put, List.setIfInBounds_toArray, List.set_cons_zero, List.set_cons_succ]
  refine wpLate_load (i := 7) (v := ?v8) (by simp only [List.getElem?_toArray, List.getElem?_cons_succ, List.getElem?_cons_zero]; exact rfl) (by kernel_rfl) (by kernel_rfl) (by kernel_rfl) (by kernel_rfl) (by intro _ _ _ h; exact h) (Or.inl ⟨by rfl, ?y8⟩) hHeld ?_
  case y8 => (intro w hSw; (try dsimp only at hSw); go_simp; try (with_reducible rfl))
  try simp only [Act.put, List.setIfInBounds_toArray, List.set_cons_zero, List.set_cons_succ]
  refine wpLate_take (i := 8) (v := ?v9) (by simp only [List.getElem?_toArray, List.getElem?_cons_succ, List.getElem?_cons_zero]; exact rfl) (by kernel_rfl) (by kernel_rfl) (by kernel_rfl) (by intro _ _ _ h; exact h) (Or.inl ⟨by rfl, ?y9⟩) ?_
  case y9 => (intro w _; go_simp; try (with_reducible rfl))
  try simp only [Act.put, List.setIfInBounds_toArray, List.set_cons_zero, List.set_cons_succ]
  refine wpLate_one (i := 9) (by kernel_rfl) (by simp only [List.getElem?_toArray, List.getElem?_cons_succ, List.getElem?_cons_zero]; exact rfl) (by kernel_rfl) (fun K hK => ?_)
  go_simp
  refine (intoB_new hown1 (by omega) (by omega) h1).mono ?_
  rintro e wn ⟨v1, rfl, hv1, hbn⟩
  obtain ⟨v1a, v1c, rfl⟩ := Own.isSlice hv1
  have hR1 := ownR_set hu1 hbn (by omega) (by omega) (by rw [hlm]; exact hk) hv1
  rw [← List.map_set] at hR1
  have hf1 := (hbn.frozen (p := ⟨ab, k, none⟩) (by show ab < _; omega)).trans hf1
  have c0 := (hbn.cell (cell_lt c0)).trans c0
  have cr := (hbn.cell (cell_lt cr)).trans cr
  have hq2 := hq1.trans (hbn.mono hq1.size)
  try dsimp only
  refine hK.out _ _ ?h10 (fun hHeld => ?_)
  case h10 => first | exact ⟨‹_›, ‹_›⟩ | (simp [*, go_sem])
  clear hK K
  try simp only [Act.put, List.setIfInBounds_toArray, List.set_cons_zero, List.set_cons_succ]
  refine wpLate_take (i := 10) (v := ?v11) (by simp only [List.getElem?_toArray, List.getElem?_cons_succ, List.getElem?_cons_zero]; exact rfl) (by kernel_rfl) (by kernel_rfl) (by kernel_rfl) (by intro _ _ _ h; exact h) (Or.inl ⟨by rfl, ?y11⟩) ?_
  case y11 => (intro w _; go_simp; try (with_reducible rfl))
  try simp only [Act.put, List.setIfInBounds_toArray, List.set_cons_zero, List.set_cons_succ]
  refine wpLate_late (i := 11) (by kernel_rfl) (by simp only [List.getElem?_toArray, List.getElem?_cons_succ, List.getElem?_cons_zero]; exact rfl) (by kernel_rfl) (fun K hK => ?_)
  go_simp
  skip
  try dsimp only
  refine hK.out _ _ ?_
  clear hK K
  try simp only [Act.put, List.setIfInBounds_toArray, List.set_cons_zero, List.set_cons_succ]
  refine wpLate_done (by kernel_rfl) ?_ _
  have hq3 := hq2.mono hB
  have hq4 : Below B w (wn.setCell ⟨ab, k, none⟩ (.slice v1a (bitsI (M[k] ||| bit i)).length v1c)) := hq3.setCell hBab _
  have c4 : (wn.setCell ⟨ab, k, none⟩ (.slice v1a (bitsI (M[k] ||| bit i)).length v1c)).cell? ⟨w.heap.size, 0, none⟩ = some (.slice (some ⟨ab, 0, none⟩) M.length uc) := (World.cell?_of_block (a := ⟨w.heap.size, 0, none⟩) (Below.heap_setCell _ _ _ _ (by simpa using fun e => hne e.symm))).trans c0
  have hsz4 : (wn.setCell ⟨ab, k, none⟩ (.slice v1a (bitsI (M[k] ||| bit i)).length v1c)).heap.size = wn.heap.size := by simp
  have hres4 := (hres1.below hbn (Nat.le_refl _)).keep (w' := wn.setCell ⟨ab, k, none⟩ (.slice v1a (bitsI (M[k] ||| bit i)).length v1c)) (fun b hb => Below.heap_setCell _ _ _ _ (by have hbe : w.heap.size + 1 = b := (by simpa [Value.ownBlock] using hb); (simp; omega)))
  have hfr1 : ∀ b, b < w.heap.size → b ≠ ab → (wn.setCell ⟨ab, k, none⟩ (.slice v1a (bitsI (M[k] ||| bit i)).length v1c)).heap[b]? = w.heap[b]? := fun b hb he => (Below.heap_setCell _ _ _ _ (by simpa using he)).trans (hq2.block b hb)
  have hM1l : (M.set k (M[k] ||| bit i)).length = M.length := by simp
  have hiM : i < (M.set k (M[k] ||| bit i)).length := by rw [hM1l]; exact hi
  have hsz5 := hq4.size
  have hwB : wn.heap.size ≤ (wn.setCell ⟨ab, k, none⟩ (.slice v1a (bitsI (M[k] ||| bit i)).length v1c)).heap.size := by simp
  rw [← hM1l] at hR1 c4
  have HM1L := Lib.hid hM1l
  have hdl := hbn.size
  have hdl2 : w.heap.size < wd.heap.size := by have h := hres1.lt (w.heap.size + 1) rfl; omega
  generalize (wn.setCell ⟨ab, k, none⟩ (.slice v1a (bitsI (M[k] ||| bit i)).length v1c)) = wz at *
  clear hq1 hq2 hq3 hc1 cr c0 hf1 hown1 hv1 hbn hres1 hu1 hM1l
  obtain ⟨ra2, rc2, d1, -, -, habz, -⟩ := hR1.rowM hiM
  simp only [HI.out] at d1
  have hrd := fun (W : World) (h : OwnR W B wn.heap.size 26 2 (.slice (some ⟨ab, 0, none⟩) (M.set k (M[k] ||| bit i)).length uc) ((M.set k (M[k] ||| bit i)).map bitsI)) => h.rowM hiM
  simp only [HI.out] at hrd
  have hlm2 : ((M.set k (M[k] ||| bit i)).map bitsI).length = (M.set k (M[k] ||| bit i)).length := by simp
  clear HI
  generalize hM1 : M.set k (M[k] ||| bit i) = M1 at *
  have HM1 := Lib.hid hM1
  rw [← HM1L.out] at hi
  have hlM1 : M1.length ≤ 16 := by rw [HM1L.out]; exact hl
  have hk1 : k < M1.length := by rw [HM1L.out]; exact hk
  clear hM1 hu hu0 hcb hrow1 hlm hq0
  go_wp2
  refine wp_region_late (S := (fun w' => w'.cell? ⟨w.heap.size, 0, none⟩ = some (.slice (some ⟨ab, 0, none⟩) M1.length uc) ∧ w'.cell? ⟨ab, i, none⟩ = some (.slice ra2 (bitsI M[i]).length rc2))) (late := [11]) (by kernel_rfl) ?_ (fun hHeld => ?_)
  · first | exact ⟨‹_›, ‹_›⟩ | (simp [*, go_sem])
  obtain ⟨c0, cr⟩ := hHeld
  have hu1 := hR1.drewR
  have hq1 := hq4.drew
  have hb1 : Below wz.heap.size wz wz.drew := (Below.refl _ _).drew
  have hres5 := hres4.drawn (Drawn.refl _).drew
  generalize World.drew _ = wd2 at c0 cr hu1 hq1 hres5 hb1 ⊢
  have hHeld : (fun w' => World.cell? w' ⟨w.heap.size, 0, none⟩ = some (.slice (some ⟨ab, 0, none⟩) M1.length uc) ∧ World.cell? w' ⟨ab, i, none⟩ = some (.slice ra2 (bitsI M[i]).length rc2)) wd2 := ⟨c0, cr⟩
  have hwd2 := hb1.size
  obtain ⟨ra', rc', hc1, hf1, hown1, -, -⟩ := hrd _ hu1
  obtain ⟨rfl, rfl⟩ : ra' = ra2 ∧ rc' = rc2 := by simpa using (Option.some.inj (hc1.symm.trans cr))
  refine wpLate_take (i := 0) (v := ?v13) (by simp only [List.getElem?_toArray, List.getElem?_cons_zero]; exact rfl) (by kernel_rfl) (by kernel_rfl) (by kernel_rfl) (by intro _ _ _ h; exact h) (Or.inl ⟨by rfl, ?y13⟩) ?_
  case y13 => (intro w _; go_simp; try (with_reducible rfl))
  try simp only [Act.put, List.setIfInBounds_toArray, List.set_cons_zero, List.set_cons_succ]
  refine wpLate_load (i := 1) (v := ?v14) (by simp only [List.getElem?_toArray, List.getElem?_cons_succ, List.getElem?_cons_zero]; exact rfl) (by kernel_rfl) (by kernel_rfl) (by kernel_rfl) (by kernel_rfl) (by intro _ _ _ h; exact h) (Or.inl ⟨by rfl, ?y14⟩) hHeld ?_
  case y14 => (intro w hSw; (try dsimp only at hSw); go_simp; try (with_reducible rfl))
  try simp only [Act.put, List.setIfInBounds_toArray, List.set_cons_zero, List.set_cons_succ]
  refine wpLate_take (i := 2) (v := ?v15) (by simp only [List.getElem?_toArray, List.getElem?_cons_succ, List.getElem?_cons_zero]; exact rfl) (by kernel_rfl) (by kernel_rfl) (by kernel_rfl) (by intro _ _ _ h; exact h) (Or.inl ⟨by rfl, ?y15⟩) ?_
  case y15 => (intro w _; go_simp; try (with_reducible rfl))
  try simp only [Act.put, List.setIfInBounds_toArray, List.set_cons_zero, List.set_cons_succ]
  refine wpLate_take (i := 3) (v := ?v16) (by simp only [List.getElem?_toArray, List.getElem?_cons_succ, List.getElem?_cons_zero]; exact rfl) (by kernel_rfl) (by kernel_rfl) (by kernel_rfl) (by intro _ _ _ h; exact h) (Or.inl ⟨by rfl, ?y16⟩) ?_
  case y16 => (intro w _; go_simp; try (with_reducible rfl))
  try simp only [Act.put, List.setIfInBounds_toArray, List.set_cons_zero, List.set_cons_succ]
  refine wpLate_load (i := 4) (v := ?v17) (by simp only [List.getElem?_toArray, List.getElem?_cons_succ, List.getElem?_cons_zero]; exact rfl) (by kernel_rfl) (by kernel_rfl) (by kernel_rfl) (by kernel_rfl) (by intro _ _ _ h; exact h) (Or.inl ⟨by rfl, ?y17⟩) hHeld ?_
  case y17 => (intro w hSw; (try dsimp only at hSw); go_simp; try (with_reducible rfl))
  try simp only [Act.put, List.setIfInBounds_toArray, List.set_cons_zero, List.set_cons_succ]
  refine wpLate_take (i := 5) (v := ?v18) (by simp only [List.getElem?_toArray, List.getElem?_cons_succ, List.getElem?_cons_zero]; exact rfl) (by kernel_rfl) (by kernel_rfl) (by kernel_rfl) (by intro _ _ _ h; exact h) (Or.inl ⟨by rfl, ?y18⟩) ?_
  case y18 => (intro w _; go_simp; try (with_reducible rfl))
  try simp only [Act.put, List.setIfInBounds_toArray, List.set_cons_zero, List.set_cons_succ]
  refine wpLate_take (i := 6) (v := ?v19) (by simp only [List.getElem?_toArray, List.getElem?_cons_succ, List.getElem?_cons_zero]; exact rfl) (by kernel_rfl) (by kernel_rfl) (by kernel_rfl) (by intro _ _ _ h; exact h) (Or.inl ⟨by rfl, ?y19⟩) ?_
  case y19 => (intro w _; go_simp; try (with_reducible rfl))
  try simp only [Act.put, List.setIfInBounds_toArray, List.set_cons_zero, List.set_cons_succ]
  refine wpLate_load (i := 7) (v := ?v20) (by simp only [List.getElem?_toArray, List.getElem?_cons_succ, List.getElem?_cons_zero]; exact rfl) (by kernel_rfl) (by kernel_rfl) (by kernel_rfl) (by kernel_rfl) (by intro _ _ _ h; exact h) (Or.inl ⟨by rfl, ?y20⟩) hHeld ?_
  case y20 => (intro w hSw; (try dsimp only at hSw); go_simp; try (with_reducible rfl))
  try simp only [Act.put, List.setIfInBounds_toArray, List.set_cons_zero, List.set_cons_succ]
  refine wpLate_take (i := 8) (v := ?v21) (by simp only [List.getElem?_toArray, List.getElem?_cons_succ, List.getElem?_cons_zero]; exact rfl) (by kernel_rfl) (by kernel_rfl) (by kernel_rfl) (by intro _ _ _ h; exact h) (Or.inl ⟨by rfl, ?y21⟩) ?_
  case y21 => (intro w _; go_simp; try (with_reducible rfl))
  try simp only [Act.put, List.setIfInBounds_toArray, List.set_cons_zero, List.set_cons_succ]
  refine wpLate_one (i := 9) (by kernel_rfl) (by simp only [List.getElem?_toArray, List.getElem?_cons_succ, List.getElem?_cons_zero]; exact rfl) (by kernel_rfl) (fun K hK => ?_)
  go_simp
  refine (intoB_new hown1 (by omega) (by omega) h2).mono ?_
  rintro e wn2 ⟨v2, rfl, hv2, hbn⟩
  obtain ⟨v2a, v2c, rfl⟩ := Own.isSlice hv2
  have hR2 := ownR_set hu1 hbn (by omega) (by omega) (by rw [hlm2]; exact hi) hv2
  rw [← List.map_set] at hR2
  have hf1 := (hbn.frozen (p := ⟨ab, i, none⟩) (by show ab < _; omega)).trans hf1
  have c0 := (hbn.cell (cell_lt c0)).trans c0
  have cr := (hbn.cell (cell_lt cr)).trans cr
  have hwn2 := hbn.size
  have hq2 := hq1.trans (hbn.mono (by omega))
  try dsimp only
  refine hK.out _ _ ?h22 (fun hHeld => ?_)
  case h22 => first | exact ⟨‹_›, ‹_›⟩ | (simp [*, go_sem])
  clear hK K
  try simp only [Act.put, List.setIfInBounds_toArray, List.set_cons_zero, List.set_cons_succ]
  refine wpLate_take (i := 10) (v := ?v23) (by simp only [List.getElem?_toArray, List.getElem?_cons_succ, List.getElem?_cons_zero]; exact rfl) (by kernel_rfl) (by kernel_rfl) (by kernel_rfl) (by intro _ _ _ h; exact h) (Or.inl ⟨by rfl, ?y23⟩) ?_
  case y23 => (intro w _; go_simp; try (with_reducible rfl))
  try simp only [Act.put, List.setIfInBounds_toArray, List.set_cons_zero, List.set_cons_succ]
  refine wpLate_late (i := 11) (by kernel_rfl) (by simp only [List.getElem?_toArray, List.getElem?_cons_succ, List.getElem?_cons_zero]; exact rfl) (by kernel_rfl) (fun K hK => ?_)
  go_simp
  skip
  try dsimp only
  refine hK.out _ _ ?_
  clear hK K
  try simp only [Act.put, List.setIfInBounds_toArray, List.set_cons_zero, List.set_cons_succ]
  refine wpLate_done (by kernel_rfl) ?_ _
  have hq5 : Below B w (wn2.setCell ⟨ab, i, none⟩ (.slice v2a (bitsI (M[i] ||| bit k)).length v2c)) := hq2.setCell hBab _
  have c5 : (wn2.setCell ⟨ab, i, none⟩ (.slice v2a (bitsI (M[i] ||| bit k)).length v2c)).cell? ⟨w.heap.size, 0, none⟩ = some (.slice (some ⟨ab, 0, none⟩) M1.length uc) := (World.cell?_of_block (a := ⟨w.heap.size, 0, none⟩) (Below.heap_setCell _ _ _ _ (by simpa using fun e => hne e.symm))).trans c0
  have hres6 := (hres5.below hbn (Nat.le_refl _)).keep (w' := wn2.setCell ⟨ab, i, none⟩ (.slice v2a (bitsI (M[i] ||| bit k)).length v2c)) (fun b hb => Below.heap_setCell _ _ _ _ (by have hbe : w.heap.size + 1 = b := (by simpa [Value.ownBlock] using hb); (simp; omega)))
  have hfr2 : ∀ b, b < w.heap.size → b ≠ ab → (wn2.setCell ⟨ab, i, none⟩ (.slice v2a (bitsI (M[i] ||| bit k)).length v2c)).heap[b]? = w.heap[b]? := fun b hb he => (Below.heap_setCell _ _ _ _ (by simpa using he)).trans ((hbn.block b (by omega)).trans ((hb1.block b (by omega)).trans (hfr1 b hb he)))
  have hsz6 : wn2.heap.size ≤ (wn2.setCell ⟨ab, i, none⟩ (.slice v2a (bitsI (M[i] ||| bit k)).length v2c)).heap.size := by simp
  rw [← hLN.out] at hR2
  rw [HM1L.out] at *
  generalize (wn2.setCell ⟨ab, i, none⟩ (.slice v2a (bitsI (M[i] ||| bit k)).length v2c)) = wy at *
  clear hq1 hq2 hc1 cr c0 hf1 hown1 hv2 hbn hres5 hu1
  obtain ⟨x1, x2, -, -⟩ := own_cell hres6
  go_wp2
  refine bodyPost_ret (v := .agg #[.slice (some ⟨ab, 0, none⟩) M.length uc]) (by simp [results, Try.results106, go_sem, x1]) rfl ⟨rfl, ?_, ?_, fun b hb hn => (Below.heap_setCell _ _ _ _ (by simp; omega)).trans (hfr2 b hb (fun e => hn (by rw [e]; rfl)))⟩
  · exact (hR2.setOther hres6 (by decide) (by decide) _).weaken (Nat.le_refl _) (by simp; omega)
  · exact hq5.setCell (by simp; omega) _
end Go.Proofs.Ytklnjpdpinccoaa
