/- FullMinor: MinorIn by the reference, both sides, the law. -/
import Derived.Test.YtgkkgagnoeedaaaDoorMin9
namespace Go.Proofs.YtgkkgagnoeedaaaDoor
open Go.RowKit
theorem find_S {w W : World} {nu : Value} {nb B n : Nat} {E : TypeId} {xs : List Value} (hnu : Own W B E 1 nu n xs) (h1 : w.heap.size ≤ W.heap.size) (h2 : w.heap.size < nb) (hne : ∀ b, nu.ownBlock = some b → b ≠ nb) : ∀ b, (b < w.heap.size ∨ nu.ownBlock = some b) → b < W.heap.size ∧ (Value.slice (some ⟨nb, 0, none⟩) 0 0).ownBlock ≠ some b := fun b hb => by
  refine ⟨?_, fun e => ?_⟩
  · rcases hb with hb | hb
    · omega
    · exact (hnu.lt b hb).2
  · have : nb = b := by simpa [Value.ownBlock] using e
    rcases hb with hb | hb
    · omega
    · exact hne b hb this.symm
set_option maxRecDepth 100000 in
set_option maxHeartbeats 8000000 in
theorem specMinorIn_any {S S' : Nat → Prop} {gv pv : Value} {g : List (List Int)} {n : Nat} {w : World} (hg : GOk g) (hn1 : 1 ≤ n) (hn5 : n ≤ 5) (hvg : SlR S' w gv g) (hvp : SlR S w pv (fullG n)) :
    Calls Tryd.prog 58 #[.agg #[gv], .agg #[pv]] w fun e w' => ∃ a m c, e = .returned (.tuple #[.agg #[.slice a m c], .bool (minB g n)]) ∧ Below w.heap.size w w' := by
  have hgp := full_gok hn1 (show n ≤ 16 by omega)
  have hplen := fullG_len n
  obtain ⟨pa, pc, rfl⟩ := hvp.slice
  obtain ⟨ga, gc, rfl⟩ := hvg.slice
  rw [hplen] at hvp ⊢
  obtain ⟨W, hW⟩ : ∃ W, W = ((w.alloc (.cells #[.slice ga g.length gc] 27)).alloc (.cells #[.slice pa n pc] 27)).alloc (.cells #[.slice none 0 0] 67) := ⟨_, rfl⟩
  have hq0 : Below w.heap.size w W := by rw [hW]; exact (((Below.refl _ _).alloc (Nat.le_refl _) _).alloc (by simp) _).alloc (by simp; omega) _
  have hr0 : Own W w.heap.size 67 1 (.slice (some ⟨w.heap.size + 1 + 1, 0, none⟩) 1 1) 1 [.slice none 0 0] := by
    rw [hW]
    have h := own_new ((w.alloc (.cells #[.slice ga g.length gc] 27)).alloc (.cells #[.slice pa n pc] 27)) w.heap.size 67 (.slice none 0 0) (by simp; omega)
    rw [show ((w.alloc (.cells #[.slice ga g.length gc] 27)).alloc (.cells #[.slice pa n pc] 27)).heap.size = w.heap.size + 1 + 1 by simp] at h
    exact h
  have c30 : W.cell? ⟨w.heap.size, 0, none⟩ = some (.slice ga g.length gc) := by rw [hW]; simp [go_sem]
  have c40 : W.cell? ⟨w.heap.size + 1, 0, none⟩ = some (.slice pa n pc) := by rw [hW]; simp [go_sem]
  have HWW := Lib.hid hW
  have HSg := fun (w' : World) (hb : Below w.heap.size w w') => specGraphOk_any _ _ _ (hvg.below hb (Nat.le_refl _))
  have HSp := fun (w' : World) (hb : Below w.heap.size w w') => specGraphOk_any _ _ _ (hvp.below hb (Nat.le_refl _))
  rw [gokB_iff.2 hg] at HSg
  rw [gokB_iff.2 hgp] at HSp
  have HEg := fun (w' : World) (hb : Below w.heap.size w w') => l19Ends_any hg (hvg.below hb (Nat.le_refl _))
  have HEp := fun (w' : World) (hb : Below w.heap.size w w') => l19Ends_any hgp (hvp.below hb (Nat.le_refl _))
  have hd5 : decide ((5 : Int) < (n : Int)) = false := decide_eq_false (by omega)
  have hd5n : decide (5 < n) = false := decide_eq_false (by omega)
  have HME := Lib.hid (fun h => minB_ends hg (n := n) h)
  have HLE := Lib.hid (show minB g n = (decide (g.length ≤ 8) && extB (netsL g) g.length n []) from rfl)
  generalize minB g n = mb at *
  clear hW hplen
  by_cases h8 : g.length ≤ 8
  case neg =>
    have HE := Lib.hid (show mb = false by rw [HLE.out, decide_eq_false h8]; rfl)
    have hd8 : decide ((8 : Int) < (g.length : Int)) = true := decide_eq_true (by omega)
    have hd8n : decide (8 < g.length) = true := decide_eq_true (by omega)
    clear h8 hgp HEg HEp hd5 hd5n HME HLE
    go_enter Tryd.func58, Tryd.ntmps58
    go_wp2
    rw [← HWW.out]
    have hqc := hq0.drew
    have hr := hr0.drawn ((Drawn.refl _).drew)
    refine wp_region_held_drew (S := (fun w' => w'.cell? ⟨w.heap.size, 0, none⟩ = some (.slice ga g.length gc) ∧ w'.cell? ⟨w.heap.size + 1, 0, none⟩ = some (.slice pa n pc))) (by kernel_rfl) ?_ (fun hHeld => ?_)
    · first | exact ⟨‹_›, ‹_›⟩ | (simp [*, go_sem])
    generalize World.drew _ = wd at hqc hHeld hr ⊢
    obtain ⟨c3, c4⟩ := hHeld
    have hHeld : (fun w' => World.cell? w' ⟨w.heap.size, 0, none⟩ = some (.slice ga g.length gc) ∧ World.cell? w' ⟨w.heap.size + 1, 0, none⟩ = some (.slice pa n pc)) wd := ⟨c3, c4⟩
    refine wpAnyH_take (i := 0) (v := ?v1) (by simp only [List.getElem?_toArray, List.getElem?_cons_zero]; exact rfl) (by kernel_rfl) (by kernel_rfl) (by kernel_rfl) (by intro _ _ _ h; exact h) (Or.inl ⟨by rfl, ?y1⟩) hHeld ?_
    case y1 => (intro w hSw; (try dsimp only at hSw); go_simp; try (with_reducible rfl))
    try simp only [Act.put, List.setIfInBounds_toArray, List.set_cons_zero, List.set_cons_succ]
    refine wpAnyH_ready (rs := [1]) (by kernel_rfl) (by simp) ?_
    refine AllReadyH.cons (by simp only [List.getElem?_toArray, List.getElem?_cons_succ, List.getElem?_cons_zero]; exact rfl) (fun K hK => ?_) AllReadyH.nil
    go_simp
    (with_reducible refine (HSg _ hqc).mono ?_)
    rintro e wn ⟨rfl, hbn⟩
    have hqc := hqc.trans (hbn.mono hqc.size)
    have hr := hr.below hbn (Nat.le_refl _)
    have c3 := (hbn.cell (cell_lt c3)).trans c3
    have c4 := (hbn.cell (cell_lt c4)).trans c4
    try dsimp only
    refine hK.out _ _ ?h3 (fun hHeld => ?_)
    case h3 => first | exact ⟨‹_›, ‹_›⟩ | (simp [*, go_sem])
    clear hK K
    try simp only [Act.put, List.setIfInBounds_toArray, List.set_cons_zero, List.set_cons_succ]
    refine wpAnyH_take (i := 2) (v := ?v4) (by simp only [List.getElem?_toArray, List.getElem?_cons_succ, List.getElem?_cons_zero]; exact rfl) (by kernel_rfl) (by kernel_rfl) (by kernel_rfl) (by intro _ _ _ h; exact h) (Or.inl ⟨by rfl, ?y4⟩) hHeld ?_
    case y4 => (intro w hSw; (try dsimp only at hSw); go_simp; try (with_reducible rfl))
    try simp only [Act.put, List.setIfInBounds_toArray, List.set_cons_zero, List.set_cons_succ]
    refine wpAnyH_take (i := 3) (v := ?v5) (by simp only [List.getElem?_toArray, List.getElem?_cons_succ, List.getElem?_cons_zero]; exact rfl) (by kernel_rfl) (by kernel_rfl) (by kernel_rfl) (by intro _ _ _ h; exact h) (Or.inl ⟨by rfl, ?y5⟩) hHeld ?_
    case y5 => (intro w hSw; (try dsimp only at hSw); go_simp; try (with_reducible rfl))
    try simp only [Act.put, List.setIfInBounds_toArray, List.set_cons_zero, List.set_cons_succ]
    refine wpAnyH_take (i := 4) (v := ?v6) (by simp only [List.getElem?_toArray, List.getElem?_cons_succ, List.getElem?_cons_zero]; exact rfl) (by kernel_rfl) (by kernel_rfl) (by kernel_rfl) (by intro _ _ _ h; exact h) (Or.inl ⟨by rfl, ?y6⟩) hHeld ?_
    case y6 => (intro w hSw; (try dsimp only at hSw); go_simp; try (with_reducible rfl))
    try simp only [Act.put, List.setIfInBounds_toArray, List.set_cons_zero, List.set_cons_succ]
    refine wpAnyH_ready (rs := [5]) (by kernel_rfl) (by simp) ?_
    refine AllReadyH.cons (by simp only [List.getElem?_toArray, List.getElem?_cons_succ, List.getElem?_cons_zero]; exact rfl) (fun K hK => ?_) AllReadyH.nil
    go_simp
    (with_reducible refine (HSp _ hqc).mono ?_)
    rintro e wn ⟨rfl, hbn⟩
    have hqc := hqc.trans (hbn.mono hqc.size)
    have hr := hr.below hbn (Nat.le_refl _)
    have c3 := (hbn.cell (cell_lt c3)).trans c3
    have c4 := (hbn.cell (cell_lt c4)).trans c4
    try dsimp only
    refine hK.out _ _ ?h8 (fun hHeld => ?_)
    case h8 => first | exact ⟨‹_›, ‹_›⟩ | (simp [*, go_sem])
    clear hK K
    try simp only [Act.put, List.setIfInBounds_toArray, List.set_cons_zero, List.set_cons_succ]
    refine wpAnyH_take (i := 6) (v := ?v9) (by simp only [List.getElem?_toArray, List.getElem?_cons_succ, List.getElem?_cons_zero]; exact rfl) (by kernel_rfl) (by kernel_rfl) (by kernel_rfl) (by intro _ _ _ h; exact h) (Or.inl ⟨by rfl, ?y9⟩) hHeld ?_
    case y9 => (intro w hSw; (try dsimp only at hSw); go_simp; try (with_reducible rfl))
    try simp only [Act.put, List.setIfInBounds_toArray, List.set_cons_zero, List.set_cons_succ]
    refine wpAnyH_take (i := 7) (v := ?v10) (by simp only [List.getElem?_toArray, List.getElem?_cons_succ, List.getElem?_cons_zero]; exact rfl) (by kernel_rfl) (by kernel_rfl) (by kernel_rfl) (by intro _ _ _ h; exact h) (Or.inl ⟨by rfl, ?y10⟩) hHeld ?_
    case y10 => (intro w hSw; (try dsimp only at hSw); go_simp; try (with_reducible rfl))
    try simp only [Act.put, List.setIfInBounds_toArray, List.set_cons_zero, List.set_cons_succ]
    refine wpAnyH_take (i := 8) (v := ?v11) (by simp only [List.getElem?_toArray, List.getElem?_cons_succ, List.getElem?_cons_zero]; exact rfl) (by kernel_rfl) (by kernel_rfl) (by kernel_rfl) (by intro _ _ _ h; exact h) (Or.inl ⟨by rfl, ?y11⟩) hHeld ?_
    case y11 => (intro w hSw; (try dsimp only at hSw); go_simp; try (with_reducible rfl))
    try simp only [Act.put, List.setIfInBounds_toArray, List.set_cons_zero, List.set_cons_succ]
    refine wpAnyH_take (i := 9) (v := ?v12) (by simp only [List.getElem?_toArray, List.getElem?_cons_succ, List.getElem?_cons_zero]; exact rfl) (by kernel_rfl) (by kernel_rfl) (by kernel_rfl) (by intro _ _ _ h; exact h) (Or.inl ⟨by rfl, ?y12⟩) hHeld ?_
    case y12 => (intro w hSw; (try dsimp only at hSw); go_simp; try (with_reducible rfl))
    try simp only [Act.put, List.setIfInBounds_toArray, List.set_cons_zero, List.set_cons_succ]
    refine wpAnyH_take (i := 10) (v := ?v13) (by simp only [List.getElem?_toArray, List.getElem?_cons_succ, List.getElem?_cons_zero]; exact rfl) (by kernel_rfl) (by kernel_rfl) (by kernel_rfl) (by intro _ _ _ h; exact h) (Or.inl ⟨by rfl, ?y13⟩) hHeld ?_
    case y13 => (intro w hSw; (try dsimp only at hSw); go_simp; try (with_reducible rfl))
    try simp only [Act.put, List.setIfInBounds_toArray, List.set_cons_zero, List.set_cons_succ]
    refine wpAnyH_take (i := 11) (v := ?v14) (by simp only [List.getElem?_toArray, List.getElem?_cons_succ, List.getElem?_cons_zero]; exact rfl) (by kernel_rfl) (by kernel_rfl) (by kernel_rfl) (by intro _ _ _ h; exact h) (Or.inl ⟨by rfl, ?y14⟩) hHeld ?_
    case y14 => (intro w hSw; (try dsimp only at hSw); go_simp; try (with_reducible rfl))
    try simp only [Act.put, List.setIfInBounds_toArray, List.set_cons_zero, List.set_cons_succ]
    refine wpAnyH_take (i := 12) (v := ?v15) (by simp only [List.getElem?_toArray, List.getElem?_cons_succ, List.getElem?_cons_zero]; exact rfl) (by kernel_rfl) (by kernel_rfl) (by kernel_rfl) (by intro _ _ _ h; exact h) (Or.inl ⟨by rfl, ?y15⟩) hHeld ?_
    case y15 => (intro w hSw; (try dsimp only at hSw); go_simp; try (with_reducible rfl))
    try simp only [Act.put, List.setIfInBounds_toArray, List.set_cons_zero, List.set_cons_succ]
    refine wpAnyH_take (i := 13) (v := ?v16) (by simp only [List.getElem?_toArray, List.getElem?_cons_succ, List.getElem?_cons_zero]; exact rfl) (by kernel_rfl) (by kernel_rfl) (by kernel_rfl) (by intro _ _ _ h; exact h) (Or.inl ⟨by rfl, ?y16⟩) hHeld ?_
    case y16 => (intro w hSw; (try dsimp only at hSw); go_simp; try (with_reducible rfl))
    try simp only [Act.put, List.setIfInBounds_toArray, List.set_cons_zero, List.set_cons_succ]
    refine wpAnyH_take (i := 14) (v := ?v17) (by simp only [List.getElem?_toArray, List.getElem?_cons_succ, List.getElem?_cons_zero]; exact rfl) (by kernel_rfl) (by kernel_rfl) (by kernel_rfl) (by intro _ _ _ h; exact h) (Or.inl ⟨by rfl, ?y17⟩) hHeld ?_
    case y17 => (intro w hSw; (try dsimp only at hSw); go_simp; try (with_reducible rfl))
    try simp only [Act.put, List.setIfInBounds_toArray, List.set_cons_zero, List.set_cons_succ]
    refine wpAnyH_take (i := 15) (by simp only [List.getElem?_toArray, List.getElem?_cons_succ, List.getElem?_cons_zero]; exact rfl) (by kernel_rfl) (by kernel_rfl) (by kernel_rfl) (by intro _ _ _ h; exact h) (Or.inr ⟨by rfl, rfl⟩) hHeld ?_
    try simp only [Act.put, List.setIfInBounds_toArray, List.set_cons_zero, List.set_cons_succ]
    refine wpAnyH_take (i := 16) (by simp only [List.getElem?_toArray, List.getElem?_cons_succ, List.getElem?_cons_zero]; exact rfl) (by kernel_rfl) (by kernel_rfl) (by kernel_rfl) (by intro _ _ _ h; exact h) (Or.inr ⟨by rfl, rfl⟩) hHeld ?_
    try simp only [Act.put, List.setIfInBounds_toArray, List.set_cons_zero, List.set_cons_succ]
    refine wpAnyH_take (i := 17) (by simp only [List.getElem?_toArray, List.getElem?_cons_succ, List.getElem?_cons_zero]; exact rfl) (by kernel_rfl) (by kernel_rfl) (by kernel_rfl) (by intro _ _ _ h; exact h) (Or.inr ⟨by rfl, rfl⟩) hHeld ?_
    try simp only [Act.put, List.setIfInBounds_toArray, List.set_cons_zero, List.set_cons_succ]
    refine wpAnyH_take (i := 18) (by simp only [List.getElem?_toArray, List.getElem?_cons_succ, List.getElem?_cons_zero]; exact rfl) (by kernel_rfl) (by kernel_rfl) (by kernel_rfl) (by intro _ _ _ h; exact h) (Or.inr ⟨by rfl, rfl⟩) hHeld ?_
    try simp only [Act.put, List.setIfInBounds_toArray, List.set_cons_zero, List.set_cons_succ]
    refine wpAnyH_take (i := 19) (v := ?v22) (by simp only [List.getElem?_toArray, List.getElem?_cons_succ, List.getElem?_cons_zero]; exact rfl) (by kernel_rfl) (by kernel_rfl) (by kernel_rfl) (by intro _ _ _ h; exact h) (Or.inl ⟨by rfl, ?y22⟩) hHeld ?_
    case y22 => (intro w hSw; (try dsimp only at hSw); go_simp; try (with_reducible rfl))
    try simp only [Act.put, List.setIfInBounds_toArray, List.set_cons_zero, List.set_cons_succ]
    refine wpAnyH_take (i := 20) (v := ?v23) (by simp only [List.getElem?_toArray, List.getElem?_cons_succ, List.getElem?_cons_zero]; exact rfl) (by kernel_rfl) (by kernel_rfl) (by kernel_rfl) (by intro _ _ _ h; exact h) (Or.inl ⟨by rfl, ?y23⟩) hHeld ?_
    case y23 => (intro w hSw; (try dsimp only at hSw); go_simp; try (with_reducible rfl))
    try simp only [Act.put, List.setIfInBounds_toArray, List.set_cons_zero, List.set_cons_succ]
    refine wpAnyH_take (i := 21) (by simp only [List.getElem?_toArray, List.getElem?_cons_succ, List.getElem?_cons_zero]; exact rfl) (by kernel_rfl) (by kernel_rfl) (by kernel_rfl) (by intro _ _ _ h; exact h) (Or.inr ⟨by rfl, rfl⟩) hHeld ?_
    try simp only [Act.put, List.setIfInBounds_toArray, List.set_cons_zero, List.set_cons_succ]
    refine wpAnyH_take (i := 22) (by simp only [List.getElem?_toArray, List.getElem?_cons_succ, List.getElem?_cons_zero]; exact rfl) (by kernel_rfl) (by kernel_rfl) (by kernel_rfl) (by intro _ _ _ h; exact h) (Or.inr ⟨by rfl, rfl⟩) hHeld ?_
    try simp only [Act.put, List.setIfInBounds_toArray, List.set_cons_zero, List.set_cons_succ]
    refine wpAnyH_take (i := 23) (by simp only [List.getElem?_toArray, List.getElem?_cons_succ, List.getElem?_cons_zero]; exact rfl) (by kernel_rfl) (by kernel_rfl) (by kernel_rfl) (by intro _ _ _ h; exact h) (Or.inr ⟨by rfl, rfl⟩) hHeld ?_
    try simp only [Act.put, List.setIfInBounds_toArray, List.set_cons_zero, List.set_cons_succ]
    refine wpAnyH_take (i := 24) (by simp only [List.getElem?_toArray, List.getElem?_cons_succ, List.getElem?_cons_zero]; exact rfl) (by kernel_rfl) (by kernel_rfl) (by kernel_rfl) (by intro _ _ _ h; exact h) (Or.inr ⟨by rfl, rfl⟩) hHeld ?_
    try simp only [Act.put, List.setIfInBounds_toArray, List.set_cons_zero, List.set_cons_succ]
    refine wpAnyH_take (i := 25) (by simp only [List.getElem?_toArray, List.getElem?_cons_succ, List.getElem?_cons_zero]; exact rfl) (by kernel_rfl) (by kernel_rfl) (by kernel_rfl) (by intro _ _ _ h; exact h) (Or.inr ⟨by rfl, rfl⟩) hHeld ?_
    try simp only [Act.put, List.setIfInBounds_toArray, List.set_cons_zero, List.set_cons_succ]
    refine wpAnyH_take (i := 26) (v := ?v29) (by simp only [List.getElem?_toArray, List.getElem?_cons_succ, List.getElem?_cons_zero]; exact rfl) (by kernel_rfl) (by kernel_rfl) (by kernel_rfl) (by intro _ _ _ h; exact h) (Or.inl ⟨by rfl, ?y29⟩) hHeld ?_
    case y29 => (intro w hSw; (try dsimp only at hSw); go_simp; try (with_reducible rfl))
    try simp only [Act.put, List.setIfInBounds_toArray, List.set_cons_zero, List.set_cons_succ]
    refine wpAnyH_done (by kernel_rfl) ?_ _
    obtain ⟨r1, r2, -, -⟩ := own_cell hr
    go_wp2
    rw [HE.out]
    exact bodyPost_ret (v := .tuple #[.agg #[.slice none 0 0], .bool false]) (by simp [results, Tryd.results58, go_sem, r1]) rfl ⟨⟨_, _, _, rfl⟩, hqc.setCell (show w.heap.size ≤ w.heap.size + 1 + 1 by omega) _⟩
  have hd8 : decide ((8 : Int) < (g.length : Int)) = false := decide_eq_false (by omega)
  have hd8n : decide (8 < g.length) = false := decide_eq_false (by omega)
  by_cases hen : endsN g < endsN (fullG n)
  case pos =>
    have HE := Lib.hid (HME.out hen)
    have hdE : decide ((endsN g : Int) < (endsN (fullG n) : Int)) = true := decide_eq_true (by omega)
    have hdEn : decide (endsN g < endsN (fullG n)) = true := decide_eq_true hen
    clear h8 hgp HME HLE hen
    generalize endsN g = eg at *
    generalize endsN (fullG n) = ep at *
    go_enter Tryd.func58, Tryd.ntmps58
    go_wp2
    rw [← HWW.out]
    have hqc := hq0.drew
    have hr := hr0.drawn ((Drawn.refl _).drew)
    refine wp_region_held_drew (S := (fun w' => w'.cell? ⟨w.heap.size, 0, none⟩ = some (.slice ga g.length gc) ∧ w'.cell? ⟨w.heap.size + 1, 0, none⟩ = some (.slice pa n pc))) (by kernel_rfl) ?_ (fun hHeld => ?_)
    · first | exact ⟨‹_›, ‹_›⟩ | (simp [*, go_sem])
    generalize World.drew _ = wd at hqc hHeld hr ⊢
    obtain ⟨c3, c4⟩ := hHeld
    have hHeld : (fun w' => World.cell? w' ⟨w.heap.size, 0, none⟩ = some (.slice ga g.length gc) ∧ World.cell? w' ⟨w.heap.size + 1, 0, none⟩ = some (.slice pa n pc)) wd := ⟨c3, c4⟩
    refine wpAnyH_take (i := 0) (v := ?v30) (by simp only [List.getElem?_toArray, List.getElem?_cons_zero]; exact rfl) (by kernel_rfl) (by kernel_rfl) (by kernel_rfl) (by intro _ _ _ h; exact h) (Or.inl ⟨by rfl, ?y30⟩) hHeld ?_
    case y30 => (intro w hSw; (try dsimp only at hSw); go_simp; try (with_reducible rfl))
    try simp only [Act.put, List.setIfInBounds_toArray, List.set_cons_zero, List.set_cons_succ]
    refine wpAnyH_ready (rs := [1]) (by kernel_rfl) (by simp) ?_
    refine AllReadyH.cons (by simp only [List.getElem?_toArray, List.getElem?_cons_succ, List.getElem?_cons_zero]; exact rfl) (fun K hK => ?_) AllReadyH.nil
    go_simp
    (with_reducible refine (HSg _ hqc).mono ?_)
    rintro e wn ⟨rfl, hbn⟩
    have hqc := hqc.trans (hbn.mono hqc.size)
    have hr := hr.below hbn (Nat.le_refl _)
    have c3 := (hbn.cell (cell_lt c3)).trans c3
    have c4 := (hbn.cell (cell_lt c4)).trans c4
    try dsimp only
    refine hK.out _ _ ?h32 (fun hHeld => ?_)
    case h32 => first | exact ⟨‹_›, ‹_›⟩ | (simp [*, go_sem])
    clear hK K
    try simp only [Act.put, List.setIfInBounds_toArray, List.set_cons_zero, List.set_cons_succ]
    refine wpAnyH_take (i := 2) (v := ?v33) (by simp only [List.getElem?_toArray, List.getElem?_cons_succ, List.getElem?_cons_zero]; exact rfl) (by kernel_rfl) (by kernel_rfl) (by kernel_rfl) (by intro _ _ _ h; exact h) (Or.inl ⟨by rfl, ?y33⟩) hHeld ?_
    case y33 => (intro w hSw; (try dsimp only at hSw); go_simp; try (with_reducible rfl))
    try simp only [Act.put, List.setIfInBounds_toArray, List.set_cons_zero, List.set_cons_succ]
    refine wpAnyH_take (i := 3) (v := ?v34) (by simp only [List.getElem?_toArray, List.getElem?_cons_succ, List.getElem?_cons_zero]; exact rfl) (by kernel_rfl) (by kernel_rfl) (by kernel_rfl) (by intro _ _ _ h; exact h) (Or.inl ⟨by rfl, ?y34⟩) hHeld ?_
    case y34 => (intro w hSw; (try dsimp only at hSw); go_simp; try (with_reducible rfl))
    try simp only [Act.put, List.setIfInBounds_toArray, List.set_cons_zero, List.set_cons_succ]
    refine wpAnyH_take (i := 4) (v := ?v35) (by simp only [List.getElem?_toArray, List.getElem?_cons_succ, List.getElem?_cons_zero]; exact rfl) (by kernel_rfl) (by kernel_rfl) (by kernel_rfl) (by intro _ _ _ h; exact h) (Or.inl ⟨by rfl, ?y35⟩) hHeld ?_
    case y35 => (intro w hSw; (try dsimp only at hSw); go_simp; try (with_reducible rfl))
    try simp only [Act.put, List.setIfInBounds_toArray, List.set_cons_zero, List.set_cons_succ]
    refine wpAnyH_ready (rs := [5]) (by kernel_rfl) (by simp) ?_
    refine AllReadyH.cons (by simp only [List.getElem?_toArray, List.getElem?_cons_succ, List.getElem?_cons_zero]; exact rfl) (fun K hK => ?_) AllReadyH.nil
    go_simp
    (with_reducible refine (HSp _ hqc).mono ?_)
    rintro e wn ⟨rfl, hbn⟩
    have hqc := hqc.trans (hbn.mono hqc.size)
    have hr := hr.below hbn (Nat.le_refl _)
    have c3 := (hbn.cell (cell_lt c3)).trans c3
    have c4 := (hbn.cell (cell_lt c4)).trans c4
    try dsimp only
    refine hK.out _ _ ?h37 (fun hHeld => ?_)
    case h37 => first | exact ⟨‹_›, ‹_›⟩ | (simp [*, go_sem])
    clear hK K
    try simp only [Act.put, List.setIfInBounds_toArray, List.set_cons_zero, List.set_cons_succ]
    refine wpAnyH_take (i := 6) (v := ?v38) (by simp only [List.getElem?_toArray, List.getElem?_cons_succ, List.getElem?_cons_zero]; exact rfl) (by kernel_rfl) (by kernel_rfl) (by kernel_rfl) (by intro _ _ _ h; exact h) (Or.inl ⟨by rfl, ?y38⟩) hHeld ?_
    case y38 => (intro w hSw; (try dsimp only at hSw); go_simp; try (with_reducible rfl))
    try simp only [Act.put, List.setIfInBounds_toArray, List.set_cons_zero, List.set_cons_succ]
    refine wpAnyH_take (i := 7) (v := ?v39) (by simp only [List.getElem?_toArray, List.getElem?_cons_succ, List.getElem?_cons_zero]; exact rfl) (by kernel_rfl) (by kernel_rfl) (by kernel_rfl) (by intro _ _ _ h; exact h) (Or.inl ⟨by rfl, ?y39⟩) hHeld ?_
    case y39 => (intro w hSw; (try dsimp only at hSw); go_simp; try (with_reducible rfl))
    try simp only [Act.put, List.setIfInBounds_toArray, List.set_cons_zero, List.set_cons_succ]
    refine wpAnyH_take (i := 8) (v := ?v40) (by simp only [List.getElem?_toArray, List.getElem?_cons_succ, List.getElem?_cons_zero]; exact rfl) (by kernel_rfl) (by kernel_rfl) (by kernel_rfl) (by intro _ _ _ h; exact h) (Or.inl ⟨by rfl, ?y40⟩) hHeld ?_
    case y40 => (intro w hSw; (try dsimp only at hSw); go_simp; try (with_reducible rfl))
    try simp only [Act.put, List.setIfInBounds_toArray, List.set_cons_zero, List.set_cons_succ]
    refine wpAnyH_take (i := 9) (v := ?v41) (by simp only [List.getElem?_toArray, List.getElem?_cons_succ, List.getElem?_cons_zero]; exact rfl) (by kernel_rfl) (by kernel_rfl) (by kernel_rfl) (by intro _ _ _ h; exact h) (Or.inl ⟨by rfl, ?y41⟩) hHeld ?_
    case y41 => (intro w hSw; (try dsimp only at hSw); go_simp; try (with_reducible rfl))
    try simp only [Act.put, List.setIfInBounds_toArray, List.set_cons_zero, List.set_cons_succ]
    refine wpAnyH_take (i := 10) (v := ?v42) (by simp only [List.getElem?_toArray, List.getElem?_cons_succ, List.getElem?_cons_zero]; exact rfl) (by kernel_rfl) (by kernel_rfl) (by kernel_rfl) (by intro _ _ _ h; exact h) (Or.inl ⟨by rfl, ?y42⟩) hHeld ?_
    case y42 => (intro w hSw; (try dsimp only at hSw); go_simp; try (with_reducible rfl))
    try simp only [Act.put, List.setIfInBounds_toArray, List.set_cons_zero, List.set_cons_succ]
    refine wpAnyH_take (i := 11) (v := ?v43) (by simp only [List.getElem?_toArray, List.getElem?_cons_succ, List.getElem?_cons_zero]; exact rfl) (by kernel_rfl) (by kernel_rfl) (by kernel_rfl) (by intro _ _ _ h; exact h) (Or.inl ⟨by rfl, ?y43⟩) hHeld ?_
    case y43 => (intro w hSw; (try dsimp only at hSw); go_simp; try (with_reducible rfl))
    try simp only [Act.put, List.setIfInBounds_toArray, List.set_cons_zero, List.set_cons_succ]
    refine wpAnyH_take (i := 12) (v := ?v44) (by simp only [List.getElem?_toArray, List.getElem?_cons_succ, List.getElem?_cons_zero]; exact rfl) (by kernel_rfl) (by kernel_rfl) (by kernel_rfl) (by intro _ _ _ h; exact h) (Or.inl ⟨by rfl, ?y44⟩) hHeld ?_
    case y44 => (intro w hSw; (try dsimp only at hSw); go_simp; try (with_reducible rfl))
    try simp only [Act.put, List.setIfInBounds_toArray, List.set_cons_zero, List.set_cons_succ]
    refine wpAnyH_take (i := 13) (v := ?v45) (by simp only [List.getElem?_toArray, List.getElem?_cons_succ, List.getElem?_cons_zero]; exact rfl) (by kernel_rfl) (by kernel_rfl) (by kernel_rfl) (by intro _ _ _ h; exact h) (Or.inl ⟨by rfl, ?y45⟩) hHeld ?_
    case y45 => (intro w hSw; (try dsimp only at hSw); go_simp; try (with_reducible rfl))
    try simp only [Act.put, List.setIfInBounds_toArray, List.set_cons_zero, List.set_cons_succ]
    refine wpAnyH_take (i := 14) (v := ?v46) (by simp only [List.getElem?_toArray, List.getElem?_cons_succ, List.getElem?_cons_zero]; exact rfl) (by kernel_rfl) (by kernel_rfl) (by kernel_rfl) (by intro _ _ _ h; exact h) (Or.inl ⟨by rfl, ?y46⟩) hHeld ?_
    case y46 => (intro w hSw; (try dsimp only at hSw); go_simp; try (with_reducible rfl))
    try simp only [Act.put, List.setIfInBounds_toArray, List.set_cons_zero, List.set_cons_succ]
    refine wpAnyH_take (i := 15) (v := ?v47) (by simp only [List.getElem?_toArray, List.getElem?_cons_succ, List.getElem?_cons_zero]; exact rfl) (by kernel_rfl) (by kernel_rfl) (by kernel_rfl) (by intro _ _ _ h; exact h) (Or.inl ⟨by rfl, ?y47⟩) hHeld ?_
    case y47 => (intro w hSw; (try dsimp only at hSw); go_simp; try (with_reducible rfl))
    try simp only [Act.put, List.setIfInBounds_toArray, List.set_cons_zero, List.set_cons_succ]
    refine wpAnyH_take (i := 16) (v := ?v48) (by simp only [List.getElem?_toArray, List.getElem?_cons_succ, List.getElem?_cons_zero]; exact rfl) (by kernel_rfl) (by kernel_rfl) (by kernel_rfl) (by intro _ _ _ h; exact h) (Or.inl ⟨by rfl, ?y48⟩) hHeld ?_
    case y48 => (intro w hSw; (try dsimp only at hSw); go_simp; try (with_reducible rfl))
    try simp only [Act.put, List.setIfInBounds_toArray, List.set_cons_zero, List.set_cons_succ]
    refine wpAnyH_take (i := 17) (v := ?v49) (by simp only [List.getElem?_toArray, List.getElem?_cons_succ, List.getElem?_cons_zero]; exact rfl) (by kernel_rfl) (by kernel_rfl) (by kernel_rfl) (by intro _ _ _ h; exact h) (Or.inl ⟨by rfl, ?y49⟩) hHeld ?_
    case y49 => (intro w hSw; (try dsimp only at hSw); go_simp; try (with_reducible rfl))
    try simp only [Act.put, List.setIfInBounds_toArray, List.set_cons_zero, List.set_cons_succ]
    refine wpAnyH_take (i := 18) (v := ?v50) (by simp only [List.getElem?_toArray, List.getElem?_cons_succ, List.getElem?_cons_zero]; exact rfl) (by kernel_rfl) (by kernel_rfl) (by kernel_rfl) (by intro _ _ _ h; exact h) (Or.inl ⟨by rfl, ?y50⟩) hHeld ?_
    case y50 => (intro w hSw; (try dsimp only at hSw); go_simp; try (with_reducible rfl))
    try simp only [Act.put, List.setIfInBounds_toArray, List.set_cons_zero, List.set_cons_succ]
    refine wpAnyH_take (i := 19) (v := ?v51) (by simp only [List.getElem?_toArray, List.getElem?_cons_succ, List.getElem?_cons_zero]; exact rfl) (by kernel_rfl) (by kernel_rfl) (by kernel_rfl) (by intro _ _ _ h; exact h) (Or.inl ⟨by rfl, ?y51⟩) hHeld ?_
    case y51 => (intro w hSw; (try dsimp only at hSw); go_simp; try (with_reducible rfl))
    try simp only [Act.put, List.setIfInBounds_toArray, List.set_cons_zero, List.set_cons_succ]
    refine wpAnyH_take (i := 20) (v := ?v52) (by simp only [List.getElem?_toArray, List.getElem?_cons_succ, List.getElem?_cons_zero]; exact rfl) (by kernel_rfl) (by kernel_rfl) (by kernel_rfl) (by intro _ _ _ h; exact h) (Or.inl ⟨by rfl, ?y52⟩) hHeld ?_
    case y52 => (intro w hSw; (try dsimp only at hSw); go_simp; try (with_reducible rfl))
    try simp only [Act.put, List.setIfInBounds_toArray, List.set_cons_zero, List.set_cons_succ]
    refine wpAnyH_take (i := 21) (v := ?v53) (by simp only [List.getElem?_toArray, List.getElem?_cons_succ, List.getElem?_cons_zero]; exact rfl) (by kernel_rfl) (by kernel_rfl) (by kernel_rfl) (by intro _ _ _ h; exact h) (Or.inl ⟨by rfl, ?y53⟩) hHeld ?_
    case y53 => (intro w hSw; (try dsimp only at hSw); go_simp; try (with_reducible rfl))
    try simp only [Act.put, List.setIfInBounds_toArray, List.set_cons_zero, List.set_cons_succ]
    refine wpAnyH_take (i := 23) (v := ?v54) (by simp only [List.getElem?_toArray, List.getElem?_cons_succ, List.getElem?_cons_zero]; exact rfl) (by kernel_rfl) (by kernel_rfl) (by kernel_rfl) (by intro _ _ _ h; exact h) (Or.inl ⟨by rfl, ?y54⟩) hHeld ?_
    case y54 => (intro w hSw; (try dsimp only at hSw); go_simp; try (with_reducible rfl))
    try simp only [Act.put, List.setIfInBounds_toArray, List.set_cons_zero, List.set_cons_succ]
    refine wpAnyH_ready (rs := [22]) (by kernel_rfl) (by simp) ?_
    refine AllReadyH.cons (by simp only [List.getElem?_toArray, List.getElem?_cons_succ, List.getElem?_cons_zero]; exact rfl) (fun K hK => ?_) AllReadyH.nil
    go_simp
    (with_reducible refine (HEp _ hqc).mono ?_)
    rintro e wn ⟨rfl, hbn⟩
    have hqc := hqc.trans (hbn.mono hqc.size)
    have hr := hr.below hbn (Nat.le_refl _)
    have c3 := (hbn.cell (cell_lt c3)).trans c3
    have c4 := (hbn.cell (cell_lt c4)).trans c4
    try dsimp only
    refine hK.out _ _ ?h56 (fun hHeld => ?_)
    case h56 => first | exact ⟨‹_›, ‹_›⟩ | (simp [*, go_sem])
    clear hK K
    try simp only [Act.put, List.setIfInBounds_toArray, List.set_cons_zero, List.set_cons_succ]
    refine wpAnyH_ready (rs := [24]) (by kernel_rfl) (by simp) ?_
    refine AllReadyH.cons (by simp only [List.getElem?_toArray, List.getElem?_cons_succ, List.getElem?_cons_zero]; exact rfl) (fun K hK => ?_) AllReadyH.nil
    go_simp
    (with_reducible refine (HEg _ hqc).mono ?_)
    rintro e wn ⟨rfl, hbn⟩
    have hqc := hqc.trans (hbn.mono hqc.size)
    have hr := hr.below hbn (Nat.le_refl _)
    have c3 := (hbn.cell (cell_lt c3)).trans c3
    have c4 := (hbn.cell (cell_lt c4)).trans c4
    try dsimp only
    refine hK.out _ _ ?h58 (fun hHeld => ?_)
    case h58 => first | exact ⟨‹_›, ‹_›⟩ | (simp [*, go_sem])
    clear hK K
    try simp only [Act.put, List.setIfInBounds_toArray, List.set_cons_zero, List.set_cons_succ]
    refine wpAnyH_take (i := 25) (v := ?v59) (by simp only [List.getElem?_toArray, List.getElem?_cons_succ, List.getElem?_cons_zero]; exact rfl) (by kernel_rfl) (by kernel_rfl) (by kernel_rfl) (by intro _ _ _ h; exact h) (Or.inl ⟨by rfl, ?y59⟩) hHeld ?_
    case y59 => (intro w hSw; (try dsimp only at hSw); go_simp; try (with_reducible rfl))
    try simp only [Act.put, List.setIfInBounds_toArray, List.set_cons_zero, List.set_cons_succ]
    refine wpAnyH_take (i := 26) (v := ?v60) (by simp only [List.getElem?_toArray, List.getElem?_cons_succ, List.getElem?_cons_zero]; exact rfl) (by kernel_rfl) (by kernel_rfl) (by kernel_rfl) (by intro _ _ _ h; exact h) (Or.inl ⟨by rfl, ?y60⟩) hHeld ?_
    case y60 => (intro w hSw; (try dsimp only at hSw); go_simp; try (with_reducible rfl))
    try simp only [Act.put, List.setIfInBounds_toArray, List.set_cons_zero, List.set_cons_succ]
    refine wpAnyH_done (by kernel_rfl) ?_ _
    obtain ⟨r1, r2, -, -⟩ := own_cell hr
    go_wp2
    rw [HE.out]
    exact bodyPost_ret (v := .tuple #[.agg #[.slice none 0 0], .bool false]) (by simp [results, Tryd.results58, go_sem, r1]) rfl ⟨⟨_, _, _, rfl⟩, hqc.setCell (show w.heap.size ≤ w.heap.size + 1 + 1 by omega) _⟩
  have hdE : decide ((endsN g : Int) < (endsN (fullG n) : Int)) = false := decide_eq_false (by omega)
  have hdEn : decide (endsN g < endsN (fullG n)) = false := decide_eq_false hen
  have HE := Lib.hid (show mb = extB (netsL g) g.length n [] by rw [HLE.out, decide_eq_true h8]; rfl)
  have hg8 := h8
  have HNL := Lib.hid (fun (W : World) (hb : Below w.heap.size w W) => l21Near_any (w := W) hg (hvg.below hb (Nat.le_refl _)))
  have HFI := Lib.hid (fun (S : Nat → Prop) (nv : Value) (B : Nat) => l21Find_any (S := S) (nv := nv) (pv := .slice pa n pc) (H := netsL g) (m := n) (B := B) (by rw [netsL_len]; exact h8) hn5 (by rw [netsL_len]; exact (WideI.of hg).lt) (by rw [netsL_len]; exact nets_symM hg) g.length)
  clear h8 hgp HME HLE hen
  generalize endsN g = eg at *
  generalize endsN (fullG n) = ep at *
  go_enter Tryd.func58, Tryd.ntmps58
  go_wp2
  rw [← HWW.out]
  have hqc := hq0.drew
  have hr := hr0.drawn ((Drawn.refl _).drew)
  refine wp_region_held_drew (S := (fun w' => w'.cell? ⟨w.heap.size, 0, none⟩ = some (.slice ga g.length gc) ∧ w'.cell? ⟨w.heap.size + 1, 0, none⟩ = some (.slice pa n pc))) (by kernel_rfl) ?_ (fun hHeld => ?_)
  · first | exact ⟨‹_›, ‹_›⟩ | (simp [*, go_sem])
  generalize World.drew _ = wd at hqc hHeld hr ⊢
  obtain ⟨c3, c4⟩ := hHeld
  have hHeld : (fun w' => World.cell? w' ⟨w.heap.size, 0, none⟩ = some (.slice ga g.length gc) ∧ World.cell? w' ⟨w.heap.size + 1, 0, none⟩ = some (.slice pa n pc)) wd := ⟨c3, c4⟩
  refine wpAnyH_take (i := 0) (v := ?v61) (by simp only [List.getElem?_toArray, List.getElem?_cons_zero]; exact rfl) (by kernel_rfl) (by kernel_rfl) (by kernel_rfl) (by intro _ _ _ h; exact h) (Or.inl ⟨by rfl, ?y61⟩) hHeld ?_
  case y61 => (intro w hSw; (try dsimp only at hSw); go_simp; try (with_reducible rfl))
  try simp only [Act.put, List.setIfInBounds_toArray, List.set_cons_zero, List.set_cons_succ]
  refine wpAnyH_ready (rs := [1]) (by kernel_rfl) (by simp) ?_
  refine AllReadyH.cons (by simp only [List.getElem?_toArray, List.getElem?_cons_succ, List.getElem?_cons_zero]; exact rfl) (fun K hK => ?_) AllReadyH.nil
  go_simp
  (with_reducible refine (HSg _ hqc).mono ?_)
  rintro e wn ⟨rfl, hbn⟩
  have hqc := hqc.trans (hbn.mono hqc.size)
  have hr := hr.below hbn (Nat.le_refl _)
  have c3 := (hbn.cell (cell_lt c3)).trans c3
  have c4 := (hbn.cell (cell_lt c4)).trans c4
  try dsimp only
  refine hK.out _ _ ?h63 (fun hHeld => ?_)
  case h63 => first | exact ⟨‹_›, ‹_›⟩ | (simp [*, go_sem])
  clear hK K
  try simp only [Act.put, List.setIfInBounds_toArray, List.set_cons_zero, List.set_cons_succ]
  refine wpAnyH_take (i := 2) (v := ?v64) (by simp only [List.getElem?_toArray, List.getElem?_cons_succ, List.getElem?_cons_zero]; exact rfl) (by kernel_rfl) (by kernel_rfl) (by kernel_rfl) (by intro _ _ _ h; exact h) (Or.inl ⟨by rfl, ?y64⟩) hHeld ?_
  case y64 => (intro w hSw; (try dsimp only at hSw); go_simp; try (with_reducible rfl))
  try simp only [Act.put, List.setIfInBounds_toArray, List.set_cons_zero, List.set_cons_succ]
  refine wpAnyH_take (i := 3) (v := ?v65) (by simp only [List.getElem?_toArray, List.getElem?_cons_succ, List.getElem?_cons_zero]; exact rfl) (by kernel_rfl) (by kernel_rfl) (by kernel_rfl) (by intro _ _ _ h; exact h) (Or.inl ⟨by rfl, ?y65⟩) hHeld ?_
  case y65 => (intro w hSw; (try dsimp only at hSw); go_simp; try (with_reducible rfl))
  try simp only [Act.put, List.setIfInBounds_toArray, List.set_cons_zero, List.set_cons_succ]
  refine wpAnyH_take (i := 4) (v := ?v66) (by simp only [List.getElem?_toArray, List.getElem?_cons_succ, List.getElem?_cons_zero]; exact rfl) (by kernel_rfl) (by kernel_rfl) (by kernel_rfl) (by intro _ _ _ h; exact h) (Or.inl ⟨by rfl, ?y66⟩) hHeld ?_
  case y66 => (intro w hSw; (try dsimp only at hSw); go_simp; try (with_reducible rfl))
  try simp only [Act.put, List.setIfInBounds_toArray, List.set_cons_zero, List.set_cons_succ]
  refine wpAnyH_ready (rs := [5]) (by kernel_rfl) (by simp) ?_
  refine AllReadyH.cons (by simp only [List.getElem?_toArray, List.getElem?_cons_succ, List.getElem?_cons_zero]; exact rfl) (fun K hK => ?_) AllReadyH.nil
  go_simp
  (with_reducible refine (HSp _ hqc).mono ?_)
  rintro e wn ⟨rfl, hbn⟩
  have hqc := hqc.trans (hbn.mono hqc.size)
  have hr := hr.below hbn (Nat.le_refl _)
  have c3 := (hbn.cell (cell_lt c3)).trans c3
  have c4 := (hbn.cell (cell_lt c4)).trans c4
  try dsimp only
  refine hK.out _ _ ?h68 (fun hHeld => ?_)
  case h68 => first | exact ⟨‹_›, ‹_›⟩ | (simp [*, go_sem])
  clear hK K
  try simp only [Act.put, List.setIfInBounds_toArray, List.set_cons_zero, List.set_cons_succ]
  refine wpAnyH_take (i := 6) (v := ?v69) (by simp only [List.getElem?_toArray, List.getElem?_cons_succ, List.getElem?_cons_zero]; exact rfl) (by kernel_rfl) (by kernel_rfl) (by kernel_rfl) (by intro _ _ _ h; exact h) (Or.inl ⟨by rfl, ?y69⟩) hHeld ?_
  case y69 => (intro w hSw; (try dsimp only at hSw); go_simp; try (with_reducible rfl))
  try simp only [Act.put, List.setIfInBounds_toArray, List.set_cons_zero, List.set_cons_succ]
  refine wpAnyH_take (i := 7) (v := ?v70) (by simp only [List.getElem?_toArray, List.getElem?_cons_succ, List.getElem?_cons_zero]; exact rfl) (by kernel_rfl) (by kernel_rfl) (by kernel_rfl) (by intro _ _ _ h; exact h) (Or.inl ⟨by rfl, ?y70⟩) hHeld ?_
  case y70 => (intro w hSw; (try dsimp only at hSw); go_simp; try (with_reducible rfl))
  try simp only [Act.put, List.setIfInBounds_toArray, List.set_cons_zero, List.set_cons_succ]
  refine wpAnyH_take (i := 8) (v := ?v71) (by simp only [List.getElem?_toArray, List.getElem?_cons_succ, List.getElem?_cons_zero]; exact rfl) (by kernel_rfl) (by kernel_rfl) (by kernel_rfl) (by intro _ _ _ h; exact h) (Or.inl ⟨by rfl, ?y71⟩) hHeld ?_
  case y71 => (intro w hSw; (try dsimp only at hSw); go_simp; try (with_reducible rfl))
  try simp only [Act.put, List.setIfInBounds_toArray, List.set_cons_zero, List.set_cons_succ]
  refine wpAnyH_take (i := 9) (v := ?v72) (by simp only [List.getElem?_toArray, List.getElem?_cons_succ, List.getElem?_cons_zero]; exact rfl) (by kernel_rfl) (by kernel_rfl) (by kernel_rfl) (by intro _ _ _ h; exact h) (Or.inl ⟨by rfl, ?y72⟩) hHeld ?_
  case y72 => (intro w hSw; (try dsimp only at hSw); go_simp; try (with_reducible rfl))
  try simp only [Act.put, List.setIfInBounds_toArray, List.set_cons_zero, List.set_cons_succ]
  refine wpAnyH_take (i := 10) (v := ?v73) (by simp only [List.getElem?_toArray, List.getElem?_cons_succ, List.getElem?_cons_zero]; exact rfl) (by kernel_rfl) (by kernel_rfl) (by kernel_rfl) (by intro _ _ _ h; exact h) (Or.inl ⟨by rfl, ?y73⟩) hHeld ?_
  case y73 => (intro w hSw; (try dsimp only at hSw); go_simp; try (with_reducible rfl))
  try simp only [Act.put, List.setIfInBounds_toArray, List.set_cons_zero, List.set_cons_succ]
  refine wpAnyH_take (i := 11) (v := ?v74) (by simp only [List.getElem?_toArray, List.getElem?_cons_succ, List.getElem?_cons_zero]; exact rfl) (by kernel_rfl) (by kernel_rfl) (by kernel_rfl) (by intro _ _ _ h; exact h) (Or.inl ⟨by rfl, ?y74⟩) hHeld ?_
  case y74 => (intro w hSw; (try dsimp only at hSw); go_simp; try (with_reducible rfl))
  try simp only [Act.put, List.setIfInBounds_toArray, List.set_cons_zero, List.set_cons_succ]
  refine wpAnyH_take (i := 12) (v := ?v75) (by simp only [List.getElem?_toArray, List.getElem?_cons_succ, List.getElem?_cons_zero]; exact rfl) (by kernel_rfl) (by kernel_rfl) (by kernel_rfl) (by intro _ _ _ h; exact h) (Or.inl ⟨by rfl, ?y75⟩) hHeld ?_
  case y75 => (intro w hSw; (try dsimp only at hSw); go_simp; try (with_reducible rfl))
  try simp only [Act.put, List.setIfInBounds_toArray, List.set_cons_zero, List.set_cons_succ]
  refine wpAnyH_take (i := 13) (v := ?v76) (by simp only [List.getElem?_toArray, List.getElem?_cons_succ, List.getElem?_cons_zero]; exact rfl) (by kernel_rfl) (by kernel_rfl) (by kernel_rfl) (by intro _ _ _ h; exact h) (Or.inl ⟨by rfl, ?y76⟩) hHeld ?_
  case y76 => (intro w hSw; (try dsimp only at hSw); go_simp; try (with_reducible rfl))
  try simp only [Act.put, List.setIfInBounds_toArray, List.set_cons_zero, List.set_cons_succ]
  refine wpAnyH_take (i := 14) (v := ?v77) (by simp only [List.getElem?_toArray, List.getElem?_cons_succ, List.getElem?_cons_zero]; exact rfl) (by kernel_rfl) (by kernel_rfl) (by kernel_rfl) (by intro _ _ _ h; exact h) (Or.inl ⟨by rfl, ?y77⟩) hHeld ?_
  case y77 => (intro w hSw; (try dsimp only at hSw); go_simp; try (with_reducible rfl))
  try simp only [Act.put, List.setIfInBounds_toArray, List.set_cons_zero, List.set_cons_succ]
  refine wpAnyH_take (i := 15) (v := ?v78) (by simp only [List.getElem?_toArray, List.getElem?_cons_succ, List.getElem?_cons_zero]; exact rfl) (by kernel_rfl) (by kernel_rfl) (by kernel_rfl) (by intro _ _ _ h; exact h) (Or.inl ⟨by rfl, ?y78⟩) hHeld ?_
  case y78 => (intro w hSw; (try dsimp only at hSw); go_simp; try (with_reducible rfl))
  try simp only [Act.put, List.setIfInBounds_toArray, List.set_cons_zero, List.set_cons_succ]
  refine wpAnyH_take (i := 16) (v := ?v79) (by simp only [List.getElem?_toArray, List.getElem?_cons_succ, List.getElem?_cons_zero]; exact rfl) (by kernel_rfl) (by kernel_rfl) (by kernel_rfl) (by intro _ _ _ h; exact h) (Or.inl ⟨by rfl, ?y79⟩) hHeld ?_
  case y79 => (intro w hSw; (try dsimp only at hSw); go_simp; try (with_reducible rfl))
  try simp only [Act.put, List.setIfInBounds_toArray, List.set_cons_zero, List.set_cons_succ]
  refine wpAnyH_take (i := 17) (v := ?v80) (by simp only [List.getElem?_toArray, List.getElem?_cons_succ, List.getElem?_cons_zero]; exact rfl) (by kernel_rfl) (by kernel_rfl) (by kernel_rfl) (by intro _ _ _ h; exact h) (Or.inl ⟨by rfl, ?y80⟩) hHeld ?_
  case y80 => (intro w hSw; (try dsimp only at hSw); go_simp; try (with_reducible rfl))
  try simp only [Act.put, List.setIfInBounds_toArray, List.set_cons_zero, List.set_cons_succ]
  refine wpAnyH_take (i := 18) (v := ?v81) (by simp only [List.getElem?_toArray, List.getElem?_cons_succ, List.getElem?_cons_zero]; exact rfl) (by kernel_rfl) (by kernel_rfl) (by kernel_rfl) (by intro _ _ _ h; exact h) (Or.inl ⟨by rfl, ?y81⟩) hHeld ?_
  case y81 => (intro w hSw; (try dsimp only at hSw); go_simp; try (with_reducible rfl))
  try simp only [Act.put, List.setIfInBounds_toArray, List.set_cons_zero, List.set_cons_succ]
  refine wpAnyH_take (i := 19) (v := ?v82) (by simp only [List.getElem?_toArray, List.getElem?_cons_succ, List.getElem?_cons_zero]; exact rfl) (by kernel_rfl) (by kernel_rfl) (by kernel_rfl) (by intro _ _ _ h; exact h) (Or.inl ⟨by rfl, ?y82⟩) hHeld ?_
  case y82 => (intro w hSw; (try dsimp only at hSw); go_simp; try (with_reducible rfl))
  try simp only [Act.put, List.setIfInBounds_toArray, List.set_cons_zero, List.set_cons_succ]
  refine wpAnyH_take (i := 20) (v := ?v83) (by simp only [List.getElem?_toArray, List.getElem?_cons_succ, List.getElem?_cons_zero]; exact rfl) (by kernel_rfl) (by kernel_rfl) (by kernel_rfl) (by intro _ _ _ h; exact h) (Or.inl ⟨by rfl, ?y83⟩) hHeld ?_
  case y83 => (intro w hSw; (try dsimp only at hSw); go_simp; try (with_reducible rfl))
  try simp only [Act.put, List.setIfInBounds_toArray, List.set_cons_zero, List.set_cons_succ]
  refine wpAnyH_take (i := 21) (v := ?v84) (by simp only [List.getElem?_toArray, List.getElem?_cons_succ, List.getElem?_cons_zero]; exact rfl) (by kernel_rfl) (by kernel_rfl) (by kernel_rfl) (by intro _ _ _ h; exact h) (Or.inl ⟨by rfl, ?y84⟩) hHeld ?_
  case y84 => (intro w hSw; (try dsimp only at hSw); go_simp; try (with_reducible rfl))
  try simp only [Act.put, List.setIfInBounds_toArray, List.set_cons_zero, List.set_cons_succ]
  refine wpAnyH_take (i := 23) (v := ?v85) (by simp only [List.getElem?_toArray, List.getElem?_cons_succ, List.getElem?_cons_zero]; exact rfl) (by kernel_rfl) (by kernel_rfl) (by kernel_rfl) (by intro _ _ _ h; exact h) (Or.inl ⟨by rfl, ?y85⟩) hHeld ?_
  case y85 => (intro w hSw; (try dsimp only at hSw); go_simp; try (with_reducible rfl))
  try simp only [Act.put, List.setIfInBounds_toArray, List.set_cons_zero, List.set_cons_succ]
  refine wpAnyH_ready (rs := [22]) (by kernel_rfl) (by simp) ?_
  refine AllReadyH.cons (by simp only [List.getElem?_toArray, List.getElem?_cons_succ, List.getElem?_cons_zero]; exact rfl) (fun K hK => ?_) AllReadyH.nil
  go_simp
  (with_reducible refine (HEp _ hqc).mono ?_)
  rintro e wn ⟨rfl, hbn⟩
  have hqc := hqc.trans (hbn.mono hqc.size)
  have hr := hr.below hbn (Nat.le_refl _)
  have c3 := (hbn.cell (cell_lt c3)).trans c3
  have c4 := (hbn.cell (cell_lt c4)).trans c4
  try dsimp only
  refine hK.out _ _ ?h87 (fun hHeld => ?_)
  case h87 => first | exact ⟨‹_›, ‹_›⟩ | (simp [*, go_sem])
  clear hK K
  try simp only [Act.put, List.setIfInBounds_toArray, List.set_cons_zero, List.set_cons_succ]
  refine wpAnyH_ready (rs := [24]) (by kernel_rfl) (by simp) ?_
  refine AllReadyH.cons (by simp only [List.getElem?_toArray, List.getElem?_cons_succ, List.getElem?_cons_zero]; exact rfl) (fun K hK => ?_) AllReadyH.nil
  go_simp
  (with_reducible refine (HEg _ hqc).mono ?_)
  rintro e wn ⟨rfl, hbn⟩
  have hqc := hqc.trans (hbn.mono hqc.size)
  have hr := hr.below hbn (Nat.le_refl _)
  have c3 := (hbn.cell (cell_lt c3)).trans c3
  have c4 := (hbn.cell (cell_lt c4)).trans c4
  try dsimp only
  refine hK.out _ _ ?h89 (fun hHeld => ?_)
  case h89 => first | exact ⟨‹_›, ‹_›⟩ | (simp [*, go_sem])
  clear hK K
  try simp only [Act.put, List.setIfInBounds_toArray, List.set_cons_zero, List.set_cons_succ]
  refine wpAnyH_take (i := 25) (v := ?v90) (by simp only [List.getElem?_toArray, List.getElem?_cons_succ, List.getElem?_cons_zero]; exact rfl) (by kernel_rfl) (by kernel_rfl) (by kernel_rfl) (by intro _ _ _ h; exact h) (Or.inl ⟨by rfl, ?y90⟩) hHeld ?_
  case y90 => (intro w hSw; (try dsimp only at hSw); go_simp; try (with_reducible rfl))
  try simp only [Act.put, List.setIfInBounds_toArray, List.set_cons_zero, List.set_cons_succ]
  refine wpAnyH_take (i := 26) (v := ?v91) (by simp only [List.getElem?_toArray, List.getElem?_cons_succ, List.getElem?_cons_zero]; exact rfl) (by kernel_rfl) (by kernel_rfl) (by kernel_rfl) (by intro _ _ _ h; exact h) (Or.inl ⟨by rfl, ?y91⟩) hHeld ?_
  case y91 => (intro w hSw; (try dsimp only at hSw); go_simp; try (with_reducible rfl))
  try simp only [Act.put, List.setIfInBounds_toArray, List.set_cons_zero, List.set_cons_succ]
  refine wpAnyH_done (by kernel_rfl) ?_ _
  clear hHeld
  obtain ⟨wi, rfl⟩ : ∃ wx : World, wx = wn := ⟨_, rfl⟩
  have hqi := hqc
  have hri := hr
  have c3i := c3
  have c4i := c4
  clear hqc hr c3 c4 hbn
  have hg16 := hg.hi
  have hgl : (netsL g).length = g.length := netsL_len g
  have HGL := Lib.hid hgl
  clear hgl
  go_wp2
  refine wp_region_held_drew (S := (fun w' => w'.cell? ⟨w.heap.size, 0, none⟩ = some (.slice ga g.length gc) ∧ w'.cell? ⟨w.heap.size + 1, 0, none⟩ = some (.slice pa n pc))) (by kernel_rfl) ?_ (fun hHeld => ?_)
  · first | exact ⟨‹_›, ‹_›⟩ | (simp [*, go_sem])
  have hdw : Drawn wi wi.drew := (Drawn.refl _).drew
  generalize wi.drew = wz at hdw hHeld ⊢
  obtain ⟨c3, c4⟩ := hHeld
  have hHeld : (fun w' => World.cell? w' ⟨w.heap.size, 0, none⟩ = some (.slice ga g.length gc) ∧ World.cell? w' ⟨w.heap.size + 1, 0, none⟩ = some (.slice pa n pc)) wz := ⟨c3, c4⟩
  have hqc := hqi.trans (hdw.below _)
  have hr := hri.drawn hdw
  clear hqi hri hdw c3i c4i
  refine wpAnyH_take (i := 0) (v := ?v92) (by simp only [List.getElem?_toArray, List.getElem?_cons_zero]; exact rfl) (by kernel_rfl) (by kernel_rfl) (by kernel_rfl) (by intro _ _ _ h; exact h) (Or.inl ⟨by rfl, ?y92⟩) hHeld ?_
  case y92 => (intro w hSw; (try dsimp only at hSw); go_simp; try (with_reducible rfl))
  try simp only [Act.put, List.setIfInBounds_toArray, List.set_cons_zero, List.set_cons_succ]
  refine wpAnyH_take (i := 2) (v := ?v93) (by simp only [List.getElem?_toArray, List.getElem?_cons_succ, List.getElem?_cons_zero]; exact rfl) (by kernel_rfl) (by kernel_rfl) (by kernel_rfl) (by intro _ _ _ h; exact h) (Or.inl ⟨by rfl, ?y93⟩) hHeld ?_
  case y93 => (intro w hSw; (try dsimp only at hSw); go_simp; try (with_reducible rfl))
  try simp only [Act.put, List.setIfInBounds_toArray, List.set_cons_zero, List.set_cons_succ]
  refine wpAnyH_ready (rs := [1, 3]) (by kernel_rfl) (by simp) ?_
  refine (AllReadyH.cons (by simp only [List.getElem?_toArray, List.getElem?_cons_succ, List.getElem?_cons_zero]; exact rfl) (fun K hK => ?b94_1) (AllReadyH.cons (by simp only [List.getElem?_toArray, List.getElem?_cons_succ, List.getElem?_cons_zero]; exact rfl) (fun K hK => ?b94_3) AllReadyH.nil))
  case b94_1 =>
    go_simp
    (with_reducible refine (HNL.out _ hqc).mono ?_)
    rintro e wy ⟨nu, rfl, hnu, hbn⟩
    have hqc := hqc.trans (hbn.mono hqc.size)
    have hr := hr.below hbn (Nat.le_refl _)
    have c3 := (hbn.cell (cell_lt c3)).trans c3
    have c4 := (hbn.cell (cell_lt c4)).trans c4
    try have hem := hem.below hbn (Nat.le_refl _)
    try have hne : ∀ b, nu.ownBlock = some b → b ≠ nb := (fun b hb => by have := (hnu.lt b hb).1; omega)
    obtain ⟨wz, rfl⟩ : ∃ x, x = wy := ⟨_, rfl⟩
    try dsimp only
    refine hK.out _ _ ?h95 (fun hHeld => ?_)
    case h95 => first | exact ⟨‹_›, ‹_›⟩ | (simp [*, go_sem])
    clear hK K
    try simp only [Act.put, List.setIfInBounds_toArray, List.set_cons_zero, List.set_cons_succ]
    refine wpAnyH_ready (rs := [3]) (by kernel_rfl) (by simp) ?_
    refine AllReadyH.cons (by simp only [List.getElem?_toArray, List.getElem?_cons_succ, List.getElem?_cons_zero]; exact rfl) (fun K hK => ?_) AllReadyH.nil
    go_simp
    obtain ⟨nb, hnb⟩ : ∃ nb, nb = wz.heap.size := ⟨_, rfl⟩
    rw [← hnb]
    have hbn : Below wz.heap.size wz (wz.alloc (.cells #[] 2)) := (Below.refl _ _).alloc (Nat.le_refl _) _
    have hem : Own (wz.alloc (.cells #[] 2)) w.heap.size 2 1 (.slice (some ⟨nb, 0, none⟩) 0 0) 0 [] := (by rw [hnb]; exact World.ownsRow_lit (base := w.heap.size) (e := 2) (size := 1) wz #[] 0 hqc.size (by unfold maxLen; omega) rfl)
    have hnbg : w.heap.size + 1 + 1 < nb := (by have := (own_cell hr).2.2.2; omega)
    have hnbl : nb < (wz.alloc (.cells #[] 2)).heap.size := (by rw [hnb]; simp)
    try have hne : ∀ b, nu.ownBlock = some b → b ≠ nb := (fun b hb => by have := (hnu.lt b hb).2; omega)
    try have hnu := hnu.below hbn (Nat.le_refl _)
    have hqc := hqc.trans (hbn.mono hqc.size)
    have hr := hr.below hbn (Nat.le_refl _)
    have c3 := (hbn.cell (cell_lt c3)).trans c3
    have c4 := (hbn.cell (cell_lt c4)).trans c4
    clear hnb
    first | generalize wz.alloc (.cells #[] 2) = wy at hbn hem hnbl hqc hr c3 c4 hnu ⊢ | generalize wz.alloc (.cells #[] 2) = wy at hbn hem hnbl hqc hr c3 c4 ⊢
    obtain ⟨wz, rfl⟩ : ∃ x, x = wy := ⟨_, rfl⟩
    try dsimp only
    refine hK.out _ _ ?h97 (fun hHeld => ?_)
    case h97 => first | exact ⟨‹_›, ‹_›⟩ | (simp [*, go_sem])
    clear hK K
    try simp only [Act.put, List.setIfInBounds_toArray, List.set_cons_zero, List.set_cons_succ]
    refine wpAnyH_ready (rs := [4]) (by kernel_rfl) (by simp) ?_
    refine AllReadyH.cons (by simp only [List.getElem?_toArray, List.getElem?_cons_succ, List.getElem?_cons_zero]; exact rfl) (fun K hK => ?_) AllReadyH.nil
    go_simp
    have hns := Own.ints (xs := natsI (netsL g)) (k := .i64) hnu (by omega)
    with_reducible refine (HFI.out (fun b => b < w.heap.size ∨ nu.ownBlock = some b) nu w.heap.size [] _ _ (by simp [HGL.out]) (by simp) (hns.weak (fun b hb => Or.inr hb)) (((hvp.low3S).weak (fun b hb => Or.inl hb.2)).below hqc (Nat.le_refl _)) (by simpa [natsI] using hem) hqc.size (find_S hnu hqc.size (by omega) hne)).mono ?_
    rintro e w4 ⟨x, rfl, hxt, ho4, hk4⟩
    rw [HGL.out, ← HE.out] at hxt ⊢
    have hkn : ∀ b, b < wz.heap.size → b ≠ nb → w4.heap[b]? = wz.heap[b]? := (fun b hb hn => hk4.block b hb (fun e => hn (by have : nb = b := (by simpa [Value.ownBlock] using e); exact this.symm)))
    have hq4 : Below w.heap.size w w4 := hqc.trans ⟨hk4.os, hk4.tape, hk4.output, hk4.size, fun b hb => hkn b (by have := hqc.size; omega) (by omega)⟩
    have c3 := (World.cell?_of_block (a := ⟨w.heap.size, 0, none⟩) (hkn w.heap.size (cell_lt c3) (by omega))).trans c3
    have c4 := (World.cell?_of_block (a := ⟨w.heap.size + 1, 0, none⟩) (hkn (w.heap.size + 1) (cell_lt c4) (by omega))).trans c4
    have hr4 := own1_keep hr (hkn (w.heap.size + 1 + 1) (own_cell hr).2.2.2 (by omega))
    try dsimp only
    refine hK.out _ _ ?h99 (fun hHeld => ?_)
    case h99 => first | exact ⟨‹_›, ‹_›⟩ | (simp [*, go_sem])
    clear hK K
    try simp only [Act.put, List.setIfInBounds_toArray, List.set_cons_zero, List.set_cons_succ]
    refine wpAnyH_take (i := 5) (v := ?v100) (by simp only [List.getElem?_toArray, List.getElem?_cons_succ, List.getElem?_cons_zero]; exact rfl) (by kernel_rfl) (by kernel_rfl) (by kernel_rfl) (by intro _ _ _ h; exact h) (Or.inl ⟨by rfl, ?y100⟩) hHeld ?_
    case y100 => (intro w hSw; (try dsimp only at hSw); go_simp; try (with_reducible rfl))
    try simp only [Act.put, List.setIfInBounds_toArray, List.set_cons_zero, List.set_cons_succ]
    refine wpAnyH_take (i := 6) (v := ?v101) (by simp only [List.getElem?_toArray, List.getElem?_cons_succ, List.getElem?_cons_zero]; exact rfl) (by kernel_rfl) (by kernel_rfl) (by kernel_rfl) (by intro _ _ _ h; exact h) (Or.inl ⟨by rfl, ?y101⟩) hHeld ?_
    case y101 => (intro w hSw; (try dsimp only at hSw); go_simp; try (with_reducible rfl))
    try simp only [Act.put, List.setIfInBounds_toArray, List.set_cons_zero, List.set_cons_succ]
    refine wpAnyH_take (i := 7) (v := ?v102) (by simp only [List.getElem?_toArray, List.getElem?_cons_succ, List.getElem?_cons_zero]; exact rfl) (by kernel_rfl) (by kernel_rfl) (by kernel_rfl) (by intro _ _ _ h; exact h) (Or.inl ⟨by rfl, ?y102⟩) hHeld ?_
    case y102 => (intro w hSw; (try dsimp only at hSw); go_simp; try (with_reducible rfl))
    try simp only [Act.put, List.setIfInBounds_toArray, List.set_cons_zero, List.set_cons_succ]
    refine wpAnyH_take (i := 8) (v := ?v103) (by simp only [List.getElem?_toArray, List.getElem?_cons_succ, List.getElem?_cons_zero]; exact rfl) (by kernel_rfl) (by kernel_rfl) (by kernel_rfl) (by intro _ _ _ h; exact h) (Or.inl ⟨by rfl, ?y103⟩) hHeld ?_
    case y103 => (intro w hSw; (try dsimp only at hSw); go_simp; try (with_reducible rfl))
    try simp only [Act.put, List.setIfInBounds_toArray, List.set_cons_zero, List.set_cons_succ]
    refine wpAnyH_take (i := 9) (v := ?v104) (by simp only [List.getElem?_toArray, List.getElem?_cons_succ, List.getElem?_cons_zero]; exact rfl) (by kernel_rfl) (by kernel_rfl) (by kernel_rfl) (by intro _ _ _ h; exact h) (Or.inl ⟨by rfl, ?y104⟩) hHeld ?_
    case y104 => (intro w hSw; (try dsimp only at hSw); go_simp; try (with_reducible rfl))
    try simp only [Act.put, List.setIfInBounds_toArray, List.set_cons_zero, List.set_cons_succ]
    refine wpAnyH_done (by kernel_rfl) ?_ _
    clear hHeld hkn hk4 ho4 hem hns hnu hne hnbl hqc hr hbn
    obtain ⟨r1, r2, -, -⟩ := own_cell hr4
    have HXT := Lib.hid hxt
    clear hxt
    cases mb
    case false => (go_wp2; exact bodyPost_ret (v := .tuple #[.agg #[.slice none 0 0], .bool false]) (by simp [results, Tryd.results58, go_sem, r1]) rfl ⟨⟨_, _, _, rfl⟩, hq4.setCell (show w.heap.size ≤ w.heap.size + 1 + 1 by omega) _⟩)
    obtain ⟨t, ht1, ht2, ht3⟩ := HXT.out rfl
    obtain ⟨xa, xc, rfl⟩ := ht1.slice
    go_wp2_with fail
    with_reducible refine (l21Sets_any ht1 hn1 hn5 (by omega) ht3).mono ?_
    rintro e w5 ⟨ya, yc, rfl, hb5⟩
    have hq5 := hq4.trans (hb5.mono hq4.size)
    have hr5 := hr4.below hb5 (Nat.le_refl _)
    obtain ⟨s1, s2, -, -⟩ := own_cell hr5
    go_wp2
    refine bodyPost_ret (v := .tuple #[.agg #[.slice ya n yc], .bool true]) (by simp [results, Tryd.results58, go_sem, s1]) rfl ?_
    first | exact ⟨⟨_, _, _, rfl⟩, hq5.setCell (show w.heap.size ≤ w.heap.size + 1 + 1 by omega) _⟩ | exact ⟨_, _, _, rfl, hq5.setCell (show w.heap.size ≤ w.heap.size + 1 + 1 by omega) _⟩
  case b94_3 =>
    go_simp
    obtain ⟨nb, hnb⟩ : ∃ nb, nb = wz.heap.size := ⟨_, rfl⟩
    rw [← hnb]
    have hbn : Below wz.heap.size wz (wz.alloc (.cells #[] 2)) := (Below.refl _ _).alloc (Nat.le_refl _) _
    have hem : Own (wz.alloc (.cells #[] 2)) w.heap.size 2 1 (.slice (some ⟨nb, 0, none⟩) 0 0) 0 [] := (by rw [hnb]; exact World.ownsRow_lit (base := w.heap.size) (e := 2) (size := 1) wz #[] 0 hqc.size (by unfold maxLen; omega) rfl)
    have hnbg : w.heap.size + 1 + 1 < nb := (by have := (own_cell hr).2.2.2; omega)
    have hnbl : nb < (wz.alloc (.cells #[] 2)).heap.size := (by rw [hnb]; simp)
    try have hne : ∀ b, nu.ownBlock = some b → b ≠ nb := (fun b hb => by have := (hnu.lt b hb).2; omega)
    try have hnu := hnu.below hbn (Nat.le_refl _)
    have hqc := hqc.trans (hbn.mono hqc.size)
    have hr := hr.below hbn (Nat.le_refl _)
    have c3 := (hbn.cell (cell_lt c3)).trans c3
    have c4 := (hbn.cell (cell_lt c4)).trans c4
    clear hnb
    first | generalize wz.alloc (.cells #[] 2) = wy at hbn hem hnbl hqc hr c3 c4 hnu ⊢ | generalize wz.alloc (.cells #[] 2) = wy at hbn hem hnbl hqc hr c3 c4 ⊢
    obtain ⟨wz, rfl⟩ : ∃ x, x = wy := ⟨_, rfl⟩
    try dsimp only
    refine hK.out _ _ ?h105 (fun hHeld => ?_)
    case h105 => first | exact ⟨‹_›, ‹_›⟩ | (simp [*, go_sem])
    clear hK K
    try simp only [Act.put, List.setIfInBounds_toArray, List.set_cons_zero, List.set_cons_succ]
    refine wpAnyH_ready (rs := [1]) (by kernel_rfl) (by simp) ?_
    refine AllReadyH.cons (by simp only [List.getElem?_toArray, List.getElem?_cons_succ, List.getElem?_cons_zero]; exact rfl) (fun K hK => ?_) AllReadyH.nil
    go_simp
    (with_reducible refine (HNL.out _ hqc).mono ?_)
    rintro e wy ⟨nu, rfl, hnu, hbn⟩
    have hqc := hqc.trans (hbn.mono hqc.size)
    have hr := hr.below hbn (Nat.le_refl _)
    have c3 := (hbn.cell (cell_lt c3)).trans c3
    have c4 := (hbn.cell (cell_lt c4)).trans c4
    try have hem := hem.below hbn (Nat.le_refl _)
    try have hne : ∀ b, nu.ownBlock = some b → b ≠ nb := (fun b hb => by have := (hnu.lt b hb).1; omega)
    obtain ⟨wz, rfl⟩ : ∃ x, x = wy := ⟨_, rfl⟩
    try dsimp only
    refine hK.out _ _ ?h107 (fun hHeld => ?_)
    case h107 => first | exact ⟨‹_›, ‹_›⟩ | (simp [*, go_sem])
    clear hK K
    try simp only [Act.put, List.setIfInBounds_toArray, List.set_cons_zero, List.set_cons_succ]
    refine wpAnyH_ready (rs := [4]) (by kernel_rfl) (by simp) ?_
    refine AllReadyH.cons (by simp only [List.getElem?_toArray, List.getElem?_cons_succ, List.getElem?_cons_zero]; exact rfl) (fun K hK => ?_) AllReadyH.nil
    go_simp
    have hns := Own.ints (xs := natsI (netsL g)) (k := .i64) hnu (by omega)
    with_reducible refine (HFI.out (fun b => b < w.heap.size ∨ nu.ownBlock = some b) nu w.heap.size [] _ _ (by simp [HGL.out]) (by simp) (hns.weak (fun b hb => Or.inr hb)) (((hvp.low3S).weak (fun b hb => Or.inl hb.2)).below hqc (Nat.le_refl _)) (by simpa [natsI] using hem) hqc.size (find_S hnu hqc.size (by omega) hne)).mono ?_
    rintro e w4 ⟨x, rfl, hxt, ho4, hk4⟩
    rw [HGL.out, ← HE.out] at hxt ⊢
    have hkn : ∀ b, b < wz.heap.size → b ≠ nb → w4.heap[b]? = wz.heap[b]? := (fun b hb hn => hk4.block b hb (fun e => hn (by have : nb = b := (by simpa [Value.ownBlock] using e); exact this.symm)))
    have hq4 : Below w.heap.size w w4 := hqc.trans ⟨hk4.os, hk4.tape, hk4.output, hk4.size, fun b hb => hkn b (by have := hqc.size; omega) (by omega)⟩
    have c3 := (World.cell?_of_block (a := ⟨w.heap.size, 0, none⟩) (hkn w.heap.size (cell_lt c3) (by omega))).trans c3
    have c4 := (World.cell?_of_block (a := ⟨w.heap.size + 1, 0, none⟩) (hkn (w.heap.size + 1) (cell_lt c4) (by omega))).trans c4
    have hr4 := own1_keep hr (hkn (w.heap.size + 1 + 1) (own_cell hr).2.2.2 (by omega))
    try dsimp only
    refine hK.out _ _ ?h109 (fun hHeld => ?_)
    case h109 => first | exact ⟨‹_›, ‹_›⟩ | (simp [*, go_sem])
    clear hK K
    try simp only [Act.put, List.setIfInBounds_toArray, List.set_cons_zero, List.set_cons_succ]
    refine wpAnyH_take (i := 5) (v := ?v110) (by simp only [List.getElem?_toArray, List.getElem?_cons_succ, List.getElem?_cons_zero]; exact rfl) (by kernel_rfl) (by kernel_rfl) (by kernel_rfl) (by intro _ _ _ h; exact h) (Or.inl ⟨by rfl, ?y110⟩) hHeld ?_
    case y110 => (intro w hSw; (try dsimp only at hSw); go_simp; try (with_reducible rfl))
    try simp only [Act.put, List.setIfInBounds_toArray, List.set_cons_zero, List.set_cons_succ]
    refine wpAnyH_take (i := 6) (v := ?v111) (by simp only [List.getElem?_toArray, List.getElem?_cons_succ, List.getElem?_cons_zero]; exact rfl) (by kernel_rfl) (by kernel_rfl) (by kernel_rfl) (by intro _ _ _ h; exact h) (Or.inl ⟨by rfl, ?y111⟩) hHeld ?_
    case y111 => (intro w hSw; (try dsimp only at hSw); go_simp; try (with_reducible rfl))
    try simp only [Act.put, List.setIfInBounds_toArray, List.set_cons_zero, List.set_cons_succ]
    refine wpAnyH_take (i := 7) (v := ?v112) (by simp only [List.getElem?_toArray, List.getElem?_cons_succ, List.getElem?_cons_zero]; exact rfl) (by kernel_rfl) (by kernel_rfl) (by kernel_rfl) (by intro _ _ _ h; exact h) (Or.inl ⟨by rfl, ?y112⟩) hHeld ?_
    case y112 => (intro w hSw; (try dsimp only at hSw); go_simp; try (with_reducible rfl))
    try simp only [Act.put, List.setIfInBounds_toArray, List.set_cons_zero, List.set_cons_succ]
    refine wpAnyH_take (i := 8) (v := ?v113) (by simp only [List.getElem?_toArray, List.getElem?_cons_succ, List.getElem?_cons_zero]; exact rfl) (by kernel_rfl) (by kernel_rfl) (by kernel_rfl) (by intro _ _ _ h; exact h) (Or.inl ⟨by rfl, ?y113⟩) hHeld ?_
    case y113 => (intro w hSw; (try dsimp only at hSw); go_simp; try (with_reducible rfl))
    try simp only [Act.put, List.setIfInBounds_toArray, List.set_cons_zero, List.set_cons_succ]
    refine wpAnyH_take (i := 9) (v := ?v114) (by simp only [List.getElem?_toArray, List.getElem?_cons_succ, List.getElem?_cons_zero]; exact rfl) (by kernel_rfl) (by kernel_rfl) (by kernel_rfl) (by intro _ _ _ h; exact h) (Or.inl ⟨by rfl, ?y114⟩) hHeld ?_
    case y114 => (intro w hSw; (try dsimp only at hSw); go_simp; try (with_reducible rfl))
    try simp only [Act.put, List.setIfInBounds_toArray, List.set_cons_zero, List.set_cons_succ]
    refine wpAnyH_done (by kernel_rfl) ?_ _
    clear hHeld hkn hk4 ho4 hem hns hnu hne hnbl hqc hr hbn
    obtain ⟨r1, r2, -, -⟩ := own_cell hr4
    have HXT := Lib.hid hxt
    clear hxt
    cases mb
    case false => (go_wp2; exact bodyPost_ret (v := .tuple #[.agg #[.slice none 0 0], .bool false]) (by simp [results, Tryd.results58, go_sem, r1]) rfl ⟨⟨_, _, _, rfl⟩, hq4.setCell (show w.heap.size ≤ w.heap.size + 1 + 1 by omega) _⟩)
    obtain ⟨t, ht1, ht2, ht3⟩ := HXT.out rfl
    obtain ⟨xa, xc, rfl⟩ := ht1.slice
    go_wp2_with fail
    with_reducible refine (l21Sets_any ht1 hn1 hn5 (by omega) ht3).mono ?_
    rintro e w5 ⟨ya, yc, rfl, hb5⟩
    have hq5 := hq4.trans (hb5.mono hq4.size)
    have hr5 := hr4.below hb5 (Nat.le_refl _)
    obtain ⟨s1, s2, -, -⟩ := own_cell hr5
    go_wp2
    refine bodyPost_ret (v := .tuple #[.agg #[.slice ya n yc], .bool true]) (by simp [results, Tryd.results58, go_sem, s1]) rfl ?_
    first | exact ⟨⟨_, _, _, rfl⟩, hq5.setCell (show w.heap.size ≤ w.heap.size + 1 + 1 by omega) _⟩ | exact ⟨_, _, _, rfl, hq5.setCell (show w.heap.size ≤ w.heap.size + 1 + 1 by omega) _⟩
set_option maxRecDepth 100000 in
set_option maxHeartbeats 8000000 in
theorem specFullMinor_any {S : Nat → Prop} {v : Value} {g : List (List Int)} {w : World} (hv : SlR S w v g) :
    Calls Tryd.prog 14 #[.agg #[v]] w fun e w' => e = .returned (.int .i64 (fullI g : Int)) ∧ Below w.heap.size w w' := by
  obtain ⟨va, vc, rfl⟩ := hv.slice
  have hb0 : Below w.heap.size w (w.alloc (.cells #[.slice va g.length vc] 27)) := (Below.refl _ _).alloc (Nat.le_refl _) _
  have hgo := specGraphOk_any _ _ _ (hv.below hb0 (Nat.le_refl _))
  have c0 : (w.alloc (.cells #[.slice va g.length vc] 27)).cell? ⟨w.heap.size, 0, none⟩ = some (.slice va g.length vc) := by simp [go_sem]
  by_cases hgb : gokB g = true
  case neg =>
    have HE := Lib.hid (show fullI g = 0 by rw [fullI, if_neg (fun h => hgb h.1)])
    rw [Bool.not_eq_true] at hgb
    rw [hgb] at hgo
    clear hgb
    rw [HE.out]
    go_enter Tryd.func14, Tryd.ntmps14
    go_wp2_with fail
    refine hgo.mono ?_
    rintro e w1 ⟨rfl, hb1⟩
    go_wp2
    go_ret
    exact ⟨rfl, hb0.trans (hb1.mono hb0.size)⟩
  have hg := gokB_iff.1 hgb
  rw [hgb] at hgo
  have HG := Lib.hid hg
  have hg1 := hg.lo
  have HV := Lib.hid hv
  -- the end
  have HEND : RowKit.Hid (∀ k : Nat, 1 ≤ k → k ≤ 6 → (∀ j, 1 ≤ j → j < k → minB g j = true) → (k ≤ 5 → minB g k = false) → fullI g = k - 1) := Lib.hid (by
    intro k hk1 hk6 hyes hno
    by_cases h8 : g.length ≤ 8
    · have hm : ∀ j, minB g j = extB (netsL g) (netsL g).length j [] := fun j => by rw [minB, decide_eq_true h8, Bool.true_and, netsL_len]
      have h1 : extB (netsL g) (netsL g).length 1 [] = true := extB_yes (hasK_one (by rw [netsL_len]; omega))
      have hk2 : 2 ≤ k := by
        apply Classical.byContradiction
        intro hc
        obtain rfl : k = 1 := by omega
        have := hno (by omega)
        rw [hm, h1] at this; cases this
      rw [fullI, if_pos ⟨hgb, h8⟩]
      refine full_at (by omega) (fun _ => by rw [← hm]; exact hyes _ (by omega) (by omega)) 5 (by omega) (fun j hj hj5 => ?_)
      have h2 := hno (by omega)
      rw [hm] at h2
      exact ext_down (a := k) (by omega) h2
    · have hm : ∀ j, minB g j = false := fun j => by rw [minB, decide_eq_false h8]; rfl
      have : k = 1 := by
        apply Classical.byContradiction
        intro hc
        have := hyes 1 (by omega) (by omega)
        rw [hm] at this; cases this
      rw [fullI, if_neg (fun h => h8 h.2), this])
  clear hgb hg hv
  go_enter Tryd.func14, Tryd.ntmps14
  go_wp2_with fail
  refine hgo.mono ?_
  rintro e w1 ⟨rfl, hb1⟩
  have c1 := (hb1.cell (cell_lt c0)).trans c0
  have hq1 := hb0.trans (hb1.mono hb0.size)
  clear hgo c0 hb0 hb1
  go_wp2
  go_loopw [4, 3] (fun nv bv wr => ∃ k : Nat, 1 ≤ k ∧ k ≤ 6 ∧ nv = .int .i64 k ∧ bv = .int .i64 ((k - 1 : Nat) : Int) ∧ RowKit.Hid (∀ j, 1 ≤ j → j < k → minB g j = true) ∧ wr.cell? ⟨w.heap.size, 0, none⟩ = some (.slice va g.length vc) ∧ Below w.heap.size w wr) (fun nv _ _ => 6 - (RowKit.intOf nv).toNat)
  case atStart => exact ⟨1, by omega, by omega, rfl, rfl, Lib.hid (fun j h1 h2 => by omega), c1, hq1⟩
  case round =>
    clear c1 hq1
    obtain ⟨k, hk1, hk6, rfl, rfl, HK, hc, hq⟩ := hrel
    by_cases hk5 : k ≤ 5
    case neg =>
      obtain rfl : k = 6 := by omega
      have HE := Lib.hid (HEND.out 6 (by omega) (by omega) HK.out (fun h => by omega))
      go_wp2
      go_ret
      exact ⟨ret_int (by rw [HE.out]), hq⟩
    have HEK := Lib.hid (HEND.out k hk1 hk6 HK.out)
    have hm5 : decide ((k : Int) ≤ 5) = true := decide_eq_true (by omega)
    obtain ⟨b, HB⟩ : ∃ b : Nat, RowKit.Hid (k - 1 = b) := ⟨_, Lib.hid rfl⟩
    rw [HB.out] at HEK ⊢
    obtain ⟨wi, rfl⟩ : ∃ wx : World, wx = wr := ⟨_, rfl⟩
    have hkL : k ≤ 16 := by omega
    go_wp2
    refine wp_region_held_drew (S := (fun w' => w'.cell? ⟨w.heap.size, 0, none⟩ = some (.slice va g.length vc))) (by kernel_rfl) ?_ (fun hHeld => ?_)
    · first | exact ‹_› | exact (World.cell?_of_block (a := ⟨w.heap.size, 0, none⟩) (Below.heap_setCell _ _ _ _ (Nat.ne_of_lt hxb1))).trans p1 | (simp [*, go_sem])
    have hdw : Drawn wi wi.drew := (Drawn.refl _).drew
    generalize wi.drew = wz at hdw hHeld ⊢
    have hqd := hq.trans (hdw.below _)
    have p1 := hHeld
    clear hdw
    refine wpAnyH_take (i := 0) (v := ?v115) (by simp only [List.getElem?_toArray, List.getElem?_cons_zero]; exact rfl) (by kernel_rfl) (by kernel_rfl) (by kernel_rfl) (by intro _ _ _ h; exact h) (Or.inl ⟨by rfl, ?y115⟩) hHeld ?_
    case y115 => (intro w hSw; (try dsimp only at hSw); go_simp; try (with_reducible rfl))
    try simp only [Act.put, List.setIfInBounds_toArray, List.set_cons_zero, List.set_cons_succ]
    refine wpAnyH_take (i := 1) (v := ?v116) (by simp only [List.getElem?_toArray, List.getElem?_cons_succ, List.getElem?_cons_zero]; exact rfl) (by kernel_rfl) (by kernel_rfl) (by kernel_rfl) (by intro _ _ _ h; exact h) (Or.inl ⟨by rfl, ?y116⟩) hHeld ?_
    case y116 => (intro w hSw; (try dsimp only at hSw); go_simp; try (with_reducible rfl))
    try simp only [Act.put, List.setIfInBounds_toArray, List.set_cons_zero, List.set_cons_succ]
    refine wpAnyH_ready (rs := [2, 7]) (by kernel_rfl) (by simp) ?_
    refine (AllReadyH.cons (by simp only [List.getElem?_toArray, List.getElem?_cons_succ, List.getElem?_cons_zero]; exact rfl) (fun K hK => ?b117_2) (AllReadyH.cons (by simp only [List.getElem?_toArray, List.getElem?_cons_succ, List.getElem?_cons_zero]; exact rfl) (fun K hK => ?b117_7) AllReadyH.nil))
    case b117_2 =>
      go_simp
      with_reducible refine (l21Full_any hkL).mono ?_
      rintro e wy ⟨u, rfl, hu, hbn⟩
      have hqd := hqd.trans (hbn.mono hqd.size)
      have p1 := (hbn.cell (cell_lt p1)).trans p1
      try have hbx := hbx.below hbn (Nat.le_refl _)
      obtain ⟨wz, rfl⟩ : ∃ x, x = wy := ⟨_, rfl⟩
      try dsimp only
      refine hK.out _ _ ?h118 (fun hHeld => ?_)
      case h118 => first | exact ‹_› | exact (World.cell?_of_block (a := ⟨w.heap.size, 0, none⟩) (Below.heap_setCell _ _ _ _ (Nat.ne_of_lt hxb1))).trans p1 | (simp [*, go_sem])
      clear hK K
      try simp only [Act.put, List.setIfInBounds_toArray, List.set_cons_zero, List.set_cons_succ]
      refine wpAnyH_ready (rs := [3, 7]) (by kernel_rfl) (by simp) ?_
      refine (AllReadyH.cons (by simp only [List.getElem?_toArray, List.getElem?_cons_succ, List.getElem?_cons_zero]; exact rfl) (fun K hK => ?b119_3) (AllReadyH.cons (by simp only [List.getElem?_toArray, List.getElem?_cons_succ, List.getElem?_cons_zero]; exact rfl) (fun K hK => ?b119_7) AllReadyH.nil))
      case b119_3 =>
        go_simp
        with_reducible refine (specMinorIn_any HG.out hk1 hk5 (HV.out.below hqd (Nat.le_refl _)) (hu.rows (gok_small (full_gok hk1 hkL)))).mono ?_
        rintro e wy ⟨xa, xm, xc, rfl, hbn⟩
        have hqd := hqd.trans (hbn.mono hqd.size)
        have p1 := (hbn.cell (cell_lt p1)).trans p1
        try have hbx := hbx.below hbn (Nat.le_refl _)
        try have x2 := (own_cell hbx).2.1
        try have x1 := (own_cell hbx).1
        obtain ⟨wz, rfl⟩ : ∃ x, x = wy := ⟨_, rfl⟩
        try dsimp only
        refine hK.out _ _ ?h120 (fun hHeld => ?_)
        case h120 => first | exact ‹_› | exact (World.cell?_of_block (a := ⟨w.heap.size, 0, none⟩) (Below.heap_setCell _ _ _ _ (Nat.ne_of_lt hxb1))).trans p1 | (simp [*, go_sem])
        clear hK K
        try simp only [Act.put, List.setIfInBounds_toArray, List.set_cons_zero, List.set_cons_succ]
        refine wpAnyH_take (i := 4) (v := ?v121) (by simp only [List.getElem?_toArray, List.getElem?_cons_succ, List.getElem?_cons_zero]; exact rfl) (by kernel_rfl) (by kernel_rfl) (by kernel_rfl) (by intro _ _ _ h; exact h) (Or.inl ⟨by rfl, ?y121⟩) hHeld ?_
        case y121 => (intro w hSw; (try dsimp only at hSw); go_simp; try (with_reducible rfl))
        try simp only [Act.put, List.setIfInBounds_toArray, List.set_cons_zero, List.set_cons_succ]
        refine wpAnyH_take (i := 5) (v := ?v122) (by simp only [List.getElem?_toArray, List.getElem?_cons_succ, List.getElem?_cons_zero]; exact rfl) (by kernel_rfl) (by kernel_rfl) (by kernel_rfl) (by intro _ _ _ h; exact h) (Or.inl ⟨by rfl, ?y122⟩) hHeld ?_
        case y122 => (intro w hSw; (try dsimp only at hSw); go_simp; try (with_reducible rfl))
        try simp only [Act.put, List.setIfInBounds_toArray, List.set_cons_zero, List.set_cons_succ]
        refine wpAnyH_take (i := 6) (v := ?v123) (by simp only [List.getElem?_toArray, List.getElem?_cons_succ, List.getElem?_cons_zero]; exact rfl) (by kernel_rfl) (by kernel_rfl) (by kernel_rfl) (by intro _ _ _ h; exact h) (Or.inl ⟨by rfl, ?y123⟩) hHeld ?_
        case y123 => (intro w hSw; (try dsimp only at hSw); go_simp; try (with_reducible rfl))
        try simp only [Act.put, List.setIfInBounds_toArray, List.set_cons_zero, List.set_cons_succ]
        refine wpAnyH_ready (rs := [7]) (by kernel_rfl) (by simp) ?_
        refine AllReadyH.cons (by simp only [List.getElem?_toArray, List.getElem?_cons_succ, List.getElem?_cons_zero]; exact rfl) (fun K hK => ?_) AllReadyH.nil
        go_simp
        obtain ⟨xb, hxb⟩ : ∃ xb, xb = wz.heap.size := ⟨_, rfl⟩
        rw [← hxb]
        have hbn : Below wz.heap.size wz (wz.alloc (.cells #[.slice none 0 0] 67)) := (Below.refl _ _).alloc (Nat.le_refl _) _
        have hbx : Own (wz.alloc (.cells #[.slice none 0 0] 67)) (w.heap.size + 1) 67 1 (.slice (some ⟨xb, 0, none⟩) 1 1) 1 [.slice none 0 0] := (by rw [hxb]; exact own_new _ _ _ _ (cell_lt p1))
        try have hu := hu.below hbn (Nat.le_refl _)
        have hqd := hqd.trans (hbn.mono hqd.size)
        have p1 := (hbn.cell (cell_lt p1)).trans p1
        have x2 := (own_cell hbx).2.1
        have x1 := (own_cell hbx).1
        have hxb1 : w.heap.size < xb := (own_cell hbx).2.2.1
        clear hxb
        first | generalize wz.alloc (.cells #[.slice none 0 0] 67) = wy at hbn hbx hqd p1 x2 x1 hu ⊢ | generalize wz.alloc (.cells #[.slice none 0 0] 67) = wy at hbn hbx hqd p1 x2 x1 ⊢
        obtain ⟨wz, rfl⟩ : ∃ x, x = wy := ⟨_, rfl⟩
        try dsimp only
        refine hK.out _ _ ?h125 (fun hHeld => ?_)
        case h125 => first | exact ‹_› | exact (World.cell?_of_block (a := ⟨w.heap.size, 0, none⟩) (Below.heap_setCell _ _ _ _ (Nat.ne_of_lt hxb1))).trans p1 | (simp [*, go_sem])
        clear hK K
        try simp only [Act.put, List.setIfInBounds_toArray, List.set_cons_zero, List.set_cons_succ]
        refine wpAnyH_ready (rs := [8]) (by kernel_rfl) (by simp) ?_
        refine AllReadyH.cons (by simp only [List.getElem?_toArray, List.getElem?_cons_succ, List.getElem?_cons_zero]; exact rfl) (fun K hK => ?_) AllReadyH.nil
        go_simp
        skip
        try dsimp only
        refine hK.out _ _ ?h127 (fun hHeld => ?_)
        case h127 => first | exact ‹_› | exact (World.cell?_of_block (a := ⟨w.heap.size, 0, none⟩) (Below.heap_setCell _ _ _ _ (Nat.ne_of_lt hxb1))).trans p1 | (simp [*, go_sem])
        clear hK K
        try simp only [Act.put, List.setIfInBounds_toArray, List.set_cons_zero, List.set_cons_succ]
        refine wpAnyH_take (i := 9) (v := ?v128) (by simp only [List.getElem?_toArray, List.getElem?_cons_succ, List.getElem?_cons_zero]; exact rfl) (by kernel_rfl) (by kernel_rfl) (by kernel_rfl) (by intro _ _ _ h; exact h) (Or.inl ⟨by rfl, ?y128⟩) hHeld ?_
        case y128 => (intro w hSw; (try dsimp only at hSw); go_simp; try (with_reducible rfl))
        try simp only [Act.put, List.setIfInBounds_toArray, List.set_cons_zero, List.set_cons_succ]
        refine wpAnyH_done (by kernel_rfl) ?_ _
        have hqz := hqd.setCell (p := ⟨xb, 0, none⟩) (Nat.le_of_lt hxb1) (.slice xa xm xc)
        have pz : (wz.setCell ⟨xb, 0, none⟩ (.slice xa xm xc)).cell? ⟨w.heap.size, 0, none⟩ = some (.slice va g.length vc) := (World.cell?_of_block (a := ⟨w.heap.size, 0, none⟩) (Below.heap_setCell _ _ _ _ (Nat.ne_of_lt hxb1))).trans p1
        have HKN : RowKit.Hid (minB g k = true → ∀ j, 1 ≤ j → j < k + 1 → minB g j = true) := (Lib.hid (fun h j h1 h2 => (Nat.lt_or_eq_of_le (Nat.le_of_lt_succ h2)).elim (fun h3 => HK.out j h1 h3) (fun h3 => by rw [h3]; exact h)))
        clear hHeld p1 x1 x2 hbx hbn hqd hu
        generalize wz.setCell ⟨xb, 0, none⟩ (.slice xa xm xc) = wy at hqz pz ⊢
        generalize minB g k = mb at *
        cases mb
        case false => (have HE := Lib.hid (HEK.out (fun _ => rfl)); go_wp2; go_ret; exact ⟨ret_int (by rw [HE.out]), hqz⟩)
        have HT := Lib.hid (HKN.out rfl)
        have HB2 := Lib.hid (show (k + 1 - 1 : Nat) = k by omega)
        clear HKN HEK
        go_wp2
        go_roundw
        case rel => exact ⟨k + 1, by omega, by omega, by go_num, by rw [HB2.out], HT, pz, hqz⟩
        case measure => (simp [RowKit.intOf]; omega)
      case b119_7 =>
        go_simp
        obtain ⟨xb, hxb⟩ : ∃ xb, xb = wz.heap.size := ⟨_, rfl⟩
        rw [← hxb]
        have hbn : Below wz.heap.size wz (wz.alloc (.cells #[.slice none 0 0] 67)) := (Below.refl _ _).alloc (Nat.le_refl _) _
        have hbx : Own (wz.alloc (.cells #[.slice none 0 0] 67)) (w.heap.size + 1) 67 1 (.slice (some ⟨xb, 0, none⟩) 1 1) 1 [.slice none 0 0] := (by rw [hxb]; exact own_new _ _ _ _ (cell_lt p1))
        try have hu := hu.below hbn (Nat.le_refl _)
        have hqd := hqd.trans (hbn.mono hqd.size)
        have p1 := (hbn.cell (cell_lt p1)).trans p1
        have x2 := (own_cell hbx).2.1
        have x1 := (own_cell hbx).1
        have hxb1 : w.heap.size < xb := (own_cell hbx).2.2.1
        clear hxb
        first | generalize wz.alloc (.cells #[.slice none 0 0] 67) = wy at hbn hbx hqd p1 x2 x1 hu ⊢ | generalize wz.alloc (.cells #[.slice none 0 0] 67) = wy at hbn hbx hqd p1 x2 x1 ⊢
        obtain ⟨wz, rfl⟩ : ∃ x, x = wy := ⟨_, rfl⟩
        try dsimp only
        refine hK.out _ _ ?h129 (fun hHeld => ?_)
        case h129 => first | exact ‹_› | exact (World.cell?_of_block (a := ⟨w.heap.size, 0, none⟩) (Below.heap_setCell _ _ _ _ (Nat.ne_of_lt hxb1))).trans p1 | (simp [*, go_sem])
        clear hK K
        try simp only [Act.put, List.setIfInBounds_toArray, List.set_cons_zero, List.set_cons_succ]
        refine wpAnyH_ready (rs := [3]) (by kernel_rfl) (by simp) ?_
        refine AllReadyH.cons (by simp only [List.getElem?_toArray, List.getElem?_cons_succ, List.getElem?_cons_zero]; exact rfl) (fun K hK => ?_) AllReadyH.nil
        go_simp
        with_reducible refine (specMinorIn_any HG.out hk1 hk5 (HV.out.below hqd (Nat.le_refl _)) (hu.rows (gok_small (full_gok hk1 hkL)))).mono ?_
        rintro e wy ⟨xa, xm, xc, rfl, hbn⟩
        have hqd := hqd.trans (hbn.mono hqd.size)
        have p1 := (hbn.cell (cell_lt p1)).trans p1
        try have hbx := hbx.below hbn (Nat.le_refl _)
        try have x2 := (own_cell hbx).2.1
        try have x1 := (own_cell hbx).1
        obtain ⟨wz, rfl⟩ : ∃ x, x = wy := ⟨_, rfl⟩
        try dsimp only
        refine hK.out _ _ ?h131 (fun hHeld => ?_)
        case h131 => first | exact ‹_› | exact (World.cell?_of_block (a := ⟨w.heap.size, 0, none⟩) (Below.heap_setCell _ _ _ _ (Nat.ne_of_lt hxb1))).trans p1 | (simp [*, go_sem])
        clear hK K
        try simp only [Act.put, List.setIfInBounds_toArray, List.set_cons_zero, List.set_cons_succ]
        refine wpAnyH_take (i := 4) (v := ?v132) (by simp only [List.getElem?_toArray, List.getElem?_cons_succ, List.getElem?_cons_zero]; exact rfl) (by kernel_rfl) (by kernel_rfl) (by kernel_rfl) (by intro _ _ _ h; exact h) (Or.inl ⟨by rfl, ?y132⟩) hHeld ?_
        case y132 => (intro w hSw; (try dsimp only at hSw); go_simp; try (with_reducible rfl))
        try simp only [Act.put, List.setIfInBounds_toArray, List.set_cons_zero, List.set_cons_succ]
        refine wpAnyH_take (i := 5) (v := ?v133) (by simp only [List.getElem?_toArray, List.getElem?_cons_succ, List.getElem?_cons_zero]; exact rfl) (by kernel_rfl) (by kernel_rfl) (by kernel_rfl) (by intro _ _ _ h; exact h) (Or.inl ⟨by rfl, ?y133⟩) hHeld ?_
        case y133 => (intro w hSw; (try dsimp only at hSw); go_simp; try (with_reducible rfl))
        try simp only [Act.put, List.setIfInBounds_toArray, List.set_cons_zero, List.set_cons_succ]
        refine wpAnyH_take (i := 6) (v := ?v134) (by simp only [List.getElem?_toArray, List.getElem?_cons_succ, List.getElem?_cons_zero]; exact rfl) (by kernel_rfl) (by kernel_rfl) (by kernel_rfl) (by intro _ _ _ h; exact h) (Or.inl ⟨by rfl, ?y134⟩) hHeld ?_
        case y134 => (intro w hSw; (try dsimp only at hSw); go_simp; try (with_reducible rfl))
        try simp only [Act.put, List.setIfInBounds_toArray, List.set_cons_zero, List.set_cons_succ]
        refine wpAnyH_ready (rs := [8]) (by kernel_rfl) (by simp) ?_
        refine AllReadyH.cons (by simp only [List.getElem?_toArray, List.getElem?_cons_succ, List.getElem?_cons_zero]; exact rfl) (fun K hK => ?_) AllReadyH.nil
        go_simp
        skip
        try dsimp only
        refine hK.out _ _ ?h136 (fun hHeld => ?_)
        case h136 => first | exact ‹_› | exact (World.cell?_of_block (a := ⟨w.heap.size, 0, none⟩) (Below.heap_setCell _ _ _ _ (Nat.ne_of_lt hxb1))).trans p1 | (simp [*, go_sem])
        clear hK K
        try simp only [Act.put, List.setIfInBounds_toArray, List.set_cons_zero, List.set_cons_succ]
        refine wpAnyH_take (i := 9) (v := ?v137) (by simp only [List.getElem?_toArray, List.getElem?_cons_succ, List.getElem?_cons_zero]; exact rfl) (by kernel_rfl) (by kernel_rfl) (by kernel_rfl) (by intro _ _ _ h; exact h) (Or.inl ⟨by rfl, ?y137⟩) hHeld ?_
        case y137 => (intro w hSw; (try dsimp only at hSw); go_simp; try (with_reducible rfl))
        try simp only [Act.put, List.setIfInBounds_toArray, List.set_cons_zero, List.set_cons_succ]
        refine wpAnyH_done (by kernel_rfl) ?_ _
        have hqz := hqd.setCell (p := ⟨xb, 0, none⟩) (Nat.le_of_lt hxb1) (.slice xa xm xc)
        have pz : (wz.setCell ⟨xb, 0, none⟩ (.slice xa xm xc)).cell? ⟨w.heap.size, 0, none⟩ = some (.slice va g.length vc) := (World.cell?_of_block (a := ⟨w.heap.size, 0, none⟩) (Below.heap_setCell _ _ _ _ (Nat.ne_of_lt hxb1))).trans p1
        have HKN : RowKit.Hid (minB g k = true → ∀ j, 1 ≤ j → j < k + 1 → minB g j = true) := (Lib.hid (fun h j h1 h2 => (Nat.lt_or_eq_of_le (Nat.le_of_lt_succ h2)).elim (fun h3 => HK.out j h1 h3) (fun h3 => by rw [h3]; exact h)))
        clear hHeld p1 x1 x2 hbx hbn hqd hu
        generalize wz.setCell ⟨xb, 0, none⟩ (.slice xa xm xc) = wy at hqz pz ⊢
        generalize minB g k = mb at *
        cases mb
        case false => (have HE := Lib.hid (HEK.out (fun _ => rfl)); go_wp2; go_ret; exact ⟨ret_int (by rw [HE.out]), hqz⟩)
        have HT := Lib.hid (HKN.out rfl)
        have HB2 := Lib.hid (show (k + 1 - 1 : Nat) = k by omega)
        clear HKN HEK
        go_wp2
        go_roundw
        case rel => exact ⟨k + 1, by omega, by omega, by go_num, by rw [HB2.out], HT, pz, hqz⟩
        case measure => (simp [RowKit.intOf]; omega)
    case b117_7 =>
      go_simp
      obtain ⟨xb, hxb⟩ : ∃ xb, xb = wz.heap.size := ⟨_, rfl⟩
      rw [← hxb]
      have hbn : Below wz.heap.size wz (wz.alloc (.cells #[.slice none 0 0] 67)) := (Below.refl _ _).alloc (Nat.le_refl _) _
      have hbx : Own (wz.alloc (.cells #[.slice none 0 0] 67)) (w.heap.size + 1) 67 1 (.slice (some ⟨xb, 0, none⟩) 1 1) 1 [.slice none 0 0] := (by rw [hxb]; exact own_new _ _ _ _ (cell_lt p1))
      try have hu := hu.below hbn (Nat.le_refl _)
      have hqd := hqd.trans (hbn.mono hqd.size)
      have p1 := (hbn.cell (cell_lt p1)).trans p1
      have x2 := (own_cell hbx).2.1
      have x1 := (own_cell hbx).1
      have hxb1 : w.heap.size < xb := (own_cell hbx).2.2.1
      clear hxb
      first | generalize wz.alloc (.cells #[.slice none 0 0] 67) = wy at hbn hbx hqd p1 x2 x1 hu ⊢ | generalize wz.alloc (.cells #[.slice none 0 0] 67) = wy at hbn hbx hqd p1 x2 x1 ⊢
      obtain ⟨wz, rfl⟩ : ∃ x, x = wy := ⟨_, rfl⟩
      try dsimp only
      refine hK.out _ _ ?h138 (fun hHeld => ?_)
      case h138 => first | exact ‹_› | exact (World.cell?_of_block (a := ⟨w.heap.size, 0, none⟩) (Below.heap_setCell _ _ _ _ (Nat.ne_of_lt hxb1))).trans p1 | (simp [*, go_sem])
      clear hK K
      try simp only [Act.put, List.setIfInBounds_toArray, List.set_cons_zero, List.set_cons_succ]
      refine wpAnyH_ready (rs := [2]) (by kernel_rfl) (by simp) ?_
      refine AllReadyH.cons (by simp only [List.getElem?_toArray, List.getElem?_cons_succ, List.getElem?_cons_zero]; exact rfl) (fun K hK => ?_) AllReadyH.nil
      go_simp
      with_reducible refine (l21Full_any hkL).mono ?_
      rintro e wy ⟨u, rfl, hu, hbn⟩
      have hqd := hqd.trans (hbn.mono hqd.size)
      have p1 := (hbn.cell (cell_lt p1)).trans p1
      try have hbx := hbx.below hbn (Nat.le_refl _)
      obtain ⟨wz, rfl⟩ : ∃ x, x = wy := ⟨_, rfl⟩
      try dsimp only
      refine hK.out _ _ ?h140 (fun hHeld => ?_)
      case h140 => first | exact ‹_› | exact (World.cell?_of_block (a := ⟨w.heap.size, 0, none⟩) (Below.heap_setCell _ _ _ _ (Nat.ne_of_lt hxb1))).trans p1 | (simp [*, go_sem])
      clear hK K
      try simp only [Act.put, List.setIfInBounds_toArray, List.set_cons_zero, List.set_cons_succ]
      refine wpAnyH_ready (rs := [3]) (by kernel_rfl) (by simp) ?_
      refine AllReadyH.cons (by simp only [List.getElem?_toArray, List.getElem?_cons_succ, List.getElem?_cons_zero]; exact rfl) (fun K hK => ?_) AllReadyH.nil
      go_simp
      with_reducible refine (specMinorIn_any HG.out hk1 hk5 (HV.out.below hqd (Nat.le_refl _)) (hu.rows (gok_small (full_gok hk1 hkL)))).mono ?_
      rintro e wy ⟨xa, xm, xc, rfl, hbn⟩
      have hqd := hqd.trans (hbn.mono hqd.size)
      have p1 := (hbn.cell (cell_lt p1)).trans p1
      try have hbx := hbx.below hbn (Nat.le_refl _)
      try have x2 := (own_cell hbx).2.1
      try have x1 := (own_cell hbx).1
      obtain ⟨wz, rfl⟩ : ∃ x, x = wy := ⟨_, rfl⟩
      try dsimp only
      refine hK.out _ _ ?h142 (fun hHeld => ?_)
      case h142 => first | exact ‹_› | exact (World.cell?_of_block (a := ⟨w.heap.size, 0, none⟩) (Below.heap_setCell _ _ _ _ (Nat.ne_of_lt hxb1))).trans p1 | (simp [*, go_sem])
      clear hK K
      try simp only [Act.put, List.setIfInBounds_toArray, List.set_cons_zero, List.set_cons_succ]
      refine wpAnyH_take (i := 4) (v := ?v143) (by simp only [List.getElem?_toArray, List.getElem?_cons_succ, List.getElem?_cons_zero]; exact rfl) (by kernel_rfl) (by kernel_rfl) (by kernel_rfl) (by intro _ _ _ h; exact h) (Or.inl ⟨by rfl, ?y143⟩) hHeld ?_
      case y143 => (intro w hSw; (try dsimp only at hSw); go_simp; try (with_reducible rfl))
      try simp only [Act.put, List.setIfInBounds_toArray, List.set_cons_zero, List.set_cons_succ]
      refine wpAnyH_take (i := 5) (v := ?v144) (by simp only [List.getElem?_toArray, List.getElem?_cons_succ, List.getElem?_cons_zero]; exact rfl) (by kernel_rfl) (by kernel_rfl) (by kernel_rfl) (by intro _ _ _ h; exact h) (Or.inl ⟨by rfl, ?y144⟩) hHeld ?_
      case y144 => (intro w hSw; (try dsimp only at hSw); go_simp; try (with_reducible rfl))
      try simp only [Act.put, List.setIfInBounds_toArray, List.set_cons_zero, List.set_cons_succ]
      refine wpAnyH_take (i := 6) (v := ?v145) (by simp only [List.getElem?_toArray, List.getElem?_cons_succ, List.getElem?_cons_zero]; exact rfl) (by kernel_rfl) (by kernel_rfl) (by kernel_rfl) (by intro _ _ _ h; exact h) (Or.inl ⟨by rfl, ?y145⟩) hHeld ?_
      case y145 => (intro w hSw; (try dsimp only at hSw); go_simp; try (with_reducible rfl))
      try simp only [Act.put, List.setIfInBounds_toArray, List.set_cons_zero, List.set_cons_succ]
      refine wpAnyH_ready (rs := [8]) (by kernel_rfl) (by simp) ?_
      refine AllReadyH.cons (by simp only [List.getElem?_toArray, List.getElem?_cons_succ, List.getElem?_cons_zero]; exact rfl) (fun K hK => ?_) AllReadyH.nil
      go_simp
      skip
      try dsimp only
      refine hK.out _ _ ?h147 (fun hHeld => ?_)
      case h147 => first | exact ‹_› | exact (World.cell?_of_block (a := ⟨w.heap.size, 0, none⟩) (Below.heap_setCell _ _ _ _ (Nat.ne_of_lt hxb1))).trans p1 | (simp [*, go_sem])
      clear hK K
      try simp only [Act.put, List.setIfInBounds_toArray, List.set_cons_zero, List.set_cons_succ]
      refine wpAnyH_take (i := 9) (v := ?v148) (by simp only [List.getElem?_toArray, List.getElem?_cons_succ, List.getElem?_cons_zero]; exact rfl) (by kernel_rfl) (by kernel_rfl) (by kernel_rfl) (by intro _ _ _ h; exact h) (Or.inl ⟨by rfl, ?y148⟩) hHeld ?_
      case y148 => (intro w hSw; (try dsimp only at hSw); go_simp; try (with_reducible rfl))
      try simp only [Act.put, List.setIfInBounds_toArray, List.set_cons_zero, List.set_cons_succ]
      refine wpAnyH_done (by kernel_rfl) ?_ _
      have hqz := hqd.setCell (p := ⟨xb, 0, none⟩) (Nat.le_of_lt hxb1) (.slice xa xm xc)
      have pz : (wz.setCell ⟨xb, 0, none⟩ (.slice xa xm xc)).cell? ⟨w.heap.size, 0, none⟩ = some (.slice va g.length vc) := (World.cell?_of_block (a := ⟨w.heap.size, 0, none⟩) (Below.heap_setCell _ _ _ _ (Nat.ne_of_lt hxb1))).trans p1
      have HKN : RowKit.Hid (minB g k = true → ∀ j, 1 ≤ j → j < k + 1 → minB g j = true) := (Lib.hid (fun h j h1 h2 => (Nat.lt_or_eq_of_le (Nat.le_of_lt_succ h2)).elim (fun h3 => HK.out j h1 h3) (fun h3 => by rw [h3]; exact h)))
      clear hHeld p1 x1 x2 hbx hbn hqd hu
      generalize wz.setCell ⟨xb, 0, none⟩ (.slice xa xm xc) = wy at hqz pz ⊢
      generalize minB g k = mb at *
      cases mb
      case false => (have HE := Lib.hid (HEK.out (fun _ => rfl)); go_wp2; go_ret; exact ⟨ret_int (by rw [HE.out]), hqz⟩)
      have HT := Lib.hid (HKN.out rfl)
      have HB2 := Lib.hid (show (k + 1 - 1 : Nat) = k by omega)
      clear HKN HEK
      go_wp2
      go_roundw
      case rel => exact ⟨k + 1, by omega, by omega, by go_num, by rw [HB2.out], HT, pz, hqz⟩
      case measure => (simp [RowKit.intOf]; omega)
set_option maxHeartbeats 8000000 in
theorem lawFullMinor_any {S0 : Nat → Prop} (v0 : Value) (g0 : List (List Int)) (w : World) (ht : Tab w) (hv0 : SlR S0 w v0 g0) :
    Calls Tryd.prog 3 #[.agg #[v0]] w fun e w' => e = .returned (.bool true) ∧ Below w.heap.size w w' := by
  obtain ⟨a0, c0, rfl⟩ := hv0.slice
  have q0 : Below w.heap.size w (w.alloc (.cells #[.slice a0 g0.length c0] 24)) := (Below.refl _ _).alloc (Nat.le_refl _) _
  go_enter Tryd.func3, Tryd.ntmps3
  go_wp2_with fail
  refine (szGraph_any _ _ _ _ (hv0.below q0 (Nat.le_refl _)) (by omega) (by omega)).mono ?_
  rintro e w1 ⟨r1, rfl, hr1, hs1, hm1, hb1⟩
  have q1 := q0.trans (hb1.mono q0.size)
  have b0_1 : w1.cell? ⟨w.heap.size, 0, none⟩ = some (.slice a0 g0.length c0) := (hb1.cell (p := ⟨w.heap.size, 0, none⟩) (by simp <;> omega)).trans (by simp [go_sem])
  by_cases hneg1 : r1 < 0
  case pos =>
    go_wp2
    go_ret
    exact ⟨rfl, q1⟩
  have hsm0 : SmallR g0 1048576 := hm1 (by omega)
  go_wp2_with fail
  refine (toGraph_any _ _ _ (hv0.below q1 (Nat.le_refl _)) hsm0).mono ?_
  rintro e w2 ⟨x2, rfl, hy2, hb2⟩
  have q2 := q1.trans (hb2.mono q1.size)
  have b0_2 : w2.cell? ⟨w.heap.size, 0, none⟩ = some (.slice a0 g0.length c0) := (hb2.cell (p := ⟨w.heap.size, 0, none⟩) (cell_lt b0_1)).trans b0_1
  have y2_2 := hy2
  go_wp2_with fail
  refine (specFullMinor_any y2_2).mono ?_
  rintro e w3 ⟨rfl, hb3⟩
  have q3 := q2.trans (hb3.mono q2.size)
  have b0_3 : w3.cell? ⟨w.heap.size, 0, none⟩ = some (.slice a0 g0.length c0) := (hb3.cell (p := ⟨w.heap.size, 0, none⟩) (cell_lt b0_2)).trans b0_2
  have y2_3 := y2_2.below hb3 (Nat.le_refl _)
  go_wp2_with fail
  refine (toGraph_any _ _ _ (hv0.below q3 (Nat.le_refl _)) hsm0).mono ?_
  rintro e w4 ⟨x4, rfl, hy4, hb4⟩
  have q4 := q3.trans (hb4.mono q3.size)
  have b0_4 : w4.cell? ⟨w.heap.size, 0, none⟩ = some (.slice a0 g0.length c0) := (hb4.cell (p := ⟨w.heap.size, 0, none⟩) (cell_lt b0_3)).trans b0_3
  have y2_4 := y2_3.below hb4 (Nat.le_refl _)
  have y4_4 := hy4
  obtain ⟨xa5, xc5, rfl⟩ := y4_4.slice
  have hb5 : Below w4.heap.size w4 (w4.alloc (.cells #[.slice xa5 g0.length xc5] 27)) := (Below.refl _ _).alloc (Nat.le_refl _) _
  have q5 := q4.trans (hb5.mono q4.size)
  have b0_5 := (hb5.cell (p := ⟨w.heap.size, 0, none⟩) (cell_lt b0_4)).trans b0_4
  have y2_5 := y2_4.below hb5 (Nat.le_refl _)
  have y4_5 := y4_4.below hb5 (Nat.le_refl _)
  go_wp2_with fail
  refine (implFullMinor_any (ht.below q5 (Nat.le_refl _)) y4_5).mono ?_
  rintro e w6 ⟨rfl, hb6⟩
  have q6 := q5.trans (hb6.mono q5.size)
  have b0_6 : w6.cell? ⟨w.heap.size, 0, none⟩ = some (.slice a0 g0.length c0) := (hb6.cell (p := ⟨w.heap.size, 0, none⟩) (by have := cell_lt b0_5; simp at this ⊢; omega)).trans b0_5
  have l5_6 : w6.cell? ⟨w4.heap.size, 0, none⟩ = some (.slice xa5 g0.length xc5) := (hb6.cell (p := ⟨w4.heap.size, 0, none⟩) (by simp)).trans (by simp [go_sem])
  have y2_6 := y2_5.below hb6 (Nat.le_refl _)
  have y4_6 := y4_5.below hb6 (Nat.le_refl _)
  go_wp2
  have _tt : True := trivial
  refine wp_region_held_drew (S := (fun w' => w'.cell? ⟨w.heap.size, 0, none⟩ = some (.slice a0 g0.length c0) ∧ w'.cell? ⟨w4.heap.size, 0, none⟩ = some (.slice xa5 g0.length xc5))) (by kernel_rfl) ?_ (fun hHeld => ?_)
  · first | exact ⟨‹_›, ‹_›⟩ | assumption | (simp [*, go_sem])
  refine wpAnyH_take (i := 0) (v := ?v149) (by simp only [List.getElem?_toArray, List.getElem?_cons_zero]; exact rfl) (by kernel_rfl) (by kernel_rfl) (by kernel_rfl) (by intro _ _ _ h; exact h) (Or.inl ⟨by rfl, ?y149⟩) hHeld ?_
  case y149 => (intro w hSw; (try dsimp only at hSw); go_simp; try (with_reducible rfl))
  try simp only [Act.put, List.setIfInBounds_toArray, List.set_cons_zero, List.set_cons_succ]
  refine wpAnyH_take (i := 1) (v := ?v150) (by simp only [List.getElem?_toArray, List.getElem?_cons_succ, List.getElem?_cons_zero]; exact rfl) (by kernel_rfl) (by kernel_rfl) (by kernel_rfl) (by intro _ _ _ h; exact h) (Or.inl ⟨by rfl, ?y150⟩) hHeld ?_
  case y150 => (intro w hSw; (try dsimp only at hSw); go_simp; try (with_reducible rfl))
  try simp only [Act.put, List.setIfInBounds_toArray, List.set_cons_zero, List.set_cons_succ]
  refine wpAnyH_ready (rs := [2]) (by kernel_rfl) (by simp) ?_
  refine AllReadyH.cons (by simp only [List.getElem?_toArray, List.getElem?_cons_succ, List.getElem?_cons_zero]; exact rfl) (fun K hK => ?_) AllReadyH.nil
  go_simp
  have q6d := q6.drew
  refine (toGraph_any _ _ _ (hv0.below q6d (Nat.le_refl _)) hsm0).mono ?_
  rintro e w7 ⟨x7, rfl, hy7, hb7⟩
  have hb7e : Below w6.heap.size w6 w7 := ⟨hb7.os, hb7.tape, hb7.output, hb7.size, hb7.block⟩
  have q7 := q6.trans (hb7e.mono q6.size)
  have b0_7 : w7.cell? ⟨w.heap.size, 0, none⟩ = some (.slice a0 g0.length c0) := (hb7e.cell (p := ⟨w.heap.size, 0, none⟩) (cell_lt b0_6)).trans b0_6
  have l5_7 : w7.cell? ⟨w4.heap.size, 0, none⟩ = some (.slice xa5 g0.length xc5) := (hb7e.cell (p := ⟨w4.heap.size, 0, none⟩) (cell_lt l5_6)).trans l5_6
  have y2_7 := y2_6.below hb7e (Nat.le_refl _)
  have y4_7 := y4_6.below hb7e (Nat.le_refl _)
  have y7_7 := hy7
  try dsimp only
  refine hK.out _ _ ?h152 (fun hHeld => ?_)
  case h152 => first | exact ⟨‹_›, ‹_›⟩ | assumption | (simp [*, go_sem])
  clear hK K
  try simp only [Act.put, List.setIfInBounds_toArray, List.set_cons_zero, List.set_cons_succ]
  refine wpAnyH_ready (rs := [3]) (by kernel_rfl) (by simp) ?_
  refine AllReadyH.cons (by simp only [List.getElem?_toArray, List.getElem?_cons_succ, List.getElem?_cons_zero]; exact rfl) (fun K hK => ?_) AllReadyH.nil
  go_simp
  refine (eqGraph_any _ _ _ _ _ y4_7 y7_7).mono ?_
  rintro e w8 ⟨rfl, hb8⟩
  have q8 := q7.trans (hb8.mono q7.size)
  have b0_8 : w8.cell? ⟨w.heap.size, 0, none⟩ = some (.slice a0 g0.length c0) := (hb8.cell (p := ⟨w.heap.size, 0, none⟩) (cell_lt b0_7)).trans b0_7
  have l5_8 : w8.cell? ⟨w4.heap.size, 0, none⟩ = some (.slice xa5 g0.length xc5) := (hb8.cell (p := ⟨w4.heap.size, 0, none⟩) (cell_lt l5_7)).trans l5_7
  have y2_8 := y2_7.below hb8 (Nat.le_refl _)
  have y4_8 := y4_7.below hb8 (Nat.le_refl _)
  have y7_8 := y7_7.below hb8 (Nat.le_refl _)
  try dsimp only
  refine hK.out _ _ ?h154 (fun hHeld => ?_)
  case h154 => first | exact ⟨‹_›, ‹_›⟩ | assumption | (simp [*, go_sem])
  clear hK K
  try simp only [Act.put, List.setIfInBounds_toArray, List.set_cons_zero, List.set_cons_succ]
  refine wpAnyH_take (i := 4) (v := ?v155) (by simp only [List.getElem?_toArray, List.getElem?_cons_succ, List.getElem?_cons_zero]; exact rfl) (by kernel_rfl) (by kernel_rfl) (by kernel_rfl) (by intro _ _ _ h; exact h) (Or.inl ⟨by rfl, ?y155⟩) hHeld ?_
  case y155 => (intro w hSw; (try dsimp only at hSw); go_simp; try (with_reducible rfl))
  try simp only [Act.put, List.setIfInBounds_toArray, List.set_cons_zero, List.set_cons_succ]
  refine wpAnyH_done (by kernel_rfl) ?_ _
  go_wp2
  go_ret
  exact ⟨rfl, q8⟩
end Go.Proofs.YtgkkgagnoeedaaaDoor
