/- Orbits of the program. -/
import Derived.Test.YtplohdnakllbiaaOrb7
namespace Go.Proofs.Ytplohdnakllbiaa
open Go.RowKit
def minTo (p s : List Nat) (j : Nat) : List Nat := (List.range s.length).map fun x => if x < j then min (s.getD x 0) (p.getD x 0) else s.getD x 0
theorem minTo_len (p s : List Nat) (j : Nat) : (minTo p s j).length = s.length := by simp [minTo]
theorem minTo_zero (p s : List Nat) : minTo p s 0 = s := by
  apply List.ext_getElem
  · exact minTo_len p s 0
  · intro i h1 h2; simp [minTo, h2]
theorem minTo_end (p s : List Nat) : minTo p s s.length = minP p s := by
  apply List.ext_getElem
  · rw [minTo_len, minP_len]
  · intro i h1 h2
    have : i < s.length := by rw [minTo_len] at h1; exact h1
    simp [minTo, minP, this]
theorem minTo_get {p s : List Nat} {j : Nat} (hj : j < s.length) : (minTo p s j).getD j 0 = s.getD j 0 := by simp [minTo, hj]
theorem minTo_succ {p s : List Nat} {j : Nat} (hj : j < s.length) : minTo p s (j + 1) = (minTo p s j).set j (min (s.getD j 0) (p.getD j 0)) := by
  apply List.ext_getElem
  · rw [List.length_set, minTo_len, minTo_len]
  · intro i h1 h2
    have hi : i < s.length := by rw [minTo_len] at h1; exact h1
    rw [List.getElem_set]
    by_cases e : j = i
    · subst e; simp [minTo]
    · rw [if_neg e]
      simp only [minTo, List.getElem_map, List.getElem_range]
      by_cases h : i < j
      · rw [if_pos (by omega), if_pos h]
      · rw [if_neg (by omega), if_neg h]
theorem natsI_setO (l : List Nat) (j x : Nat) : natsI (l.set j x) = (natsI l).set j (x : Int) := by simp [natsI, List.map_set]
/-- The list of the least vertices, in the variable that the closure holds. -/
def OrbSt (cb ab n c B : Nat) (Z : Nat → Prop) (hv : Value) (H : List Nat) (F : Nat → Prop) (s : List Nat) (w : World) : Prop :=
  (∀ b, F b ↔ b = cb ∨ b = ab ∨ Z b) ∧ Own w B 25 1 (.slice (some ⟨cb, 0, none⟩) 1 1) 1 [.slice (some ⟨ab, 0, none⟩) n c] ∧ Own w B 2 1 (.slice (some ⟨ab, 0, none⟩) n c) n ((natsI s).map (.int .i64)) ∧ s.length = n ∧ ¬ Z cb ∧ ¬ Z ab ∧ SlI Z w .u32 hv (natsI H)
set_option maxRecDepth 100000 in
set_option maxHeartbeats 2000000 in
theorem voidOrb (cb ab n c B : Nat) (Z : Nat → Prop) (hv : Value) (H : List Nat) (h8 : n ≤ 8) : VoidC Try.prog 58 cb B 3 (.tuple #[]) (OrbSt cb ab n c B Z hv H) (fun p s => minP p s) (fun p => p.length = n ∧ GP n p) := by
  refine ⟨?_, fun args w => run_enter Try.func58 (by kernel_rfl) rfl args w, ?_⟩
  · intro F s pv p w hst hown hpF hFl hB hp hK
    obtain ⟨hF, h1, h2, hsn, hZc, hZa, hH⟩ := hst
    have hpi := (Own.ints (xs := natsI p) hown (by omega))
    obtain ⟨pb, po, pcap, hpe, hpc⟩ := hpi.at_
    have hdis : ∀ b, pv.ownBlock = some b → b ≠ ab := fun b hb e => hpF b hb ((hF b).2 (.inr (.inl e)))
    obtain ⟨pa, pcc, rfl⟩ := hown.isSlice
    rw [natsI_len] at hpe
    have HK := Lib.hid hK
    have HE := Lib.hid (minTo_end p s)
    have hpl : p.length = s.length := by rw [hK.1, hsn]
    have HPL := Lib.hid hpl
    have HSN := Lib.hid hsn
    clear hK hsn hpl
    obtain ⟨c1, f1, hB1, hl1⟩ := own_cell h1
    have hca : cb ≠ ab := fun e => own_type h1 h2 (by decide) cb rfl (by rw [e]; rfl)
    rw [← minTo_zero p s] at h2
    go_enter Try.func58, Try.ntmps58
    go_wp2
    go_loopw [7] (fun i wr => ∃ j : Nat, j ≤ p.length ∧ i = .int .i64 j ∧ Own wr B 25 1 (.slice (some ⟨cb, 0, none⟩) 1 1) 1 [.slice (some ⟨ab, 0, none⟩) n c] ∧ Own wr B 2 1 (.slice (some ⟨ab, 0, none⟩) n c) n ((natsI (minTo p s j)).map (.int .i64)) ∧ Keeps (fun b => b = ab) w wr) (fun i _ => p.length - (intOf i).toNat)
    case atStart => exact ⟨0, Nat.zero_le _, rfl, h1, h2, ⟨rfl, rfl, rfl, Nat.le_refl _, fun _ _ _ => rfl⟩⟩
    case round =>
      clear h1 h2 c1 f1
      obtain ⟨j, hj, rfl, h1, h2, hk⟩ := hrel
      obtain ⟨wi, rfl⟩ : ∃ wx : World, wx = wr := ⟨_, rfl⟩
      by_cases hlt : j < p.length
      case neg =>
        obtain rfl : j = p.length := by omega
        rw [HPL.out, HE.out] at h2
        go_wp2
        go_end0
        refine ⟨rfl, ⟨hF, h1, h2, by rw [minP_len]; exact HSN.out, hZc, hZa, hH.keep (fun b hb => ?_)⟩, ⟨hk.os, hk.tape, hk.output, hk.size, fun b hb hf => hk.block b hb (fun e => hf ((hF b).2 (.inr (.inl e))))⟩⟩
        have hbF := hFl b ((hF b).2 (.inr (.inr hb)))
        exact hk.block b hbF (fun e => hZa (e ▸ hb))
      have hjs : j < s.length := by rw [← HPL.out]; exact hlt
      have hjn : j < n := by rw [← HSN.out]; exact hjs
      have hpc2 := hpc j (by rw [natsI_len]; exact hlt)
      rw [natsI_getE2 _ hlt] at hpc2
      have hpe2 := hpe (by omega)
      simp only [Value.slice.injEq] at hpe2
      obtain ⟨rfl, -, rfl⟩ := hpe2
      have hpd := hdis pb rfl
      have hpw : wi.cell? ⟨pb, po + j, none⟩ = some (.int .i64 (p[j] : Int)) := (World.cell?_of_block (a := ⟨pb, po + j, none⟩) (hk.block pb (cell_lt hpc2) hpd)).trans hpc2
      have hjm : j < (minTo p s j).length := by rw [minTo_len]; exact hjs
      have hoc : wi.cell? ⟨ab, j, none⟩ = some (.int .i64 ((s.getD j 0 : Nat) : Int)) := (World.ownsRow.cellAt h2 j (by omega)).trans (by
        rw [← minTo_get (p := p) hjs]
        simp [natsI, hjm])
      have HST := Lib.hid (minTo_succ (p := p) hjs)
      have hof := World.ownsRow.frozenAt h2 j
      have hxg : p.getD j 0 = p[j] := by simp [hlt]
      rw [hxg] at HST
      obtain ⟨c1, f1, -, hl1⟩ := own_cell h1
      have HSET := Lib.hid (show ((natsI (minTo p s j)).map (Value.int .i64)).set j (Value.int .i64 ((min (s.getD j 0) p[j] : Nat) : Int)) = (natsI (minTo p s (j + 1))).map (Value.int .i64) by rw [HST.out, natsI_setO, List.map_set])
      generalize p[j] = x at *
      generalize s.getD j 0 = y at *
      clear hpc hpc2 hxg
      go_wp2
      refine wp_region_late (S := (fun w' => w'.cell? ⟨cb, 0, none⟩ = some (.slice (some ⟨ab, 0, none⟩) n c) ∧ w'.cell? ⟨ab, j, none⟩ = some (.int .i64 (y : Int)))) (late := [9]) (by kernel_rfl) ?_ (fun hHeld => ?_)
      · first | exact ⟨‹_›, ‹_›⟩ | (simp [*, go_sem])
      have hdw : Drawn wi wi.drew := (Drawn.refl _).drew
      generalize wi.drew = wd at hdw hHeld ⊢
      have hof2 : wd.frozen? ⟨ab, j, none⟩ = false := World.ownsRow.frozenAt (h2.drawn hdw) j
      refine wpLate_load (i := 0) (v := ?v1) (by simp only [List.getElem?_toArray, List.getElem?_cons_zero]; exact rfl) (by kernel_rfl) (by kernel_rfl) (by kernel_rfl) (by kernel_rfl) (by intro _ _ _ h; exact h) (Or.inl ⟨by rfl, ?y1⟩) hHeld ?_
      case y1 => (intro w hSw; (try dsimp only at hSw); go_simp; try (with_reducible rfl))
      try simp only [Act.put, List.setIfInBounds_toArray, List.set_cons_zero, List.set_cons_succ]
      refine wpLate_take (i := 1) (v := ?v2) (by simp only [List.getElem?_toArray, List.getElem?_cons_succ, List.getElem?_cons_zero]; exact rfl) (by kernel_rfl) (by kernel_rfl) (by kernel_rfl) (by intro _ _ _ h; exact h) (Or.inl ⟨by rfl, ?y2⟩) ?_
      case y2 => (intro w _; go_simp; try (with_reducible rfl))
      try simp only [Act.put, List.setIfInBounds_toArray, List.set_cons_zero, List.set_cons_succ]
      refine wpLate_load (i := 2) (v := ?v3) (by simp only [List.getElem?_toArray, List.getElem?_cons_succ, List.getElem?_cons_zero]; exact rfl) (by kernel_rfl) (by kernel_rfl) (by kernel_rfl) (by kernel_rfl) (by intro _ _ _ h; exact h) (Or.inl ⟨by rfl, ?y3⟩) hHeld ?_
      case y3 => (intro w hSw; (try dsimp only at hSw); go_simp; try (with_reducible rfl))
      try simp only [Act.put, List.setIfInBounds_toArray, List.set_cons_zero, List.set_cons_succ]
      refine wpLate_take (i := 3) (v := ?v4) (by simp only [List.getElem?_toArray, List.getElem?_cons_succ, List.getElem?_cons_zero]; exact rfl) (by kernel_rfl) (by kernel_rfl) (by kernel_rfl) (by intro _ _ _ h; exact h) (Or.inl ⟨by rfl, ?y4⟩) ?_
      case y4 => (intro w _; go_simp; try (with_reducible rfl))
      try simp only [Act.put, List.setIfInBounds_toArray, List.set_cons_zero, List.set_cons_succ]
      refine wpLate_take (i := 4) (v := ?v5) (by simp only [List.getElem?_toArray, List.getElem?_cons_succ, List.getElem?_cons_zero]; exact rfl) (by kernel_rfl) (by kernel_rfl) (by kernel_rfl) (by intro _ _ _ h; exact h) (Or.inl ⟨by rfl, ?y5⟩) ?_
      case y5 => (intro w _; go_simp; try (with_reducible rfl))
      try simp only [Act.put, List.setIfInBounds_toArray, List.set_cons_zero, List.set_cons_succ]
      refine wpLate_load (i := 5) (v := ?v6) (by simp only [List.getElem?_toArray, List.getElem?_cons_succ, List.getElem?_cons_zero]; exact rfl) (by kernel_rfl) (by kernel_rfl) (by kernel_rfl) (by kernel_rfl) (by intro _ _ _ h; exact h) (Or.inl ⟨by rfl, ?y6⟩) hHeld ?_
      case y6 => (intro w hSw; (try dsimp only at hSw); go_simp; try (with_reducible rfl))
      try simp only [Act.put, List.setIfInBounds_toArray, List.set_cons_zero, List.set_cons_succ]
      refine wpLate_take (i := 6) (v := ?v7) (by simp only [List.getElem?_toArray, List.getElem?_cons_succ, List.getElem?_cons_zero]; exact rfl) (by kernel_rfl) (by kernel_rfl) (by kernel_rfl) (by intro _ _ _ h; exact h) (Or.inl ⟨by rfl, ?y7⟩) ?_
      case y7 => (intro w _; go_simp; try (with_reducible rfl))
      try simp only [Act.put, List.setIfInBounds_toArray, List.set_cons_zero, List.set_cons_succ]
      refine wpLate_take (i := 7) (v := ?v8) (by simp only [List.getElem?_toArray, List.getElem?_cons_succ, List.getElem?_cons_zero]; exact rfl) (by kernel_rfl) (by kernel_rfl) (by kernel_rfl) (by intro _ _ _ h; exact h) (Or.inl ⟨by rfl, ?y8⟩) ?_
      case y8 => (intro w _; go_simp; try (with_reducible rfl))
      try simp only [Act.put, List.setIfInBounds_toArray, List.set_cons_zero, List.set_cons_succ]
      refine wpLate_take (i := 8) (v := ?v9) (by simp only [List.getElem?_toArray, List.getElem?_cons_succ, List.getElem?_cons_zero]; exact rfl) (by kernel_rfl) (by kernel_rfl) (by kernel_rfl) (by intro _ _ _ h; exact h) (Or.inl ⟨by rfl, ?y9⟩) ?_
      case y9 => (intro w _; go_simp; try (with_reducible rfl))
      try simp only [Act.put, List.setIfInBounds_toArray, List.set_cons_zero, List.set_cons_succ]
      refine wpLate_late (i := 9) (by kernel_rfl) (by simp only [List.getElem?_toArray, List.getElem?_cons_succ, List.getElem?_cons_zero]; exact rfl) (by kernel_rfl) (fun K hK => ?_)
      go_simp
      skip
      try dsimp only
      refine hK.out _ _ ?_
      clear hK K
      try simp only [Act.put, List.setIfInBounds_toArray, List.set_cons_zero, List.set_cons_succ]
      refine wpLate_done (by kernel_rfl) ?_ _
      have hset2 := (h2.drawn hdw).stored j (.int .i64 ((min y x : Nat) : Int))
      rw [HSET.out] at hset2
      have h1b := own1_keep (h1.drawn hdw) (w' := wd.setCell ⟨ab, j, none⟩ (.int .i64 ((min y x : Nat) : Int))) (Below.heap_setCell _ _ _ _ (by simpa using hca))
      have hkb : Keeps (fun b => b = ab) w (wd.setCell ⟨ab, j, none⟩ (.int .i64 ((min y x : Nat) : Int))) := by
        obtain ⟨m, rfl⟩ := hdw
        exact ⟨hk.os, hk.tape, hk.output, by simpa using hk.size, fun b hb hf => (Below.heap_setCell _ _ _ _ (by simpa using hf)).trans (hk.block b hb hf)⟩
      have hmn : (if x < y then (x : Int) else (y : Int)) = ((min y x : Nat) : Int) := by split <;> omega
      try rw [hmn]
      generalize wd.setCell ⟨ab, j, none⟩ (.int .i64 ((min y x : Nat) : Int)) = wz at *
      go_wp2
      go_roundw
      case rel => exact ⟨j + 1, by omega, by go_num, h1b, hset2, hkb⟩
      case measure => simp [intOf]; omega
  · intro F s w w' hst hk
    obtain ⟨hF, h1, h2, hsn, hZc, hZa, hH⟩ := hst
    exact ⟨hF, h1.keep (fun k hk2 => hk k ((hF k).2 (.inl (by simpa [Value.ownBlock, eq_comm] using hk2)))), h2.keep (fun k hk2 => hk k ((hF k).2 (.inr (.inl (by simpa [Value.ownBlock, eq_comm] using hk2))))), hsn, hZc, hZa, hH.keep (fun b hb => hk b ((hF b).2 (.inr (.inr hb))))⟩
set_option maxRecDepth 100000 in
set_option maxHeartbeats 4000000 in
theorem implOrbitsOf_any {S : Nat → Prop} {gv : Value} {g : List (List Int)} {w : World} (hvg : SlR S w gv g) :
    Calls Try.prog 24 #[.agg #[gv]] w fun e w' => ∃ u, e = .returned u ∧ Own w' w.heap.size 2 1 u (orbL g).length ((orbL g).map (.int .i64)) ∧ Below w.heap.size w w' := by
  have hq0 : Below w.heap.size w (w.alloc (.cells #[gv] 31)) := (Below.refl _ _).alloc (Nat.le_refl _) _
  obtain ⟨ga, gc, rfl⟩ := hvg.slice
  have hs0 := isSmall_any (hvg.below hq0 (Nat.le_refl _))
  by_cases hsm : smallB g = true
  case neg =>
    have hsm' : smallB g = false := by simpa using hsm
    rw [hsm'] at hs0
    have HE := Lib.hid (show orbL g = [] by simp [orbL, hsm'])
    clear hsm hsm'
    go_enter Try.func24, Try.ntmps24
    go_wp2_with fail
    refine hs0.mono ?_
    rintro e w1 ⟨rfl, hb1⟩
    go_wp2
    go_ret
    exact ⟨_, rfl, by rw [HE.out]; exact Own.nil _ _ _ _, hq0.trans (hb1.mono hq0.size)⟩
  rw [hsm] at hs0
  have HE := Lib.hid (show orbL g = natsI (orbN (netsL g)) by rw [orbL, if_pos hsm])
  have hGg := gokB_iff.1 (show gokB g = true by simp only [smallB, Bool.and_eq_true] at hsm; exact hsm.1)
  have h8 : g.length ≤ 8 := by simp only [smallB, Bool.and_eq_true, decide_eq_true_eq] at hsm; exact hsm.2
  have hhg := hGg.hi
  have hlo := hGg.lo
  clear hsm
  go_enter Try.func24, Try.ntmps24
  go_wp2_with fail
  refine hs0.mono ?_
  rintro e w1 ⟨rfl, hb1⟩
  have hq1 := hq0.trans (hb1.mono hq0.size)
  have c3 : w1.cell? ⟨w.heap.size, 0, none⟩ = some (.slice ga g.length gc) := (hb1.cell (p := ⟨w.heap.size, 0, none⟩) (by simp)).trans (by simp [go_sem])
  clear hs0 hb1
  have hb2 : Below w1.heap.size w1 ((w1.alloc (.cells #[] 2)).alloc (.cells #[.slice (some ⟨w1.heap.size, 0, none⟩) 0 0] 25)) := ((Below.refl _ _).alloc (Nat.le_refl _) _).alloc (by simp) _
  have hq2 := hq1.trans (hb2.mono hq1.size)
  have c4 := (hb2.cell (cell_lt c3)).trans c3
  have hsz1 : w.heap.size < w1.heap.size := cell_lt c3
  have ho0 : Own ((w1.alloc (.cells #[] 2)).alloc (.cells #[.slice (some ⟨w1.heap.size, 0, none⟩) 0 0] 25)) w1.heap.size 2 1 (.slice (some ⟨w1.heap.size, 0, none⟩) 0 0) 0 [] := by
    have h : Own (w1.alloc (.cells #[] 2)) w1.heap.size 2 1 (.slice (some ⟨w1.heap.size, 0, none⟩) 0 0) 0 [] := by
      have := World.ownsRow_lit (base := w1.heap.size) (e := 2) (size := 1) w1 #[] 0 (Nat.le_refl _) (by unfold maxLen; omega) rfl
      simpa [Own] using this
    exact h.alloc _
  have hbx := own_new (w1.alloc (.cells #[] 2)) w1.heap.size 25 (.slice (some ⟨w1.heap.size, 0, none⟩) 0 0) (by simp)
  rw [show (w1.alloc (.cells #[] 2)).heap.size = w1.heap.size + 1 by simp] at hbx
  clear hb2 hq0
  go_wp2
  go_loopw [12] (fun i wr => ∃ (k : Nat) (o : Value), k ≤ g.length ∧ i = .int .i64 k ∧ Own wr w1.heap.size 25 1 (.slice (some ⟨w1.heap.size + 1, 0, none⟩) 1 1) 1 [o] ∧ Own wr w1.heap.size 2 1 o k ((natsI (List.range k)).map (.int .i64)) ∧ Below w.heap.size w wr ∧ wr.cell? ⟨w.heap.size, 0, none⟩ = some (.slice ga g.length gc)) (fun i _ => g.length - (intOf i).toNat)
  case atStart => exact ⟨0, _, Nat.zero_le _, rfl, hbx, by simpa [natsI] using ho0, hq2, c4⟩
  case round =>
    clear hq2 c4 ho0 hbx c3
    obtain ⟨k, o, hk, rfl, hbx, hown, hq, c3⟩ := hrel
    obtain ⟨wi, rfl⟩ : ∃ wx : World, wx = wr := ⟨_, rfl⟩
    by_cases hlt : k < g.length
    case pos =>
      obtain ⟨x1, x2, hB, -⟩ := own_cell hbx
      have hBw : w1.heap.size ≤ wi.heap.size := by have := (hbx.lt (w1.heap.size + 1) rfl).2; omega
      obtain ⟨oa, oc, rfl⟩ := hown.isSlice
      go_wp2_with (at_builtin; refine wpList_append1 elI64 rfl _ _ rfl hown rfl rfl rfl (by omega) hBw ?_; intro v' w6 hown6 hkept hmv; have hbx6 := own1_keep hbx (hkept.2.2.2.2 _ (hbx.lt (w1.heap.size + 1) rfl).2 (fun e => own_type hown hbx (by decide) _ e.symm rfl)); obtain ⟨y1, y2, -, -⟩ := own_cell hbx6; obtain ⟨oa6, oc6, rfl⟩ := hown6.isSlice)
      have hq6 := hkept.below hq hq.size (fun b hb => by have := hown.ge b hb; omega)
      have c6 : w6.cell? ⟨w.heap.size, 0, none⟩ = some (.slice ga g.length gc) := (World.cell?_of_block (a := ⟨w.heap.size, 0, none⟩) (hkept.2.2.2.2 w.heap.size (cell_lt c3) (fun e => by have := (hown.lt w.heap.size e.symm).1; omega))).trans c3
      go_roundw
      case rel => exact ⟨k + 1, _, by omega, by go_num, own_set hbx6 _, (by rw [List.range_succ, natsI_snocN, List.map_append]; exact hown6.keep (fun b hb => Below.heap_setCell _ _ _ _ (fun e => own_type hown6 hbx6 (by decide) b hb (by rw [e]; rfl)))), hq6.setCell (by simp; omega) _, (World.cell?_of_block (a := ⟨w.heap.size, 0, none⟩) (Below.heap_setCell _ _ _ _ (by simp; omega))).trans c6⟩
      case measure => simp [intOf]; omega
    obtain rfl : k = g.length := by omega
    have hnet := netsOf_any _ _ _ (hvg.below hq (Nat.le_refl _)) hGg
    rcases own_none_some hown with ⟨_, hn⟩ | ⟨ab, oc, rfl⟩
    · exfalso; omega
    have hab := hown.lt ab rfl
    have hbl := hbx.lt (w1.heap.size + 1) rfl
    go_wp2_with fail
    refine hnet.mono ?_
    rintro e w3 ⟨x, rfl, hx, hb3⟩
    have hq3 := hq.trans (hb3.mono hq.size)
    have hbx3 := hbx.below hb3 (Nat.le_refl _)
    have ho3 := hown.below hb3 (Nat.le_refl _)
    have hz := Own.ints (xs := natsI (netsL g)) hx (by omega)
    obtain ⟨xa, xc, rfl⟩ := hz.slice
    have hxl := hx.lt
    have HRUN := Lib.hid (orb_run (H := netsL g))
    have hs3 := hb3.size
    rw [natsI_len, netsL_len] at *
    have haut := automorphisms_any (w := w3) (s := List.range g.length) (F := fun b => b = w1.heap.size + 1 ∨ b = ab ∨ (Value.slice xa g.length xc).ownBlock = some b) (voidOrb (w1.heap.size + 1) ab g.length oc w1.heap.size (fun b => (Value.slice xa g.length xc).ownBlock = some b) (.slice xa g.length xc) (netsL g) h8)
      (fun F s w h => h.2.2.2.2.2.2.weak (fun _ _ => trivial)) (by rw [netsL_len]; omega) (netsL_lt hGg) ⟨fun _ => Iff.rfl, hbx3, ho3, by simp, (fun h => by have := (hxl _ h).1; omega), (fun h => by have := (hxl _ h).1; omega), hz⟩ (fun b hb => by
        rcases hb with rfl | rfl | hb
        · omega
        · omega
        · have := hxl b hb; omega) (by omega) (fun p h1 h2 => by rw [netsL_len] at h1 h2; exact ⟨h1, h2⟩)
    clear hnet hx hz hbx hown hbx3 ho3
    rw [netsL_len] at haut
    go_wp2_with fail
    refine haut.mono ?_
    rintro e w4 ⟨F', rfl, hst, hb4⟩
    obtain ⟨-, h1, h2, -, -, -, -⟩ := hst
    rw [HRUN.out] at h2
    have hc4 := (own_cell h1).1
    have hlen : (natsI (orbN (netsL g))).length = g.length := by rw [natsI_len, orbN_len, netsL_len]
    have HLN := Lib.hid hlen
    clear haut hlen
    go_wp2
    go_ret
    rw [HE.out, HLN.out]
    exact ⟨_, rfl, h2.weak (by omega), hq3.trans (hb4.mono (by omega))⟩
end Go.Proofs.Ytplohdnakllbiaa
