/- The reference's graph behind a folding. -/
import Derived.Test.YtfccpencgengaaaDoorFold3
namespace Go.Proofs.YtfccpencgengaaaDoor
open Go.RowKit
theorem range_map_succ {α : Type} (f : Nat → α) (k : Nat) : (List.range (k + 1)).map f = (List.range k).map f ++ [f k] := by rw [List.range_succ, List.map_append]; rfl
theorem PartsW.keepB {w w' : World} {B : Nat} {EO EI : TypeId} {o d : Value} {out : List Nat} {D : Nat} (h : PartsW w B EO EI o d out D) (hk : ∀ b, B ≤ b → w'.heap[b]? = w.heap[b]?) : PartsW w' B EO EI o d out D := by
  obtain ⟨vs, h1, h2, h3, h4⟩ := h.ex
  exact ⟨Own.keep h.done (fun b hb => hk b (Own.ge h.done b hb)), vs, h1, h2.keep (fun b hb => hk b (h2.ge b hb)), h3, fun i hi hi2 => ⟨Own.keep (h4 i hi hi2).1 (fun b hb => hk b (Own.ge (h4 i hi hi2).1 b hb)), (h4 i hi hi2).2⟩⟩
set_option maxRecDepth 100000 in
set_option maxHeartbeats 16000000 in
theorem l20Fold_any {S : Nat → Prop} {v : Value} {a : List Nat} {left x n : Nat} {f : Tri} {w : World} (hI : FoldI a left n) (hx : x < n) (hf : foldF a left x = some f) (hv : SlR S w v (rowsN a left n)) :
    Calls Tryd.prog 69 #[.agg #[v], triV f] w fun e w' => ∃ u, e = .returned (.agg #[u]) ∧ SlR (fun b => w.heap.size ≤ b) w' u (rowsN (foldN a f) (andN left (bit x)) n) ∧ Below w.heap.size w w' := by
  have h16 := hI.le
  have hrows := rows_rowM hI hx hf
  obtain ⟨hfa, hfb, hfc⟩ := fold_names hI hf
  obtain ⟨fa, fb, fc⟩ := f
  simp only at hfa hfb hfc
  subst hfa
  simp only [triV]
  rw [hrows]
  clear hrows hf
  have hrl := rowsN_len a left n
  obtain ⟨ga, gb, goff, gcap, gf, rfl, hl, hga, hgc0⟩ := hv
  rw [hrl] at hl hga ⊢
  have hq0 : Below w.heap.size w ((((w.alloc (.cells #[.slice ga n gcap] 27)).alloc (.cells #[.int .i64 (x : Int), .int .i64 fb, .int .i64 fc] 86)).alloc (.cells #[.slice none 0 0] 27)).alloc (.cells #[.slice none 0 0] 27)) :=
    ((((Below.refl _ _).alloc (Nat.le_refl _) _).alloc (by simp) _).alloc (by simp; omega) _).alloc (by simp; omega) _
  have hbx0 : Own ((((w.alloc (.cells #[.slice ga n gcap] 27)).alloc (.cells #[.int .i64 (x : Int), .int .i64 fb, .int .i64 fc] 86)).alloc (.cells #[.slice none 0 0] 27)).alloc (.cells #[.slice none 0 0] 27)) (w.heap.size + 1 + 1 + 1) 27 1 (.slice (some ⟨w.heap.size + 1 + 1 + 1, 0, none⟩) 1 1) 1 [.slice none 0 0] := by
    have := World.ownsRow_lit (base := w.heap.size + 1 + 1 + 1) (e := 27) (size := 1) (((w.alloc (.cells #[.slice ga n gcap] 27)).alloc (.cells #[.int .i64 (x : Int), .int .i64 fb, .int .i64 fc] 86)).alloc (.cells #[.slice none 0 0] 27)) #[.slice none 0 0] 1 (by simp) (by unfold maxLen; omega) rfl
    simpa [Own] using this
  have hres0 : Own ((((w.alloc (.cells #[.slice ga n gcap] 27)).alloc (.cells #[.int .i64 (x : Int), .int .i64 fb, .int .i64 fc] 86)).alloc (.cells #[.slice none 0 0] 27)).alloc (.cells #[.slice none 0 0] 27)) (w.heap.size + 1 + 1) 27 1 (.slice (some ⟨w.heap.size + 1 + 1, 0, none⟩) 1 1) 1 [.slice none 0 0] := by
    have := World.ownsRow_lit (base := w.heap.size + 1 + 1) (e := 27) (size := 1) ((w.alloc (.cells #[.slice ga n gcap] 27)).alloc (.cells #[.int .i64 (x : Int), .int .i64 fb, .int .i64 fc] 86)) #[.slice none 0 0] 1 (by simp) (by unfold maxLen; omega) rfl
    exact (by simpa [Own] using this : Own _ _ _ _ _ _ _).alloc _
  have hpw0 : PartsW ((((w.alloc (.cells #[.slice ga n gcap] 27)).alloc (.cells #[.int .i64 (x : Int), .int .i64 fb, .int .i64 fc] 86)).alloc (.cells #[.slice none 0 0] 27)).alloc (.cells #[.slice none 0 0] 27)) (w.heap.size + 4) 41 2 (.slice none 0 0) (.slice none 0 0) [] 0 := by
    refine ⟨?_, [], rfl, Own.nil _ _ _ _, fun k hk => by simp [Value.ownBlock] at hk, fun i h => by simp at h⟩
    unfold OwnB; rw [bitsI_zero]; exact Own.nil _ _ _ _
  go_enter Tryd.func69, Tryd.ntmps69
  go_wp2
  go_loopw [6] (fun i wr => ∃ (k : Nat) (o : Value), i = .int .i64 k ∧ k ≤ n ∧ Own wr (w.heap.size + 1 + 1 + 1) 27 1 (.slice (some ⟨w.heap.size + 1 + 1 + 1, 0, none⟩) 1 1) 1 [o] ∧ PartsW wr (w.heap.size + 4) 41 2 o (.slice none 0 0) ((List.range k).map (rowM a left x ⟨x, fb, fc⟩)) 0 ∧ Below w.heap.size w wr ∧
    wr.cell? ⟨w.heap.size, 0, none⟩ = some (.slice ga n gcap) ∧ wr.cell? ⟨w.heap.size + 1, 0, none⟩ = some (.int .i64 (x : Int)) ∧ wr.cell? ⟨w.heap.size + 1, 1, none⟩ = some (.int .i64 fb) ∧ wr.cell? ⟨w.heap.size + 1, 2, none⟩ = some (.int .i64 fc) ∧
    Own wr (w.heap.size + 1 + 1) 27 1 (.slice (some ⟨w.heap.size + 1 + 1, 0, none⟩) 1 1) 1 [.slice none 0 0]) (fun i _ => n - (intOf i).toNat)
  case atStart => exact ⟨0, _, rfl, Nat.zero_le _, hbx0, by simpa using hpw0, hq0, by simp [go_sem], by simp [go_sem], by simp [go_sem], by simp [go_sem], hres0⟩
  case round =>
    clear hbx0 hpw0 hq0 hres0
    obtain ⟨k, o, rfl, hk, hbx, hpw, hq, cg, c0, c1, c2, hres⟩ := hrel
    obtain ⟨oa, om, oc, rfl⟩ : ∃ oa om oc, o = .slice oa om oc := by
      obtain ⟨vs, _, h, _⟩ := hpw.ex
      obtain ⟨x1, x2, h3⟩ := h.isSlice
      exact ⟨_, _, _, h3⟩
    have hbx3 := hbx
    by_cases hlt : k < n
    case neg =>
      obtain rfl : k = n := by omega
      have cX := (World.ownsRow.cellAt hbx 0 (by omega)).trans (show _ = some (Value.slice oa om oc) from rfl)
      have cY := (World.ownsRow.cellAt hres 0 (by omega)).trans (show _ = some (.slice none 0 0) from rfl)
      have fY := World.ownsRow.frozenAt hres 0
      clear hbx3
      go_wp2
      refine bodyPost_ret (v := .agg #[Value.slice oa om oc]) (by simp [results, Tryd.results69, go_sem, cX, cY]) rfl ⟨_, rfl, ?_, hq.setCell (by show w.heap.size ≤ w.heap.size + 1 + 1; omega) _⟩
      have hset : ∀ b, b ≠ w.heap.size + 1 + 1 → (wr.setCell ⟨w.heap.size + 1 + 1, 0, none⟩ (Value.slice oa om oc)).heap[b]? = wr.heap[b]? := fun b hb => Below.heap_setCell _ _ _ _ (by simpa using hb)
      exact ((hpw.keepB (fun b hb => hset b (by omega))).rows (by simp; omega)).weak (fun b hb => by omega)
    obtain ⟨hcell, hrow⟩ := (hgc0.below hq (Nat.le_refl _)) k (by rw [hrl]; exact hlt)
    rw [rowsN_mu] at hrow
    obtain ⟨rfl, -⟩ := hga (by omega)
    obtain ⟨ra, rc, hge⟩ := hrow.slice
    rw [hge] at hcell hrow
    have hM := mu_less (u := k) hI hx
    have hm32 := mu0_lt hI k
    go_wp2
    refine wp_region_held_drew (S := (fun w' => w'.cell? ⟨w.heap.size, 0, none⟩ = some (.slice (some ⟨gb, goff, none⟩) n gcap) ∧ w'.cell? ⟨gb, goff + k, none⟩ = some (.slice ra (bitsI (mu0 a left k)).length rc) ∧ w'.cell? ⟨w.heap.size + 1, 0, none⟩ = some (.int .i64 (x : Int)))) (by kernel_rfl) ?_ (fun hHeld => ?_)
    · first | exact ⟨‹_›, ‹_›, ‹_›⟩ | (simp [*, go_sem])
    have hqc := hq.drew
    have hd := (Below.refl wr.heap.size wr).drew
    have hrowc := hrow.drew
    have hbxc := hbx.below hd (Nat.le_refl _)
    have hpwc := hpw.below hd (Nat.le_refl _)
    have hresc := hres.below hd (Nat.le_refl _)
    have c1c := (hd.cell (cell_lt c1)).trans c1
    have c2c := (hd.cell (cell_lt c2)).trans c2
    have hol := hpwc.olt
    generalize World.drew _ = wd at hqc hrowc hbxc hpwc hresc c1c c2c hol hHeld ⊢
    refine wpAnyH_take (i := 0) (v := ?v1) (by simp only [List.getElem?_toArray, List.getElem?_cons_zero]; exact rfl) (by kernel_rfl) (by kernel_rfl) (by kernel_rfl) (by intro _ _ _ h; exact h) (Or.inl ⟨by rfl, ?y1⟩) hHeld ?_
    case y1 => (intro w hSw; (try dsimp only at hSw); go_simp; try (with_reducible rfl))
    try simp only [Act.put, List.setIfInBounds_toArray, List.set_cons_zero, List.set_cons_succ]
    refine wpAnyH_take (i := 1) (v := ?v2) (by simp only [List.getElem?_toArray, List.getElem?_cons_succ, List.getElem?_cons_zero]; exact rfl) (by kernel_rfl) (by kernel_rfl) (by kernel_rfl) (by intro _ _ _ h; exact h) (Or.inl ⟨by rfl, ?y2⟩) hHeld ?_
    case y2 => (intro w hSw; (try dsimp only at hSw); go_simp; try (with_reducible rfl))
    try simp only [Act.put, List.setIfInBounds_toArray, List.set_cons_zero, List.set_cons_succ]
    refine wpAnyH_take (i := 2) (v := ?v3) (by simp only [List.getElem?_toArray, List.getElem?_cons_succ, List.getElem?_cons_zero]; exact rfl) (by kernel_rfl) (by kernel_rfl) (by kernel_rfl) (by intro _ _ _ h; exact h) (Or.inl ⟨by rfl, ?y3⟩) hHeld ?_
    case y3 => (intro w hSw; (try dsimp only at hSw); go_simp; try (with_reducible rfl))
    try simp only [Act.put, List.setIfInBounds_toArray, List.set_cons_zero, List.set_cons_succ]
    refine wpAnyH_take (i := 3) (v := ?v4) (by simp only [List.getElem?_toArray, List.getElem?_cons_succ, List.getElem?_cons_zero]; exact rfl) (by kernel_rfl) (by kernel_rfl) (by kernel_rfl) (by intro _ _ _ h; exact h) (Or.inl ⟨by rfl, ?y4⟩) hHeld ?_
    case y4 => (intro w hSw; (try dsimp only at hSw); go_simp; try (with_reducible rfl))
    try simp only [Act.put, List.setIfInBounds_toArray, List.set_cons_zero, List.set_cons_succ]
    refine wpAnyH_take (i := 4) (v := ?v5) (by simp only [List.getElem?_toArray, List.getElem?_cons_succ, List.getElem?_cons_zero]; exact rfl) (by kernel_rfl) (by kernel_rfl) (by kernel_rfl) (by intro _ _ _ h; exact h) (Or.inl ⟨by rfl, ?y5⟩) hHeld ?_
    case y5 => (intro w hSw; (try dsimp only at hSw); go_simp; try (with_reducible rfl))
    try simp only [Act.put, List.setIfInBounds_toArray, List.set_cons_zero, List.set_cons_succ]
    refine wpAnyH_take (i := 5) (v := ?v6) (by simp only [List.getElem?_toArray, List.getElem?_cons_succ, List.getElem?_cons_zero]; exact rfl) (by kernel_rfl) (by kernel_rfl) (by kernel_rfl) (by intro _ _ _ h; exact h) (Or.inl ⟨by rfl, ?y6⟩) hHeld ?_
    case y6 => (intro w hSw; (try dsimp only at hSw); go_simp; try (with_reducible rfl))
    try simp only [Act.put, List.setIfInBounds_toArray, List.set_cons_zero, List.set_cons_succ]
    refine wpAnyH_take (i := 6) (v := ?v7) (by simp only [List.getElem?_toArray, List.getElem?_cons_succ, List.getElem?_cons_zero]; exact rfl) (by kernel_rfl) (by kernel_rfl) (by kernel_rfl) (by intro _ _ _ h; exact h) (Or.inl ⟨by rfl, ?y7⟩) hHeld ?_
    case y7 => (intro w hSw; (try dsimp only at hSw); go_simp; try (with_reducible rfl))
    try simp only [Act.put, List.setIfInBounds_toArray, List.set_cons_zero, List.set_cons_succ]
    refine wpAnyH_ready (rs := [7]) (by kernel_rfl) (by simp) ?_
    refine AllReadyH.cons (by simp only [List.getElem?_toArray, List.getElem?_cons_succ, List.getElem?_cons_zero]; exact rfl) (fun K hK => ?_) AllReadyH.nil
    go_simp
    refine (l19Less_any hrowc hm32 (by omega)).mono ?_
    rintro e wn ⟨r1, rfl, hr1, hbn⟩
    obtain ⟨cgc, chc, c0c⟩ := hHeld
    have cgn := (hbn.cell (cell_lt cgc)).trans cgc
    have chn := (hbn.cell (cell_lt chc)).trans chc
    have c0n := (hbn.cell (cell_lt c0c)).trans c0c
    try dsimp only
    refine hK.out _ _ ?h9 (fun hHeld => ?_)
    case h9 => first | exact ⟨‹_›, ‹_›, ‹_›⟩ | (simp [*, go_sem])
    clear hK K
    try simp only [Act.put, List.setIfInBounds_toArray, List.set_cons_zero, List.set_cons_succ]
    refine wpAnyH_take (i := 8) (v := ?v10) (by simp only [List.getElem?_toArray, List.getElem?_cons_succ, List.getElem?_cons_zero]; exact rfl) (by kernel_rfl) (by kernel_rfl) (by kernel_rfl) (by intro _ _ _ h; exact h) (Or.inl ⟨by rfl, ?y10⟩) hHeld ?_
    case y10 => (intro w hSw; (try dsimp only at hSw); go_simp; try (with_reducible rfl))
    try simp only [Act.put, List.setIfInBounds_toArray, List.set_cons_zero, List.set_cons_succ]
    refine wpAnyH_done (by kernel_rfl) ?_ _
    obtain ⟨r1a, r1n, r1c, rfl⟩ : ∃ a n c, r1 = .slice a n c := by
      obtain ⟨x1, x2, h3⟩ := Own.isSlice hr1
      exact ⟨_, _, _, h3⟩
    have hqn := hqc.trans (hbn.mono hqc.size)
    have hbxn := hbxc.below hbn (Nat.le_refl _)
    have hpwn := hpwc.below hbn (Nat.le_refl _)
    have hresn := hresc.below hbn (Nat.le_refl _)
    have c1n := (hbn.cell (cell_lt c1c)).trans c1c
    have c2n := (hbn.cell (cell_lt c2c)).trans c2c
    have hBd : w.heap.size + 4 ≤ wd.heap.size := by have := (Own.lt hbxc (w.heap.size + 1 + 1 + 1) (by simp [Value.ownBlock])).2; omega
    have hBn : w.heap.size + 4 ≤ wn.heap.size := Nat.le_trans hBd hbn.size
    have hM32 : andN (mu0 a left k) (bit x) < 4294967296 := Nat.lt_of_le_of_lt (andN_le _ _) hm32
    clear hbx hpw hq cg c0 c1 c2 hres hqc hbxc hpwc hresc c1c c2c cgc chc c0c chn hcell hrow hrowc hbx3
    have hbx3 : True := trivial
    by_cases hkx : k = x
    · have hb1 : ((k : Int) == (x : Int)) = true := by rw [beq_iff_eq]; omega
      have hb1n : (k == x) = true := by rw [beq_iff_eq]; exact hkx
      have hb2 : ((k : Int) == fb) = false := by
        rw [beq_eq_false_iff_ne]; rcases hfb with h | ⟨p, h, -, h2⟩
        · omega
        · omega
      have hb3 : ((k : Int) == fc) = false := by
        rw [beq_eq_false_iff_ne]; rcases hfc with h | ⟨p, y, -, h, -, -, -, h2, -⟩
        · omega
        · omega
      have HM := Lib.hid (show rowM a left x ⟨x, fb, fc⟩ k = 0 by rw [rowM, if_pos hkx])
      clear hkx hM
      have hd := (Below.refl wn.heap.size wn).alloc (Nat.le_refl _) (.cells #[] 2)
      have hbxn := hbxn.alloc (.cells #[] 2)
      have hpwn := hpwn.below hd (Nat.le_refl _)
      have hresn := hresn.alloc (.cells #[] 2)
      have hqn := hqn.alloc hqn.size (.cells #[] 2)
      have cgn := (hd.cell (cell_lt cgn)).trans cgn
      have c0n := (hd.cell (cell_lt c0n)).trans c0n
      have c1n := (hd.cell (cell_lt c1n)).trans c1n
      have c2n := (hd.cell (cell_lt c2n)).trans c2n
      have hr2 : OwnB (wn.alloc (.cells #[] 2)) wd.heap.size 2 (.slice (some ⟨wn.heap.size, 0, none⟩) 0 0) 0 := by
        unfold OwnB; rw [bitsI_zero]
        exact World.ownsRow_lit (base := wd.heap.size) (e := 2) (size := 1) wn #[] 0 hbn.size (by unfold maxLen; omega) rfl
      clear hr1
      obtain ⟨vs, h1o, hoX, h3o, hrX⟩ := hpwn.ex
      have hdX := hpwn.done
      have hlX : ((List.range k).map (rowM a left x ⟨x, fb, fc⟩)).length = k := by simp
      have hrx : Apart (Value.slice (some ⟨wn.heap.size, 0, none⟩) 0 0) (Value.slice oa om oc) := fun b hb hb2 => by have h5 := (fun b (hb : _) => Own.ge hr2 b hb) b hb; have h6 := (hoX.lt b hb2).2; have h7 := hol b hb2; omega
      have cX := (World.ownsRow.cellAt hbxn 0 (by omega)).trans (show _ = some (Value.slice oa om oc) from rfl)
      have fX := World.ownsRow.frozenAt hbxn 0
      have hBX : w.heap.size + 4 ≤ (wn.alloc (.cells #[] 2)).heap.size := by have := (Own.lt hbxn (w.heap.size + 1 + 1 + 1) (by simp [Value.ownBlock])).2; omega
      rw [hlX] at hoX
      go_wp2_with (at_builtin; refine wpList_append1b elRows rfl _ _ rfl hoX rfl (by first | rfl | simp) rfl rfl (by omega) hBX ?_; intro v' w8 hown8 hkept hmv; obtain ⟨va8, vc8, rfl⟩ := hown8.isSlice; have hbx8 := Own.kept hbxn hkept (fun b hb he => by simp [Value.ownBlock] at hb; have := (hoX.lt b he).1; omega); have c8 := (World.ownsRow.cellAt hbx8 0 (by omega)).trans (show _ = some (Value.slice oa om oc) from rfl); have f8 := World.ownsRow.frozenAt hbx8 0)
      have hpw8 := PartsW.more hdX h1o (by rw [hlX]; exact hoX) h3o hrX (p := rowM a left x ⟨x, fb, fc⟩ k) (by rw [HM.out]; exact (Own.weak hr2 hBd)) hrx (by simp) (by rw [hlX]; exact hown8) hkept hmv
      have hq8 := hkept.below hqn (by omega) (fun b hb => by have := (hoX.lt b hb).1; omega)
      have hset : ∀ b, b ≠ w.heap.size + 1 + 1 + 1 → (w8.setCell ⟨w.heap.size + 1 + 1 + 1, 0, none⟩ (Value.slice va8 (k + 1) vc8)).heap[b]? = w8.heap[b]? := fun b hb => Below.heap_setCell _ _ _ _ (by simpa using hb)
      have hob : ∀ b, (Value.slice oa om oc).ownBlock = some b → w.heap.size + 4 ≤ b := fun b hb => (hoX.lt b hb).1
      have hcl : ∀ j y (z : Value), y ≤ w.heap.size + 1 + 1 → (wn.alloc (.cells #[] 2)).cell? ⟨y, j, none⟩ = some z → (w8.setCell ⟨w.heap.size + 1 + 1 + 1, 0, none⟩ (Value.slice va8 (k + 1) vc8)).cell? ⟨y, j, none⟩ = some z := fun j y z hy h => (World.cell?_of_block (a := ⟨y, j, none⟩) ((hset y (by omega)).trans (hkept.2.2.2.2 y (cell_lt h) (fun e => by have := hob y e.symm; omega)))).trans h
      have hres8 := (Own.kept hresn hkept (fun b hb he => by simp [Value.ownBlock] at hb; have := hob b he; omega)).keep (w' := w8.setCell ⟨w.heap.size + 1 + 1 + 1, 0, none⟩ (Value.slice va8 (k + 1) vc8)) (fun b hb => hset b (by simp [Value.ownBlock] at hb; omega))
      go_roundw
      case rel => exact ⟨k + 1, Value.slice va8 (k + 1) vc8, by go_num, by omega, hbx8.stored 0 (Value.slice va8 (k + 1) vc8), (by rw [range_map_succ]; exact hpw8.keepB (fun b hb => hset b (by omega))), hq8.setCell (by simp; omega) _, hcl _ _ _ (by omega) cgn, hcl _ _ _ (by omega) c0n, hcl _ _ _ (by omega) c1n, hcl _ _ _ (by omega) c2n, hres8⟩
      case measure => simp [intOf]; omega
    have hb1 : ((k : Int) == (x : Int)) = false := by rw [beq_eq_false_iff_ne]; omega
    have hb1n : (k == x) = false := by rw [beq_eq_false_iff_ne]; exact hkx
    rcases hfc with hc | ⟨p, y, hb, hc, hpl, hyl, hpx, hyx, hpy⟩
    · have hb3 : ((k : Int) == fc) = false := by rw [beq_eq_false_iff_ne]; omega
      have hb4 : decide (0 ≤ fc) = false := by simp; omega
      have HM := Lib.hid (show rowM a left x ⟨x, fb, fc⟩ k = andN (mu0 a left k) (bit x) by
        have e1 : ¬ ((k : Int) = fb ∧ 0 ≤ fc) := by omega
        have e2 : ¬ (k : Int) = fc := by omega
        rw [rowM, if_neg hkx, hM]; simp only [e1, e2, if_false, Nat.or_zero])
      clear hM hkx hc
      by_cases hkb : (k : Int) = fb
      · have hb2 : ((k : Int) == fb) = true := by rw [beq_iff_eq]; exact hkb
        clear hkb
        obtain ⟨vs, h1o, hoX, h3o, hrX⟩ := hpwn.ex
        have hdX := hpwn.done
        have hlX : ((List.range k).map (rowM a left x ⟨x, fb, fc⟩)).length = k := by simp
        have hrx : Apart (Value.slice r1a r1n r1c) (Value.slice oa om oc) := fun b hb hb2 => by have h5 := (fun b (hb : _) => Own.ge hr1 b hb) b hb; have h6 := (hoX.lt b hb2).2; have h7 := hol b hb2; omega
        have cX := (World.ownsRow.cellAt hbxn 0 (by omega)).trans (show _ = some (Value.slice oa om oc) from rfl)
        have fX := World.ownsRow.frozenAt hbxn 0
        have hBX : w.heap.size + 4 ≤ wn.heap.size := by have := (Own.lt hbxn (w.heap.size + 1 + 1 + 1) (by simp [Value.ownBlock])).2; omega
        rw [hlX] at hoX
        go_wp2_with (at_builtin; refine wpList_append1b elRows rfl _ _ rfl hoX rfl (by first | rfl | simp) rfl rfl (by omega) hBX ?_; intro v' w8 hown8 hkept hmv; obtain ⟨va8, vc8, rfl⟩ := hown8.isSlice; have hbx8 := Own.kept hbxn hkept (fun b hb he => by simp [Value.ownBlock] at hb; have := (hoX.lt b he).1; omega); have c8 := (World.ownsRow.cellAt hbx8 0 (by omega)).trans (show _ = some (Value.slice oa om oc) from rfl); have f8 := World.ownsRow.frozenAt hbx8 0)
        have hpw8 := PartsW.more hdX h1o (by rw [hlX]; exact hoX) h3o hrX (p := rowM a left x ⟨x, fb, fc⟩ k) (by rw [HM.out]; exact (Own.weak hr1 (by omega))) hrx (by simp) (by rw [hlX]; exact hown8) hkept hmv
        have hq8 := hkept.below hqn (by omega) (fun b hb => by have := (hoX.lt b hb).1; omega)
        have hset : ∀ b, b ≠ w.heap.size + 1 + 1 + 1 → (w8.setCell ⟨w.heap.size + 1 + 1 + 1, 0, none⟩ (Value.slice va8 (k + 1) vc8)).heap[b]? = w8.heap[b]? := fun b hb => Below.heap_setCell _ _ _ _ (by simpa using hb)
        have hob : ∀ b, (Value.slice oa om oc).ownBlock = some b → w.heap.size + 4 ≤ b := fun b hb => (hoX.lt b hb).1
        have hcl : ∀ j y (z : Value), y ≤ w.heap.size + 1 + 1 → wn.cell? ⟨y, j, none⟩ = some z → (w8.setCell ⟨w.heap.size + 1 + 1 + 1, 0, none⟩ (Value.slice va8 (k + 1) vc8)).cell? ⟨y, j, none⟩ = some z := fun j y z hy h => (World.cell?_of_block (a := ⟨y, j, none⟩) ((hset y (by omega)).trans (hkept.2.2.2.2 y (cell_lt h) (fun e => by have := hob y e.symm; omega)))).trans h
        have hres8 := (Own.kept hresn hkept (fun b hb he => by simp [Value.ownBlock] at hb; have := hob b he; omega)).keep (w' := w8.setCell ⟨w.heap.size + 1 + 1 + 1, 0, none⟩ (Value.slice va8 (k + 1) vc8)) (fun b hb => hset b (by simp [Value.ownBlock] at hb; omega))
        go_roundw
        case rel => exact ⟨k + 1, Value.slice va8 (k + 1) vc8, by go_num, by omega, hbx8.stored 0 (Value.slice va8 (k + 1) vc8), (by rw [range_map_succ]; exact hpw8.keepB (fun b hb => hset b (by omega))), hq8.setCell (by simp; omega) _, hcl _ _ _ (by omega) cgn, hcl _ _ _ (by omega) c0n, hcl _ _ _ (by omega) c1n, hcl _ _ _ (by omega) c2n, hres8⟩
        case measure => simp [intOf]; omega
      · have hb2 : ((k : Int) == fb) = false := by rw [beq_eq_false_iff_ne]; exact hkb
        clear hkb
        obtain ⟨vs, h1o, hoX, h3o, hrX⟩ := hpwn.ex
        have hdX := hpwn.done
        have hlX : ((List.range k).map (rowM a left x ⟨x, fb, fc⟩)).length = k := by simp
        have hrx : Apart (Value.slice r1a r1n r1c) (Value.slice oa om oc) := fun b hb hb2 => by have h5 := (fun b (hb : _) => Own.ge hr1 b hb) b hb; have h6 := (hoX.lt b hb2).2; have h7 := hol b hb2; omega
        have cX := (World.ownsRow.cellAt hbxn 0 (by omega)).trans (show _ = some (Value.slice oa om oc) from rfl)
        have fX := World.ownsRow.frozenAt hbxn 0
        have hBX : w.heap.size + 4 ≤ wn.heap.size := by have := (Own.lt hbxn (w.heap.size + 1 + 1 + 1) (by simp [Value.ownBlock])).2; omega
        rw [hlX] at hoX
        go_wp2_with (at_builtin; refine wpList_append1b elRows rfl _ _ rfl hoX rfl (by first | rfl | simp) rfl rfl (by omega) hBX ?_; intro v' w8 hown8 hkept hmv; obtain ⟨va8, vc8, rfl⟩ := hown8.isSlice; have hbx8 := Own.kept hbxn hkept (fun b hb he => by simp [Value.ownBlock] at hb; have := (hoX.lt b he).1; omega); have c8 := (World.ownsRow.cellAt hbx8 0 (by omega)).trans (show _ = some (Value.slice oa om oc) from rfl); have f8 := World.ownsRow.frozenAt hbx8 0)
        have hpw8 := PartsW.more hdX h1o (by rw [hlX]; exact hoX) h3o hrX (p := rowM a left x ⟨x, fb, fc⟩ k) (by rw [HM.out]; exact (Own.weak hr1 (by omega))) hrx (by simp) (by rw [hlX]; exact hown8) hkept hmv
        have hq8 := hkept.below hqn (by omega) (fun b hb => by have := (hoX.lt b hb).1; omega)
        have hset : ∀ b, b ≠ w.heap.size + 1 + 1 + 1 → (w8.setCell ⟨w.heap.size + 1 + 1 + 1, 0, none⟩ (Value.slice va8 (k + 1) vc8)).heap[b]? = w8.heap[b]? := fun b hb => Below.heap_setCell _ _ _ _ (by simpa using hb)
        have hob : ∀ b, (Value.slice oa om oc).ownBlock = some b → w.heap.size + 4 ≤ b := fun b hb => (hoX.lt b hb).1
        have hcl : ∀ j y (z : Value), y ≤ w.heap.size + 1 + 1 → wn.cell? ⟨y, j, none⟩ = some z → (w8.setCell ⟨w.heap.size + 1 + 1 + 1, 0, none⟩ (Value.slice va8 (k + 1) vc8)).cell? ⟨y, j, none⟩ = some z := fun j y z hy h => (World.cell?_of_block (a := ⟨y, j, none⟩) ((hset y (by omega)).trans (hkept.2.2.2.2 y (cell_lt h) (fun e => by have := hob y e.symm; omega)))).trans h
        have hres8 := (Own.kept hresn hkept (fun b hb he => by simp [Value.ownBlock] at hb; have := hob b he; omega)).keep (w' := w8.setCell ⟨w.heap.size + 1 + 1 + 1, 0, none⟩ (Value.slice va8 (k + 1) vc8)) (fun b hb => hset b (by simp [Value.ownBlock] at hb; omega))
        go_roundw
        case rel => exact ⟨k + 1, Value.slice va8 (k + 1) vc8, by go_num, by omega, hbx8.stored 0 (Value.slice va8 (k + 1) vc8), (by rw [range_map_succ]; exact hpw8.keepB (fun b hb => hset b (by omega))), hq8.setCell (by simp; omega) _, hcl _ _ _ (by omega) cgn, hcl _ _ _ (by omega) c0n, hcl _ _ _ (by omega) c1n, hcl _ _ _ (by omega) c2n, hres8⟩
        case measure => simp [intOf]; omega
    · subst hb; subst hc
      have hpn := bit_lt_of hI.left hpl
      have hyn := bit_lt_of hI.left hyl
      have hb4 : decide ((0 : Int) ≤ (y : Int)) = true := by simp
      by_cases hkp : k = p
      · have hb2 : ((k : Int) == (p : Int)) = true := by rw [beq_iff_eq]; omega
        have hb2n : (k == p) = true := by rw [beq_iff_eq]; exact hkp
        have hb3 : ((k : Int) == (y : Int)) = false := by rw [beq_eq_false_iff_ne]; omega
        have hb3n : (k == y) = false := by rw [beq_eq_false_iff_ne]; omega
        have HM := Lib.hid (show rowM a left x ⟨x, (p : Int), (y : Int)⟩ k = andN (mu0 a left k) (bit x) ||| bit y by
          have e1 : ((k : Int) = (p : Int) ∧ (0 : Int) ≤ (y : Int)) := by omega
          have e2 : ¬ (k : Int) = (y : Int) := by omega
          rw [rowM, if_neg hkx, hM, if_pos e1, if_neg e2, Nat.or_zero, Int.toNat_natCast])
        clear hM hkx hkp
        have hin := intoB_apart (x := y) (Own.weak hr1 (show w.heap.size + 4 ≤ wd.heap.size by omega)) hBn hM32 (by omega)
        go_wp2_with fail
        (with_reducible refine hin.mono ?_)
        rintro e wk ⟨r2, rfl, hr2, hda, hbk⟩
        clear hin
        have hbxk := hbxn.below hbk (Nat.le_refl _)
        have hpwk := hpwn.below hbk (Nat.le_refl _)
        have hqk := hqn.trans (hbk.mono hqn.size)
        have hresk := hresn.below hbk (Nat.le_refl _)
        have cgk := (hbk.cell (cell_lt cgn)).trans cgn
        have c0k := (hbk.cell (cell_lt c0n)).trans c0n
        have c1k := (hbk.cell (cell_lt c1n)).trans c1n
        have c2k := (hbk.cell (cell_lt c2n)).trans c2n
        have hge2 : ∀ b, r2.ownBlock = some b → wd.heap.size ≤ b := fun b hb => by
          rcases hda with rfl | hda
          · exact Own.ge hr1 b hb
          · have := hda b hb; have := hbn.size; omega
        clear hbxn hpwn hqn cgn c0n c1n c2n hda hresn
        obtain ⟨r2a, r2n, r2c, rfl⟩ : ∃ a n c, r2 = .slice a n c := by
          obtain ⟨x1, x2, h3⟩ := Own.isSlice hr2
          exact ⟨_, _, _, h3⟩
        obtain ⟨vs, h1o, hoX, h3o, hrX⟩ := hpwk.ex
        have hdX := hpwk.done
        have hlX : ((List.range k).map (rowM a left x ⟨x, (p : Int), (y : Int)⟩)).length = k := by simp
        have hrx : Apart (Value.slice r2a r2n r2c) (Value.slice oa om oc) := fun b hb hb2 => by have h5 := hge2 b hb; have h6 := (hoX.lt b hb2).2; have h7 := hol b hb2; omega
        have cX := (World.ownsRow.cellAt hbxk 0 (by omega)).trans (show _ = some (Value.slice oa om oc) from rfl)
        have fX := World.ownsRow.frozenAt hbxk 0
        have hBX : w.heap.size + 4 ≤ wk.heap.size := by have := (Own.lt hbxk (w.heap.size + 1 + 1 + 1) (by simp [Value.ownBlock])).2; omega
        rw [hlX] at hoX
        go_wp2_with (at_builtin; refine wpList_append1b elRows rfl _ _ rfl hoX rfl (by first | rfl | simp) rfl rfl (by omega) hBX ?_; intro v' w8 hown8 hkept hmv; obtain ⟨va8, vc8, rfl⟩ := hown8.isSlice; have hbx8 := Own.kept hbxk hkept (fun b hb he => by simp [Value.ownBlock] at hb; have := (hoX.lt b he).1; omega); have c8 := (World.ownsRow.cellAt hbx8 0 (by omega)).trans (show _ = some (Value.slice oa om oc) from rfl); have f8 := World.ownsRow.frozenAt hbx8 0)
        have hpw8 := PartsW.more hdX h1o (by rw [hlX]; exact hoX) h3o hrX (p := rowM a left x ⟨x, (p : Int), (y : Int)⟩ k) (by rw [HM.out]; exact hr2) hrx (by simp) (by rw [hlX]; exact hown8) hkept hmv
        have hq8 := hkept.below hqk (by omega) (fun b hb => by have := (hoX.lt b hb).1; omega)
        have hset : ∀ b, b ≠ w.heap.size + 1 + 1 + 1 → (w8.setCell ⟨w.heap.size + 1 + 1 + 1, 0, none⟩ (Value.slice va8 (k + 1) vc8)).heap[b]? = w8.heap[b]? := fun b hb => Below.heap_setCell _ _ _ _ (by simpa using hb)
        have hob : ∀ b, (Value.slice oa om oc).ownBlock = some b → w.heap.size + 4 ≤ b := fun b hb => (hoX.lt b hb).1
        have hcl : ∀ j y (z : Value), y ≤ w.heap.size + 1 + 1 → wk.cell? ⟨y, j, none⟩ = some z → (w8.setCell ⟨w.heap.size + 1 + 1 + 1, 0, none⟩ (Value.slice va8 (k + 1) vc8)).cell? ⟨y, j, none⟩ = some z := fun j y z hy h => (World.cell?_of_block (a := ⟨y, j, none⟩) ((hset y (by omega)).trans (hkept.2.2.2.2 y (cell_lt h) (fun e => by have := hob y e.symm; omega)))).trans h
        have hres8 := (Own.kept hresk hkept (fun b hb he => by simp [Value.ownBlock] at hb; have := hob b he; omega)).keep (w' := w8.setCell ⟨w.heap.size + 1 + 1 + 1, 0, none⟩ (Value.slice va8 (k + 1) vc8)) (fun b hb => hset b (by simp [Value.ownBlock] at hb; omega))
        go_roundw
        case rel => exact ⟨k + 1, Value.slice va8 (k + 1) vc8, by go_num, by omega, hbx8.stored 0 (Value.slice va8 (k + 1) vc8), (by rw [range_map_succ]; exact hpw8.keepB (fun b hb => hset b (by omega))), hq8.setCell (by simp; omega) _, hcl _ _ _ (by omega) cgk, hcl _ _ _ (by omega) c0k, hcl _ _ _ (by omega) c1k, hcl _ _ _ (by omega) c2k, hres8⟩
        case measure => simp [intOf]; omega
      have hb2 : ((k : Int) == (p : Int)) = false := by rw [beq_eq_false_iff_ne]; omega
      have hb2n : (k == p) = false := by rw [beq_eq_false_iff_ne]; exact hkp
      by_cases hky : k = y
      · have hb3 : ((k : Int) == (y : Int)) = true := by rw [beq_iff_eq]; omega
        have hb3n : (k == y) = true := by rw [beq_iff_eq]; exact hky
        have HM := Lib.hid (show rowM a left x ⟨x, (p : Int), (y : Int)⟩ k = andN (mu0 a left k) (bit x) ||| bit p by
          have e1 : ¬ ((k : Int) = (p : Int) ∧ (0 : Int) ≤ (y : Int)) := by omega
          have e2 : (k : Int) = (y : Int) := by omega
          rw [rowM, if_neg hkx, hM, if_neg e1, if_pos e2, Nat.or_zero, Int.toNat_natCast])
        clear hM hkx hkp hky
        have hin := intoB_apart (x := p) (Own.weak hr1 (show w.heap.size + 4 ≤ wd.heap.size by omega)) hBn hM32 (by omega)
        go_wp2_with fail
        (with_reducible refine hin.mono ?_)
        rintro e wk ⟨r2, rfl, hr2, hda, hbk⟩
        clear hin
        have hbxk := hbxn.below hbk (Nat.le_refl _)
        have hpwk := hpwn.below hbk (Nat.le_refl _)
        have hqk := hqn.trans (hbk.mono hqn.size)
        have hresk := hresn.below hbk (Nat.le_refl _)
        have cgk := (hbk.cell (cell_lt cgn)).trans cgn
        have c0k := (hbk.cell (cell_lt c0n)).trans c0n
        have c1k := (hbk.cell (cell_lt c1n)).trans c1n
        have c2k := (hbk.cell (cell_lt c2n)).trans c2n
        have hge2 : ∀ b, r2.ownBlock = some b → wd.heap.size ≤ b := fun b hb => by
          rcases hda with rfl | hda
          · exact Own.ge hr1 b hb
          · have := hda b hb; have := hbn.size; omega
        clear hbxn hpwn hqn cgn c0n c1n c2n hda hresn
        obtain ⟨r2a, r2n, r2c, rfl⟩ : ∃ a n c, r2 = .slice a n c := by
          obtain ⟨x1, x2, h3⟩ := Own.isSlice hr2
          exact ⟨_, _, _, h3⟩
        obtain ⟨vs, h1o, hoX, h3o, hrX⟩ := hpwk.ex
        have hdX := hpwk.done
        have hlX : ((List.range k).map (rowM a left x ⟨x, (p : Int), (y : Int)⟩)).length = k := by simp
        have hrx : Apart (Value.slice r2a r2n r2c) (Value.slice oa om oc) := fun b hb hb2 => by have h5 := hge2 b hb; have h6 := (hoX.lt b hb2).2; have h7 := hol b hb2; omega
        have cX := (World.ownsRow.cellAt hbxk 0 (by omega)).trans (show _ = some (Value.slice oa om oc) from rfl)
        have fX := World.ownsRow.frozenAt hbxk 0
        have hBX : w.heap.size + 4 ≤ wk.heap.size := by have := (Own.lt hbxk (w.heap.size + 1 + 1 + 1) (by simp [Value.ownBlock])).2; omega
        rw [hlX] at hoX
        go_wp2_with (at_builtin; refine wpList_append1b elRows rfl _ _ rfl hoX rfl (by first | rfl | simp) rfl rfl (by omega) hBX ?_; intro v' w8 hown8 hkept hmv; obtain ⟨va8, vc8, rfl⟩ := hown8.isSlice; have hbx8 := Own.kept hbxk hkept (fun b hb he => by simp [Value.ownBlock] at hb; have := (hoX.lt b he).1; omega); have c8 := (World.ownsRow.cellAt hbx8 0 (by omega)).trans (show _ = some (Value.slice oa om oc) from rfl); have f8 := World.ownsRow.frozenAt hbx8 0)
        have hpw8 := PartsW.more hdX h1o (by rw [hlX]; exact hoX) h3o hrX (p := rowM a left x ⟨x, (p : Int), (y : Int)⟩ k) (by rw [HM.out]; exact hr2) hrx (by simp) (by rw [hlX]; exact hown8) hkept hmv
        have hq8 := hkept.below hqk (by omega) (fun b hb => by have := (hoX.lt b hb).1; omega)
        have hset : ∀ b, b ≠ w.heap.size + 1 + 1 + 1 → (w8.setCell ⟨w.heap.size + 1 + 1 + 1, 0, none⟩ (Value.slice va8 (k + 1) vc8)).heap[b]? = w8.heap[b]? := fun b hb => Below.heap_setCell _ _ _ _ (by simpa using hb)
        have hob : ∀ b, (Value.slice oa om oc).ownBlock = some b → w.heap.size + 4 ≤ b := fun b hb => (hoX.lt b hb).1
        have hcl : ∀ j y (z : Value), y ≤ w.heap.size + 1 + 1 → wk.cell? ⟨y, j, none⟩ = some z → (w8.setCell ⟨w.heap.size + 1 + 1 + 1, 0, none⟩ (Value.slice va8 (k + 1) vc8)).cell? ⟨y, j, none⟩ = some z := fun j y z hy h => (World.cell?_of_block (a := ⟨y, j, none⟩) ((hset y (by omega)).trans (hkept.2.2.2.2 y (cell_lt h) (fun e => by have := hob y e.symm; omega)))).trans h
        have hres8 := (Own.kept hresk hkept (fun b hb he => by simp [Value.ownBlock] at hb; have := hob b he; omega)).keep (w' := w8.setCell ⟨w.heap.size + 1 + 1 + 1, 0, none⟩ (Value.slice va8 (k + 1) vc8)) (fun b hb => hset b (by simp [Value.ownBlock] at hb; omega))
        go_roundw
        case rel => exact ⟨k + 1, Value.slice va8 (k + 1) vc8, by go_num, by omega, hbx8.stored 0 (Value.slice va8 (k + 1) vc8), (by rw [range_map_succ]; exact hpw8.keepB (fun b hb => hset b (by omega))), hq8.setCell (by simp; omega) _, hcl _ _ _ (by omega) cgk, hcl _ _ _ (by omega) c0k, hcl _ _ _ (by omega) c1k, hcl _ _ _ (by omega) c2k, hres8⟩
        case measure => simp [intOf]; omega
      · have hb3 : ((k : Int) == (y : Int)) = false := by rw [beq_eq_false_iff_ne]; omega
        have hb3n : (k == y) = false := by rw [beq_eq_false_iff_ne]; exact hky
        have HM := Lib.hid (show rowM a left x ⟨x, (p : Int), (y : Int)⟩ k = andN (mu0 a left k) (bit x) by
          have e1 : ¬ ((k : Int) = (p : Int) ∧ (0 : Int) ≤ (y : Int)) := by omega
          have e2 : ¬ (k : Int) = (y : Int) := by omega
          rw [rowM, if_neg hkx, hM]; simp only [e1, e2, if_false, Nat.or_zero])
        clear hM hkx hkp hky
        obtain ⟨vs, h1o, hoX, h3o, hrX⟩ := hpwn.ex
        have hdX := hpwn.done
        have hlX : ((List.range k).map (rowM a left x ⟨x, (p : Int), (y : Int)⟩)).length = k := by simp
        have hrx : Apart (Value.slice r1a r1n r1c) (Value.slice oa om oc) := fun b hb hb2 => by have h5 := (fun b (hb : _) => Own.ge hr1 b hb) b hb; have h6 := (hoX.lt b hb2).2; have h7 := hol b hb2; omega
        have cX := (World.ownsRow.cellAt hbxn 0 (by omega)).trans (show _ = some (Value.slice oa om oc) from rfl)
        have fX := World.ownsRow.frozenAt hbxn 0
        have hBX : w.heap.size + 4 ≤ wn.heap.size := by have := (Own.lt hbxn (w.heap.size + 1 + 1 + 1) (by simp [Value.ownBlock])).2; omega
        rw [hlX] at hoX
        go_wp2_with (at_builtin; refine wpList_append1b elRows rfl _ _ rfl hoX rfl (by first | rfl | simp) rfl rfl (by omega) hBX ?_; intro v' w8 hown8 hkept hmv; obtain ⟨va8, vc8, rfl⟩ := hown8.isSlice; have hbx8 := Own.kept hbxn hkept (fun b hb he => by simp [Value.ownBlock] at hb; have := (hoX.lt b he).1; omega); have c8 := (World.ownsRow.cellAt hbx8 0 (by omega)).trans (show _ = some (Value.slice oa om oc) from rfl); have f8 := World.ownsRow.frozenAt hbx8 0)
        have hpw8 := PartsW.more hdX h1o (by rw [hlX]; exact hoX) h3o hrX (p := rowM a left x ⟨x, (p : Int), (y : Int)⟩ k) (by rw [HM.out]; exact (Own.weak hr1 (by omega))) hrx (by simp) (by rw [hlX]; exact hown8) hkept hmv
        have hq8 := hkept.below hqn (by omega) (fun b hb => by have := (hoX.lt b hb).1; omega)
        have hset : ∀ b, b ≠ w.heap.size + 1 + 1 + 1 → (w8.setCell ⟨w.heap.size + 1 + 1 + 1, 0, none⟩ (Value.slice va8 (k + 1) vc8)).heap[b]? = w8.heap[b]? := fun b hb => Below.heap_setCell _ _ _ _ (by simpa using hb)
        have hob : ∀ b, (Value.slice oa om oc).ownBlock = some b → w.heap.size + 4 ≤ b := fun b hb => (hoX.lt b hb).1
        have hcl : ∀ j y (z : Value), y ≤ w.heap.size + 1 + 1 → wn.cell? ⟨y, j, none⟩ = some z → (w8.setCell ⟨w.heap.size + 1 + 1 + 1, 0, none⟩ (Value.slice va8 (k + 1) vc8)).cell? ⟨y, j, none⟩ = some z := fun j y z hy h => (World.cell?_of_block (a := ⟨y, j, none⟩) ((hset y (by omega)).trans (hkept.2.2.2.2 y (cell_lt h) (fun e => by have := hob y e.symm; omega)))).trans h
        have hres8 := (Own.kept hresn hkept (fun b hb he => by simp [Value.ownBlock] at hb; have := hob b he; omega)).keep (w' := w8.setCell ⟨w.heap.size + 1 + 1 + 1, 0, none⟩ (Value.slice va8 (k + 1) vc8)) (fun b hb => hset b (by simp [Value.ownBlock] at hb; omega))
        go_roundw
        case rel => exact ⟨k + 1, Value.slice va8 (k + 1) vc8, by go_num, by omega, hbx8.stored 0 (Value.slice va8 (k + 1) vc8), (by rw [range_map_succ]; exact hpw8.keepB (fun b hb => hset b (by omega))), hq8.setCell (by simp; omega) _, hcl _ _ _ (by omega) cgn, hcl _ _ _ (by omega) c0n, hcl _ _ _ (by omega) c1n, hcl _ _ _ (by omega) c2n, hres8⟩
        case measure => simp [intOf]; omega
end Go.Proofs.YtfccpencgengaaaDoor
