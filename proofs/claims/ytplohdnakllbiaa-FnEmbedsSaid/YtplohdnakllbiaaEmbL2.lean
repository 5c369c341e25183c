/- The law of embeddings: the walk. -/
import Derived.Test.YtplohdnakllbiaaEmbL
import Derived.Test.YtplohdnakllbiaaSmall
namespace Go.Proofs.Ytplohdnakllbiaa
open Go.RowKit
set_option maxHeartbeats 4000000 in
set_option maxRecDepth 100000 in
theorem drawEmbedsIn_any {S : Nat → Prop} {v : Value} {bs : List Int} {w : World} (hv : SlI S w .u8 v bs) (hr : ∀ x ∈ bs, 0 ≤ x ∧ x < 256) (hS : ∀ b, S b → b < w.heap.size) (hl : bs.length ≤ 4096) :
    Calls Try.prog 15 #[v] w fun e w' => ∃ u1 p u2 g, e = .returned (.tuple #[.agg #[u1], .agg #[u2]]) ∧ SlR (fun b => w.heap.size ≤ b ∧ b < w'.heap.size) w' u1 p ∧ SlR (fun b => w.heap.size ≤ b ∧ b < w'.heap.size) w' u2 g ∧ Below w.heap.size w w' := by
  have hb0 : Below w.heap.size w ((w.alloc (.cells #[.slice none 0 0] 31)).alloc (.cells #[.slice none 0 0] 31)) := ((Below.refl _ _).alloc (Nat.le_refl _) _).alloc (by simp) _
  have hx0 : Own ((w.alloc (.cells #[.slice none 0 0] 31)).alloc (.cells #[.slice none 0 0] 31)) w.heap.size 31 1 (.slice (some ⟨w.heap.size, 0, none⟩) 1 1) 1 [.slice none 0 0] := (own_new w w.heap.size 31 (.slice none 0 0) (Nat.le_refl _)).alloc _
  have hy0 := own_new (w.alloc (.cells #[.slice none 0 0] 31)) w.heap.size 31 (.slice none 0 0) (by simp)
  rw [show (w.alloc (.cells #[.slice none 0 0] 31)).heap.size = w.heap.size + 1 by simp] at hy0
  have hd0 : ((w.alloc (.cells #[.slice none 0 0] 31)).alloc (.cells #[.slice none 0 0] 31)).heap.size = w.heap.size + 2 := by simp
  have hnw := l1New_any (hv.below hb0 (Nat.le_refl _)) hr (fun b hb => by have := hS b hb; simp; omega) hl
  rw [hd0] at hnw
  have HD0 := Lib.hid hd0
  clear hd0
  go_enter Try.func15, Try.ntmps15
  go_wp2_with fail
  refine hnw.mono ?_
  rintro e w1 ⟨rfl, hC, hb1⟩
  have hq1 := hb0.trans (hb1.mono (by omega))
  have hx1 := hx0.below hb1 (by rw [HD0.out]; exact Nat.le_refl _)
  have hy1 := hy0.below hb1 (by rw [HD0.out]; exact Nat.le_refl _)
  have hd1 := hC.lt
  have hl4 := l4DrawTwo_any hC hl
  clear hnw hb0 hx0 hy0
  go_wp2_with fail
  refine hl4.mono ?_
  rintro e w2 ⟨u1, p, u2, g, rfl, hP, hG, hm⟩
  have hx2 := own1_kept hx1 hm.2 (by simp)
  have hy2 := own1_kept hy1 hm.2 (by simp)
  have hms := hm.size
  have hs1 := hq1.size
  have hq2 : Below w.heap.size w w2 := hm.2.below hq1 hs1 (fun b hb => by simp at hb; omega)
  obtain ⟨pa, pc, rfl⟩ := hP.slice
  obtain ⟨ga, gc, rfl⟩ := hG.slice
  obtain ⟨x1, x2, -, -⟩ := own_cell hx2
  obtain ⟨y1, y2, -, -⟩ := own_cell hy2
  clear hl4 hm hC
  go_wp2
  refine bodyPost_ret (v := .tuple #[.agg #[.slice pa p.length pc], .agg #[.slice ga g.length gc]]) (by simp [results, Try.results15, go_sem, x1, y1]) rfl ⟨_, p, _, g, rfl, ?_, ?_, (hq2.setCell (by simp) _).setCell (by simp) _⟩
  · exact (hP.keep fun b hb => (Below.heap_setCell _ _ _ _ (by simp; omega)).trans (Below.heap_setCell _ _ _ _ (by simp; omega))).weak fun b hb => ⟨by omega, by simp; omega⟩
  · exact (hG.keep fun b hb => (Below.heap_setCell _ _ _ _ (by simp; omega)).trans (Below.heap_setCell _ _ _ _ (by simp; omega))).weak fun b hb => ⟨by omega, by simp; omega⟩
set_option maxRecDepth 100000 in
set_option maxHeartbeats 8000000 in
theorem lawEmbeds_any {S : Nat → Prop} (v : Value) (bs : List Int) (w : World) (hv0 : SlI S w .u8 v bs) (hr : ∀ x ∈ bs, 0 ≤ x ∧ x < 256) :
    Calls Try.prog 4 #[v] w fun e w' => e = .returned (.bool true) ∧ Below w.heap.size w w' := by
  have hv := hv0.lowS
  have hbg := big_any hv
  by_cases hl : bs.length ≤ 4096
  case neg =>
    rw [decide_eq_true (show 4096 < bs.length by omega)] at hbg
    go_enter Try.func4, Try.ntmps4
    go_wp2_with (go_at_call 14; refine hbg.mono ?_; rintro e w' ⟨rfl, rfl⟩)
    go_ret
    exact ⟨rfl, Below.refl _ _⟩
  rw [decide_eq_false (show ¬ 4096 < bs.length by omega)] at hbg
  have hdr := drawEmbedsIn_any hv hr (fun b hb => hb) hl
  go_enter Try.func4, Try.ntmps4
  go_wp2_with (go_at_call 14; refine hbg.mono ?_; rintro e w' ⟨rfl, rfl⟩)
  refine hdr.mono ?_
  rintro e w2 ⟨u1, p, u2, g, rfl, hpv, hgv, hb2⟩
  clear hdr hbg
  obtain ⟨pa, pc, rfl⟩ := hpv.slice
  obtain ⟨ga, gc, rfl⟩ := hgv.slice
  have hb3 : Below w2.heap.size w2 ((w2.alloc (.cells #[.slice pa p.length pc] 31)).alloc (.cells #[.slice ga g.length gc] 31)) := ((Below.refl _ _).alloc (Nat.le_refl _) _).alloc (by simp) _
  have hq3 := hb2.trans (hb3.mono hb2.size)
  have hpv3 := hpv.below hb3 (Nat.le_refl _)
  have hgv3 := hgv.below hb3 (Nat.le_refl _)
  have hie := implEmbedsIn_any hpv3 hgv3
  clear hb3 hpv hgv
  go_wp2_with fail
  refine hie.mono ?_
  rintro e w4 ⟨l, rfl, hl4, hb4⟩
  have hq4 := hq3.trans (hb4.mono hq3.size)
  have hpv4 := hpv3.below hb4 (Nat.le_refl _)
  have hgv4 := hgv3.below hb4 (Nat.le_refl _)
  have cp4 : w4.cell? ⟨w2.heap.size, 0, none⟩ = some (.slice pa p.length pc) := (hb4.cell (p := ⟨w2.heap.size, 0, none⟩) (by simp <;> omega)).trans (by simp [go_sem])
  have cg4 : w4.cell? ⟨w2.heap.size + 1, 0, none⟩ = some (.slice ga g.length gc) := (hb4.cell (p := ⟨w2.heap.size + 1, 0, none⟩) (by simp <;> omega)).trans (by simp [go_sem])
  have hse := specEmbedsIn_any hpv4 hgv4
  have HIF := Lib.hid (fun W (hb : Below w4.heap.size w4 W) => implFreeOf_any (hgv4.below hb (Nat.le_refl _)) (hpv4.below hb (Nat.le_refl _)))
  have HSF := Lib.hid (fun W (hb : Below w4.heap.size w4 W) => specFreeOf_any (hgv4.below hb (Nat.le_refl _)) (hpv4.below hb (Nat.le_refl _)))
  have HEP := Lib.hid (fun r (h : embF p g = some r) => embP_of h)
  have hll : ((embF p g).getD []).length ≤ 1048576 := by
    cases hf : embF p g with
    | none => simp
    | some r => have := embP_of hf; have h1 := this.2.2.2.len; have h2 := this.2.1; simp; omega
  have hI := Own.ints (xs := natsI ((embF p g).getD [])) hl4 (by omega)
  obtain ⟨la, lc, rfl⟩ := hl4.isSlice
  clear hie hb4 hpv3 hgv3 hq3 hl4
  cases hf : embF p g with
  | none =>
    rw [hf] at hse hI
    have hif := HIF.out
    have hsf := HSF.out
    rw [hf] at hif hsf
    simp only [Option.isSome_none, Option.getD_none, List.length_nil] at hse hI hif hsf ⊢
    clear hf HIF HSF HEP hll
    go_wp2_with fail
    refine hse.mono ?_
    rintro e w5 ⟨l2, rfl, hl5, hb5⟩
    simp only [Option.isSome_none, Option.getD_none] at hl5 ⊢
    have hq5 := hq4.trans (hb5.mono hq4.size)
    have cp5 := (hb5.cell (cell_lt cp4)).trans cp4
    have cg5 := (hb5.cell (cell_lt cg4)).trans cg4
    have hlk := likeInts_any (hI.below hb5 (Nat.le_refl _)) hl5
    rw [decide_eq_true rfl] at hlk
    clear hse
    go_wp2_with fail
    refine hlk.mono ?_
    rintro e w6 ⟨rfl, hd6⟩
    have hb6 := hb5.trans ((hd6.below w5.heap.size).mono hb5.size)
    have hq6 := hq4.trans (hb6.mono hq4.size)
    have cp6 := (hd6.cell _).trans cp5
    have cg6 := (hd6.cell _).trans cg5
    clear hlk hd6 hl5
    generalize (gokB g && (smallB p && !false)) = fb at *
    have hfb : (fb == fb) = true := by simp
    go_wp2
    refine wp_region_held_drew (S := (fun w' => w'.cell? ⟨w2.heap.size, 0, none⟩ = some (.slice pa p.length pc) ∧ w'.cell? ⟨w2.heap.size + 1, 0, none⟩ = some (.slice ga g.length gc))) (by kernel_rfl) ?_ (fun hHeld => ?_)
    · first | exact ⟨‹_›, ‹_›⟩ | assumption | (simp [*, go_sem])
    have hqd := hb6.drew
    generalize w6.drew = wd at hqd hHeld ⊢
    have hHeld2 := hHeld
    obtain ⟨e0, e1⟩ := hHeld2
    refine wpAnyH_take (i := 0) (v := ?v1) (by simp only [List.getElem?_toArray, List.getElem?_cons_zero]; exact rfl) (by kernel_rfl) (by kernel_rfl) (by kernel_rfl) (by intro _ _ _ h; exact h) (Or.inl ⟨by rfl, ?y1⟩) hHeld ?_
    case y1 => (intro w hSw; (try dsimp only at hSw); go_simp; try (with_reducible rfl))
    try simp only [Act.put, List.setIfInBounds_toArray, List.set_cons_zero, List.set_cons_succ]
    refine wpAnyH_take (i := 1) (v := ?v2) (by simp only [List.getElem?_toArray, List.getElem?_cons_succ, List.getElem?_cons_zero]; exact rfl) (by kernel_rfl) (by kernel_rfl) (by kernel_rfl) (by intro _ _ _ h; exact h) (Or.inl ⟨by rfl, ?y2⟩) hHeld ?_
    case y2 => (intro w hSw; (try dsimp only at hSw); go_simp; try (with_reducible rfl))
    try simp only [Act.put, List.setIfInBounds_toArray, List.set_cons_zero, List.set_cons_succ]
    refine wpAnyH_take (i := 2) (v := ?v3) (by simp only [List.getElem?_toArray, List.getElem?_cons_succ, List.getElem?_cons_zero]; exact rfl) (by kernel_rfl) (by kernel_rfl) (by kernel_rfl) (by intro _ _ _ h; exact h) (Or.inl ⟨by rfl, ?y3⟩) hHeld ?_
    case y3 => (intro w hSw; (try dsimp only at hSw); go_simp; try (with_reducible rfl))
    try simp only [Act.put, List.setIfInBounds_toArray, List.set_cons_zero, List.set_cons_succ]
    refine wpAnyH_take (i := 3) (v := ?v4) (by simp only [List.getElem?_toArray, List.getElem?_cons_succ, List.getElem?_cons_zero]; exact rfl) (by kernel_rfl) (by kernel_rfl) (by kernel_rfl) (by intro _ _ _ h; exact h) (Or.inl ⟨by rfl, ?y4⟩) hHeld ?_
    case y4 => (intro w hSw; (try dsimp only at hSw); go_simp; try (with_reducible rfl))
    try simp only [Act.put, List.setIfInBounds_toArray, List.set_cons_zero, List.set_cons_succ]
    refine wpAnyH_take (i := 4) (v := ?v5) (by simp only [List.getElem?_toArray, List.getElem?_cons_succ, List.getElem?_cons_zero]; exact rfl) (by kernel_rfl) (by kernel_rfl) (by kernel_rfl) (by intro _ _ _ h; exact h) (Or.inl ⟨by rfl, ?y5⟩) hHeld ?_
    case y5 => (intro w hSw; (try dsimp only at hSw); go_simp; try (with_reducible rfl))
    try simp only [Act.put, List.setIfInBounds_toArray, List.set_cons_zero, List.set_cons_succ]
    refine wpAnyH_take (i := 5) (v := ?v6) (by simp only [List.getElem?_toArray, List.getElem?_cons_succ, List.getElem?_cons_zero]; exact rfl) (by kernel_rfl) (by kernel_rfl) (by kernel_rfl) (by intro _ _ _ h; exact h) (Or.inl ⟨by rfl, ?y6⟩) hHeld ?_
    case y6 => (intro w hSw; (try dsimp only at hSw); go_simp; try (with_reducible rfl))
    try simp only [Act.put, List.setIfInBounds_toArray, List.set_cons_zero, List.set_cons_succ]
    refine wpAnyH_take (i := 7) (v := ?v7) (by simp only [List.getElem?_toArray, List.getElem?_cons_succ, List.getElem?_cons_zero]; exact rfl) (by kernel_rfl) (by kernel_rfl) (by kernel_rfl) (by intro _ _ _ h; exact h) (Or.inl ⟨by rfl, ?y7⟩) hHeld ?_
    case y7 => (intro w hSw; (try dsimp only at hSw); go_simp; try (with_reducible rfl))
    try simp only [Act.put, List.setIfInBounds_toArray, List.set_cons_zero, List.set_cons_succ]
    refine wpAnyH_take (i := 8) (v := ?v8) (by simp only [List.getElem?_toArray, List.getElem?_cons_succ, List.getElem?_cons_zero]; exact rfl) (by kernel_rfl) (by kernel_rfl) (by kernel_rfl) (by intro _ _ _ h; exact h) (Or.inl ⟨by rfl, ?y8⟩) hHeld ?_
    case y8 => (intro w hSw; (try dsimp only at hSw); go_simp; try (with_reducible rfl))
    try simp only [Act.put, List.setIfInBounds_toArray, List.set_cons_zero, List.set_cons_succ]
    refine wpAnyH_ready (rs := [6]) (by kernel_rfl) (by simp) ?_
    refine AllReadyH.cons (by simp only [List.getElem?_toArray, List.getElem?_cons_succ, List.getElem?_cons_zero]; exact rfl) (fun K hK => ?_) AllReadyH.nil
    go_simp
    refine (hif _ hqd).mono ?_
    rintro e wn ⟨rfl, hbn⟩
    replace hqd := hqd.trans (hbn.mono hqd.size)
    replace e0 := (hbn.cell (cell_lt e0)).trans e0
    replace e1 := (hbn.cell (cell_lt e1)).trans e1
    clear hbn
    obtain ⟨wd, rfl⟩ : ∃ wx : World, wx = wn := ⟨_, rfl⟩
    try dsimp only
    refine hK.out _ _ ?h10 (fun hHeld => ?_)
    case h10 => first | exact ⟨‹_›, ‹_›⟩ | assumption | (simp [*, go_sem])
    clear hK K
    try simp only [Act.put, List.setIfInBounds_toArray, List.set_cons_zero, List.set_cons_succ]
    refine wpAnyH_ready (rs := [9]) (by kernel_rfl) (by simp) ?_
    refine AllReadyH.cons (by simp only [List.getElem?_toArray, List.getElem?_cons_succ, List.getElem?_cons_zero]; exact rfl) (fun K hK => ?_) AllReadyH.nil
    go_simp
    refine (hsf _ hqd).mono ?_
    rintro e wn ⟨rfl, hbn⟩
    replace hqd := hqd.trans (hbn.mono hqd.size)
    replace e0 := (hbn.cell (cell_lt e0)).trans e0
    replace e1 := (hbn.cell (cell_lt e1)).trans e1
    clear hbn
    obtain ⟨wd, rfl⟩ : ∃ wx : World, wx = wn := ⟨_, rfl⟩
    try dsimp only
    refine hK.out _ _ ?h12 (fun hHeld => ?_)
    case h12 => first | exact ⟨‹_›, ‹_›⟩ | assumption | (simp [*, go_sem])
    clear hK K
    try simp only [Act.put, List.setIfInBounds_toArray, List.set_cons_zero, List.set_cons_succ]
    refine wpAnyH_take (i := 10) (v := ?v13) (by simp only [List.getElem?_toArray, List.getElem?_cons_succ, List.getElem?_cons_zero]; exact rfl) (by kernel_rfl) (by kernel_rfl) (by kernel_rfl) (by intro _ _ _ h; exact h) (Or.inl ⟨by rfl, ?y13⟩) hHeld ?_
    case y13 => (intro w hSw; (try dsimp only at hSw); go_simp; try (with_reducible rfl))
    try simp only [Act.put, List.setIfInBounds_toArray, List.set_cons_zero, List.set_cons_succ]
    refine wpAnyH_take (i := 11) (v := ?v14) (by simp only [List.getElem?_toArray, List.getElem?_cons_succ, List.getElem?_cons_zero]; exact rfl) (by kernel_rfl) (by kernel_rfl) (by kernel_rfl) (by intro _ _ _ h; exact h) (Or.inl ⟨by rfl, ?y14⟩) hHeld ?_
    case y14 => (intro w hSw; (try dsimp only at hSw); go_simp; try (with_reducible rfl))
    try simp only [Act.put, List.setIfInBounds_toArray, List.set_cons_zero, List.set_cons_succ]
    refine wpAnyH_take (i := 12) (v := ?v15) (by simp only [List.getElem?_toArray, List.getElem?_cons_succ, List.getElem?_cons_zero]; exact rfl) (by kernel_rfl) (by kernel_rfl) (by kernel_rfl) (by intro _ _ _ h; exact h) (Or.inl ⟨by rfl, ?y15⟩) hHeld ?_
    case y15 => (intro w hSw; (try dsimp only at hSw); go_simp; try (with_reducible rfl))
    try simp only [Act.put, List.setIfInBounds_toArray, List.set_cons_zero, List.set_cons_succ]
    refine wpAnyH_done (by kernel_rfl) ?_ _
    go_wp2
    go_ret
    exact ⟨rfl, hq4.trans (hqd.mono hq4.size)⟩
  | some r =>
    obtain ⟨hgp, hp8, hgg, hE⟩ := HEP.out r hf
    rw [hf] at hse hI
    have hif := HIF.out
    rw [hf] at hif
    simp only [Option.isSome_some, Option.getD_some] at hse hI hif ⊢
    have hrl := hE.len
    have HE := Lib.hid hE
    have HRL := Lib.hid hrl
    have hg0 : (gokB g && (smallB p && !true)) = false := by simp
    rw [hg0] at hif
    obtain ⟨lb, lo, lcap, hle, hlc⟩ := hI.at_
    have hp1 := hgp.lo
    rw [natsI_len, hrl] at hle
    have hle := hle (by omega)
    rw [hrl]
    rw [hrl] at hI
    simp only [Value.slice.injEq] at hle
    obtain ⟨rfl, -, rfl⟩ := hle
    have hlc' : ∀ i, i < p.length → w4.cell? ⟨lb, lo + i, none⟩ = some (.int .i64 ((r.getD i 0 : Nat) : Int)) := fun i hi => by
      rw [hlc i (by rw [natsI_len, HRL.out]; exact hi), natsI_get]
      simp [show i < r.length by rw [HRL.out]; exact hi]
    have HLC := Lib.hid hlc'
    have hedp := fun (W : World) (hb : Below w4.heap.size w4 W) (x y : Nat) (hx : x < p.length) (hy : y < p.length) => edgeIn_any (x := x) (y := y) hgp (hpv4.below hb (Nat.le_refl _)) hx hy
    have hedg := fun (W : World) (hb : Below w4.heap.size w4 W) (x y : Nat) (hx : x < g.length) (hy : y < g.length) => edgeIn_any (x := x) (y := y) hgg (hgv4.below hb (Nat.le_refl _)) hx hy
    have HEDP := Lib.hid hedp
    have HEDG := Lib.hid hedg
    have HIF2 := Lib.hid hif
    clear hf HIF HSF HEP hll hlc hlc' hE hrl hg0 hedp hedg hif
    go_wp2_with fail
    refine hse.mono ?_
    rintro e w5 ⟨l2, rfl, hl5, hb5⟩
    simp only [Option.isSome_some, Option.getD_some] at hl5 ⊢
    have hq5 := hq4.trans (hb5.mono hq4.size)
    have cp5 := (hb5.cell (cell_lt cp4)).trans cp4
    have cg5 := (hb5.cell (cell_lt cg4)).trans cg4
    have hlk := likeInts_any (hI.below hb5 (Nat.le_refl _)) hl5
    rw [decide_eq_true rfl] at hlk
    clear hse
    go_wp2_with fail
    refine hlk.mono ?_
    rintro e w6 ⟨rfl, hd6⟩
    have hb6 := hb5.trans ((hd6.below w5.heap.size).mono hb5.size)
    have cp6 := (hd6.cell _).trans cp5
    have cg6 := (hd6.cell _).trans cg5
    clear hlk hd6 hl5 hq5 cp5 cg5 hI hb5
    go_wp2
    go_loopw [9, 10] (fun iv _ wr => ∃ i : Nat, i ≤ p.length ∧ iv = .int .i64 i ∧ Below w4.heap.size w4 wr) (fun iv _ _ => p.length - (intOf iv).toNat)
    case atStart => exact ⟨0, by omega, rfl, hb6⟩
    case round =>
      clear hb6 cp6 cg6
      obtain ⟨i, hi, rfl, hqi⟩ := hrel
      obtain ⟨wi, rfl⟩ : ∃ wx : World, wx = wr := ⟨_, rfl⟩
      by_cases hip : i < p.length
      case neg =>
        have cpi := (hqi.cell (cell_lt cp4)).trans cp4
        have cgi := (hqi.cell (cell_lt cg4)).trans cg4
        have hif := HIF2.out _ hqi
        go_wp2_with fail
        refine hif.mono ?_
        rintro e w7 ⟨rfl, hb7⟩
        go_wp2
        go_ret
        exact ⟨rfl, hq4.trans ((hqi.trans (hb7.mono hqi.size)).mono hq4.size)⟩
      go_wp2
      go_loopw [10] (fun kv wr => ∃ k : Nat, k ≤ p.length ∧ kv = .int .i64 k ∧ Below w4.heap.size w4 wr) (fun kv _ => p.length - (intOf kv).toNat)
      case atStart => exact ⟨0, by omega, rfl, hqi⟩
      case round =>
        clear hqi
        obtain ⟨k, hk, rfl, hqi⟩ := hrel
        obtain ⟨wi, rfl⟩ : ∃ wx : World, wx = wr := ⟨_, rfl⟩
        by_cases hkp : k < p.length
        case neg =>
          go_wp2
          go_roundw
          case rel => exact ⟨i + 1, by omega, by go_num, hqi⟩
          case measure => simp [intOf]; omega
        have cpi := (hqi.cell (cell_lt cp4)).trans cp4
        have cgi := (hqi.cell (cell_lt cg4)).trans cg4
        have d1 := HLC.out i hip
        have d1 := (hqi.cell (cell_lt d1)).trans d1
        have d2 := HLC.out k hkp
        have d2 := (hqi.cell (cell_lt d2)).trans d2
        have hri := HE.out.lt i (by rw [HRL.out]; exact hip)
        have hrk := HE.out.lt k (by rw [HRL.out]; exact hkp)
        have hpr := HE.out.pair i k (by rw [HRL.out]; exact hip) (by rw [HRL.out]; exact hkp)
        have hed1 := fun (W : World) (hb : Below w4.heap.size w4 W) => HEDP.out W hb i k hip hkp
        have hed2 := fun (W : World) (hb : Below w4.heap.size w4 W) => HEDG.out W hb _ _ hri hrk
        rw [hpr] at hed1
        generalize decide (((r.getD k 0 : Nat) : Int) ∈ g.getD (r.getD i 0) []) = bb at *
        have hbb : (bb != bb) = false := by cases bb <;> rfl
        generalize r.getD i 0 = x at *
        generalize r.getD k 0 = y at *
        have hipi : (i : Int) < p.length := by omega
        have hkpi : (k : Int) < p.length := by omega
        clear hpr hri hrk
        go_wp2
        refine wp_region_held_drew (S := (fun w' => w'.cell? ⟨w2.heap.size, 0, none⟩ = some (.slice pa p.length pc) ∧ w'.cell? ⟨w2.heap.size + 1, 0, none⟩ = some (.slice ga g.length gc) ∧ w'.cell? ⟨lb, lo + i, none⟩ = some (.int .i64 (x : Int)) ∧ w'.cell? ⟨lb, lo + k, none⟩ = some (.int .i64 (y : Int)))) (by kernel_rfl) ?_ (fun hHeld => ?_)
        · first | exact ⟨‹_›, ‹_›, ‹_›, ‹_›⟩ | assumption | (simp [*, go_sem])
        have hqd := hqi.drew
        generalize wi.drew = wd at hqd hHeld ⊢
        have hHeld2 := hHeld
        obtain ⟨e0, e1, e2, e3⟩ := hHeld2
        refine wpAnyH_take (i := 0) (v := ?v16) (by simp only [List.getElem?_toArray, List.getElem?_cons_zero]; exact rfl) (by kernel_rfl) (by kernel_rfl) (by kernel_rfl) (by intro _ _ _ h; exact h) (Or.inl ⟨by rfl, ?y16⟩) hHeld ?_
        case y16 => (intro w hSw; (try dsimp only at hSw); go_simp; try (with_reducible rfl))
        try simp only [Act.put, List.setIfInBounds_toArray, List.set_cons_zero, List.set_cons_succ]
        refine wpAnyH_take (i := 1) (v := ?v17) (by simp only [List.getElem?_toArray, List.getElem?_cons_succ, List.getElem?_cons_zero]; exact rfl) (by kernel_rfl) (by kernel_rfl) (by kernel_rfl) (by intro _ _ _ h; exact h) (Or.inl ⟨by rfl, ?y17⟩) hHeld ?_
        case y17 => (intro w hSw; (try dsimp only at hSw); go_simp; try (with_reducible rfl))
        try simp only [Act.put, List.setIfInBounds_toArray, List.set_cons_zero, List.set_cons_succ]
        refine wpAnyH_take (i := 2) (v := ?v18) (by simp only [List.getElem?_toArray, List.getElem?_cons_succ, List.getElem?_cons_zero]; exact rfl) (by kernel_rfl) (by kernel_rfl) (by kernel_rfl) (by intro _ _ _ h; exact h) (Or.inl ⟨by rfl, ?y18⟩) hHeld ?_
        case y18 => (intro w hSw; (try dsimp only at hSw); go_simp; try (with_reducible rfl))
        try simp only [Act.put, List.setIfInBounds_toArray, List.set_cons_zero, List.set_cons_succ]
        refine wpAnyH_take (i := 4) (v := ?v19) (by simp only [List.getElem?_toArray, List.getElem?_cons_succ, List.getElem?_cons_zero]; exact rfl) (by kernel_rfl) (by kernel_rfl) (by kernel_rfl) (by intro _ _ _ h; exact h) (Or.inl ⟨by rfl, ?y19⟩) hHeld ?_
        case y19 => (intro w hSw; (try dsimp only at hSw); go_simp; try (with_reducible rfl))
        try simp only [Act.put, List.setIfInBounds_toArray, List.set_cons_zero, List.set_cons_succ]
        refine wpAnyH_take (i := 5) (v := ?v20) (by simp only [List.getElem?_toArray, List.getElem?_cons_succ, List.getElem?_cons_zero]; exact rfl) (by kernel_rfl) (by kernel_rfl) (by kernel_rfl) (by intro _ _ _ h; exact h) (Or.inl ⟨by rfl, ?y20⟩) hHeld ?_
        case y20 => (intro w hSw; (try dsimp only at hSw); go_simp; try (with_reducible rfl))
        try simp only [Act.put, List.setIfInBounds_toArray, List.set_cons_zero, List.set_cons_succ]
        refine wpAnyH_take (i := 6) (v := ?v21) (by simp only [List.getElem?_toArray, List.getElem?_cons_succ, List.getElem?_cons_zero]; exact rfl) (by kernel_rfl) (by kernel_rfl) (by kernel_rfl) (by intro _ _ _ h; exact h) (Or.inl ⟨by rfl, ?y21⟩) hHeld ?_
        case y21 => (intro w hSw; (try dsimp only at hSw); go_simp; try (with_reducible rfl))
        try simp only [Act.put, List.setIfInBounds_toArray, List.set_cons_zero, List.set_cons_succ]
        refine wpAnyH_take (i := 7) (v := ?v22) (by simp only [List.getElem?_toArray, List.getElem?_cons_succ, List.getElem?_cons_zero]; exact rfl) (by kernel_rfl) (by kernel_rfl) (by kernel_rfl) (by intro _ _ _ h; exact h) (Or.inl ⟨by rfl, ?y22⟩) hHeld ?_
        case y22 => (intro w hSw; (try dsimp only at hSw); go_simp; try (with_reducible rfl))
        try simp only [Act.put, List.setIfInBounds_toArray, List.set_cons_zero, List.set_cons_succ]
        refine wpAnyH_take (i := 8) (v := ?v23) (by simp only [List.getElem?_toArray, List.getElem?_cons_succ, List.getElem?_cons_zero]; exact rfl) (by kernel_rfl) (by kernel_rfl) (by kernel_rfl) (by intro _ _ _ h; exact h) (Or.inl ⟨by rfl, ?y23⟩) hHeld ?_
        case y23 => (intro w hSw; (try dsimp only at hSw); go_simp; try (with_reducible rfl))
        try simp only [Act.put, List.setIfInBounds_toArray, List.set_cons_zero, List.set_cons_succ]
        refine wpAnyH_take (i := 9) (v := ?v24) (by simp only [List.getElem?_toArray, List.getElem?_cons_succ, List.getElem?_cons_zero]; exact rfl) (by kernel_rfl) (by kernel_rfl) (by kernel_rfl) (by intro _ _ _ h; exact h) (Or.inl ⟨by rfl, ?y24⟩) hHeld ?_
        case y24 => (intro w hSw; (try dsimp only at hSw); go_simp; try (with_reducible rfl))
        try simp only [Act.put, List.setIfInBounds_toArray, List.set_cons_zero, List.set_cons_succ]
        refine wpAnyH_take (i := 10) (v := ?v25) (by simp only [List.getElem?_toArray, List.getElem?_cons_succ, List.getElem?_cons_zero]; exact rfl) (by kernel_rfl) (by kernel_rfl) (by kernel_rfl) (by intro _ _ _ h; exact h) (Or.inl ⟨by rfl, ?y25⟩) hHeld ?_
        case y25 => (intro w hSw; (try dsimp only at hSw); go_simp; try (with_reducible rfl))
        try simp only [Act.put, List.setIfInBounds_toArray, List.set_cons_zero, List.set_cons_succ]
        refine wpAnyH_take (i := 11) (v := ?v26) (by simp only [List.getElem?_toArray, List.getElem?_cons_succ, List.getElem?_cons_zero]; exact rfl) (by kernel_rfl) (by kernel_rfl) (by kernel_rfl) (by intro _ _ _ h; exact h) (Or.inl ⟨by rfl, ?y26⟩) hHeld ?_
        case y26 => (intro w hSw; (try dsimp only at hSw); go_simp; try (with_reducible rfl))
        try simp only [Act.put, List.setIfInBounds_toArray, List.set_cons_zero, List.set_cons_succ]
        refine wpAnyH_take (i := 12) (v := ?v27) (by simp only [List.getElem?_toArray, List.getElem?_cons_succ, List.getElem?_cons_zero]; exact rfl) (by kernel_rfl) (by kernel_rfl) (by kernel_rfl) (by intro _ _ _ h; exact h) (Or.inl ⟨by rfl, ?y27⟩) hHeld ?_
        case y27 => (intro w hSw; (try dsimp only at hSw); go_simp; try (with_reducible rfl))
        try simp only [Act.put, List.setIfInBounds_toArray, List.set_cons_zero, List.set_cons_succ]
        refine wpAnyH_ready (rs := [3]) (by kernel_rfl) (by simp) ?_
        refine AllReadyH.cons (by simp only [List.getElem?_toArray, List.getElem?_cons_succ, List.getElem?_cons_zero]; exact rfl) (fun K hK => ?_) AllReadyH.nil
        go_simp
        refine (hed1 _ hqd).mono ?_
        rintro e wn ⟨rfl, hbn⟩
        replace hqd := hqd.trans (hbn.mono hqd.size)
        replace e0 := (hbn.cell (cell_lt e0)).trans e0
        replace e1 := (hbn.cell (cell_lt e1)).trans e1
        replace e2 := (hbn.cell (cell_lt e2)).trans e2
        replace e3 := (hbn.cell (cell_lt e3)).trans e3
        clear hbn
        obtain ⟨wd, rfl⟩ : ∃ wx : World, wx = wn := ⟨_, rfl⟩
        try dsimp only
        refine hK.out _ _ ?h29 (fun hHeld => ?_)
        case h29 => first | exact ⟨‹_›, ‹_›, ‹_›, ‹_›⟩ | assumption | (simp [*, go_sem])
        clear hK K
        try simp only [Act.put, List.setIfInBounds_toArray, List.set_cons_zero, List.set_cons_succ]
        refine wpAnyH_ready (rs := [13]) (by kernel_rfl) (by simp) ?_
        refine AllReadyH.cons (by simp only [List.getElem?_toArray, List.getElem?_cons_succ, List.getElem?_cons_zero]; exact rfl) (fun K hK => ?_) AllReadyH.nil
        go_simp
        refine (hed2 _ hqd).mono ?_
        rintro e wn ⟨rfl, hbn⟩
        replace hqd := hqd.trans (hbn.mono hqd.size)
        replace e0 := (hbn.cell (cell_lt e0)).trans e0
        replace e1 := (hbn.cell (cell_lt e1)).trans e1
        replace e2 := (hbn.cell (cell_lt e2)).trans e2
        replace e3 := (hbn.cell (cell_lt e3)).trans e3
        clear hbn
        obtain ⟨wd, rfl⟩ : ∃ wx : World, wx = wn := ⟨_, rfl⟩
        try dsimp only
        refine hK.out _ _ ?h31 (fun hHeld => ?_)
        case h31 => first | exact ⟨‹_›, ‹_›, ‹_›, ‹_›⟩ | assumption | (simp [*, go_sem])
        clear hK K
        try simp only [Act.put, List.setIfInBounds_toArray, List.set_cons_zero, List.set_cons_succ]
        refine wpAnyH_take (i := 14) (v := ?v32) (by simp only [List.getElem?_toArray, List.getElem?_cons_succ, List.getElem?_cons_zero]; exact rfl) (by kernel_rfl) (by kernel_rfl) (by kernel_rfl) (by intro _ _ _ h; exact h) (Or.inl ⟨by rfl, ?y32⟩) hHeld ?_
        case y32 => (intro w hSw; (try dsimp only at hSw); go_simp; try (with_reducible rfl))
        try simp only [Act.put, List.setIfInBounds_toArray, List.set_cons_zero, List.set_cons_succ]
        refine wpAnyH_done (by kernel_rfl) ?_ _
        go_wp2
        go_roundw
        case rel => exact ⟨k + 1, by omega, by go_num, hqd⟩
        case measure => simp [intOf]; omega
end Go.Proofs.Ytplohdnakllbiaa
