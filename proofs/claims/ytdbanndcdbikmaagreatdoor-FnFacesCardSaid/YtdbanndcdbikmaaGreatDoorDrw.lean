/- The reference's draw of a graph and a rotation system. -/
import Derived.Test.YtdbanndcdbikmaaGreatDoorDrwA
import Derived.Test.YtdbanndcdbikmaaGreatDoorEofS
import Derived.Test.YtdbanndcdbikmaaGreatDoorMir3
namespace Go.Proofs.YtdbanndcdbikmaaGreatDoor
open Go.RowKit
set_option maxRecDepth 100000 in
set_option maxHeartbeats 64000000 in
theorem l22Draw_any {d : Nat} {bs : List Int} {w : World} (hd : Cur w d bs) (hl : bs.length ≤ 4096) :
    Calls Tryz.prog 26 #[.pointer (some ⟨d, 0, none⟩)] w (Res22 w d bs) := by
  have hdl := hd.lt
  have hb0 : Below w.heap.size w ((w.alloc (.cells #[.slice none 0 0] 26)).alloc (.cells #[.slice none 0 0] 28)) := ((Below.refl _ _).alloc (Nat.le_refl _) _).alloc (by simp) _
  have hr0 := (own_new w w.heap.size 26 (.slice none 0 0) (Nat.le_refl _)).alloc (.cells #[.slice none 0 0] 28)
  have hr1 := own_new (w.alloc (.cells #[.slice none 0 0] 26)) w.heap.size 28 (.slice none 0 0) (by simp)
  rw [show (w.alloc (.cells #[.slice none 0 0] 26)).heap.size = w.heap.size + 1 by simp] at hr1
  have hm0 := Mv.start hd hb0 (Nat.le_refl _)
  have hdr := l1DrawAny_any hm0.1 hl
  have hz0 : ((w.alloc (.cells #[.slice none 0 0] 26)).alloc (.cells #[.slice none 0 0] 28)).heap.size = w.heap.size + 2 := by simp
  go_enter Tryz.func26, Tryz.ntmps26
  go_wp2_with fail
  refine hdr.mono ?_
  rintro e w1 ⟨u, g, rfl, hS, hgl, hgr, hm1⟩
  rw [hz0] at hS
  have hr0 := own1_kept hr0 hm1.2 (by simp; omega)
  have hr1 := own1_kept hr1 hm1.2 (by simp; omega)
  have hw1 := hm1.size
  rw [hz0] at hw1
  have hm1 := hm0.trans hm1
  obtain ⟨ua, uc, rfl⟩ := hS.slice
  have hb2 : Below w1.heap.size w1 (w1.alloc (.cells #[.slice ua g.length uc] 26)) := (Below.refl _ _).alloc (Nat.le_refl _) _
  have hm2 := hm1.below hb2 (Nat.le_refl _)
  replace hr0 := hr0.below hb2 (Nat.le_refl _)
  replace hr1 := hr1.below hb2 (Nat.le_refl _)
  have hbg := own_new w1 w.heap.size 26 (.slice ua g.length uc) (by omega)
  have hS2 := hS.below hb2 (Nat.le_refl _)
  have hgo := specGraphOk_any _ _ _ hS2
  clear hdr hm0 hm1 hS hb0
  go_wp2_with fail
  refine hgo.mono ?_
  rintro e w3 ⟨rfl, hb3⟩
  have hm3 := hm2.below hb3 (Nat.le_refl _)
  replace hr0 := hr0.below hb3 (Nat.le_refl _)
  replace hr1 := hr1.below hb3 (Nat.le_refl _)
  replace hbg := hbg.below hb3 (Nat.le_refl _)
  have hS3 := hS2.below hb3 (Nat.le_refl _)
  have hgbl := (own_cell hbg).2.2.2
  obtain ⟨gb, hgb⟩ : ∃ gb, gb = w1.heap.size := ⟨_, rfl⟩
  rw [← hgb] at hS3 hbg hgbl ⊢
  have hlo : w.heap.size + 2 ≤ gb := by omega
  clear hgo hm2 hS2 hb2 hb3 hgb
  cases hgk : gokB g with
  | false =>
    obtain ⟨c0, c1, -, -⟩ := own_cell hbg
    obtain ⟨p0, p1, -, -⟩ := own_cell hr0
    obtain ⟨q0, q1, -, -⟩ := own_cell hr1
    obtain ⟨f1, f2, f3⟩ := fin22 (xv := .slice none 0 0) (r := []) hm3 hdl hS3 (by omega) hgl ⟨none, 0, 0, 0, fun _ => undef, rfl, by simp, fun h => by simp at h, fun i hi => by simp at hi⟩ (by simp) (fun y hy => by cases hy) hr0 hr1 _ (.inl rfl)
    go_wp2
    refine bodyPost_ret (v := .tuple #[.agg #[.slice ua g.length uc], .agg #[.slice none 0 0]]) (by simp [results, Tryz.results26, go_sem, f1, f2]) rfl ?_
    exact f3
  | true =>
    have hem := specEmbeddingOfT_any hS3
    have hg := gokB_iff.1 hgk
    have hglo := hg.lo
    obtain ⟨gk, go, hua⟩ : ∃ gk go, ua = some ⟨gk, go, none⟩ := by
      obtain ⟨a', b', o', c', f', he', hl', ha', -⟩ := hS3
      simp only [Value.slice.injEq] at he'
      exact ⟨b', o', by rw [he'.1]; exact (ha' (by omega)).1⟩
    subst hua
    obtain ⟨c0, c1, -, -⟩ := own_cell hbg
    go_wp2_with fail
    refine hem.mono ?_
    rintro e w4 ⟨x, ok, r, rfl, hx, hok, hb4⟩
    have hz4 := hb4.size
    have hb5 : Below w4.heap.size w4 (w4.alloc (.cells #[x] 28)) := (Below.refl _ _).alloc (Nat.le_refl _) _
    have hD : D22 w (w4.alloc (.cells #[x] 28)) d bs gb w4.heap.size w4.heap.size (.slice (some ⟨gk, go, none⟩) g.length uc) g x r :=
      ⟨(hm3.below hb4 (Nat.le_refl _)).below hb5 (Nat.le_refl _), hdl, ⟨hlo, by omega⟩, (hr0.below hb4 (Nat.le_refl _)).below hb5 (Nat.le_refl _), (hr1.below hb4 (Nat.le_refl _)).below hb5 (Nat.le_refl _), (hbg.below hb4 (Nat.le_refl _)).below hb5 (Nat.le_refl _), own_new w4 w.heap.size 28 x (by omega), (hS3.below hb4 (Nat.le_refl _)).below hb5 (Nat.le_refl _),
        ((hx.weak (S' := fun b => gb + 1 ≤ b) fun b hb => by omega).ownR fun b hb => hb).below hb5 (Nat.le_refl _)⟩
    have hDn : D22 w (w4.alloc (.cells #[.slice none 0 0] 28)) d bs gb w4.heap.size (w4.alloc (.cells #[.slice none 0 0] 28)).heap.size (.slice (some ⟨gk, go, none⟩) g.length uc) g (.slice none 0 0) [] := by
      have hb5 : Below w4.heap.size w4 (w4.alloc (.cells #[.slice none 0 0] 28)) := (Below.refl _ _).alloc (Nat.le_refl _) _
      exact ⟨(hm3.below hb4 (Nat.le_refl _)).below hb5 (Nat.le_refl _), hdl, ⟨hlo, by omega⟩, (hr0.below hb4 (Nat.le_refl _)).below hb5 (Nat.le_refl _), (hr1.below hb4 (Nat.le_refl _)).below hb5 (Nat.le_refl _), (hbg.below hb4 (Nat.le_refl _)).below hb5 (Nat.le_refl _), own_new w4 w.heap.size 28 _ (by omega), (hS3.below hb4 (Nat.le_refl _)).below hb5 (Nat.le_refl _), ⟨[], rfl, Own.nil _ _ _ _, fun b hb => by simp [Value.ownBlock] at hb, ApartL.nil, fun i hi => by simp at hi⟩⟩
    have HGR := Lib.hid hgr
    obtain ⟨xa, xc, rfl⟩ := hx.slice
    generalize hW5 : w4.alloc (.cells #[.slice xa r.length xc] 28) = w5 at hD
    generalize hxb : w4.heap.size = xb at hD hDn
    have HW5 := Lib.hid hW5
    have HXB := Lib.hid hxb
    clear hem hb4 hb5 hz4 hx hr0 hr1 hbg hm3 hS3 hgbl c0 c1 hW5 hxb
    have hGN := Lib.hid hg
    cases ok with
    | false =>
      as_aux_lemma =>
        clear hD HW5
        have hg16 := hg.hi
        skip
        go_wp2
        rw [HXB.out]
        go_loopw [7] (fun iv wr => ∃ (v : Nat) (xv : Value) (r : List (List Int)), v ≤ g.length ∧ iv = .int .i64 (v : Int) ∧ D22 w wr d bs gb xb wr.heap.size (.slice (some ⟨gk, go, none⟩) g.length uc) g xv r ∧ r.length = v ∧ ∀ y ∈ r, y.length ≤ 40) (fun iv _ => g.length - (RowKit.intOf iv).toNat)
        case atStart => exact ⟨0, _, [], Nat.zero_le _, rfl, hDn, rfl, fun y hy => by cases hy⟩
        case round =>
          clear hDn
          obtain ⟨v, xv, r, hv, rfl, hD, hrl, hr40⟩ := hrel
          obtain ⟨wi, rfl⟩ : ∃ x : World, x = wr := ⟨_, rfl⟩
          obtain ⟨xa, xc, rfl⟩ := hD.ow.isSlice
          obtain ⟨c0, c1, -, -⟩ := own_cell hD.bg
          by_cases hvg : v < g.length
          case neg =>
            have hrk : Rk22 r := ⟨by omega, by omega, hr40⟩
            have hCW : wi.heap.size ≤ wi.heap.size := Nat.le_refl _
            have hvI : decide ((v : Int) < (g.length : Int)) = false := decide_eq_false (by omega)
            have hvN : decide (v < g.length) = false := decide_eq_false hvg
            clear hrl hr40
            as_aux_lemma =>
              obtain ⟨ab, hxa⟩ : ∃ ab, xa = some ⟨ab, 0, none⟩ := by
                obtain ⟨vs, -, h, -⟩ := hD.ow
                obtain ⟨b, c, e⟩ := own_some h hrk.1
                simp only [Value.slice.injEq] at e
                exact ⟨b, e.1⟩
              subst hxa
              have hD := hD.room hCW
              clear hCW
              obtain ⟨z0, z1, z2⟩ := hrk
              have hsr : SmallR r 1048576 := ⟨by omega, fun i hi _ => by have := z2 r[i] (List.getElem_mem hi); omega⟩
              have hL2 : ∀ y ∈ r, y.length ≤ 2000 := fun y hy => by have := z2 y hy; omega
              go_wp2_with fail
              skip
              refine (l1Once_any (n := 10) hD.mv.1 hl (by omega)).mono ?_
              rintro e wt ⟨b10, rfl, hmt⟩
              have hD := (hD.kept hmt).room hmt.size
              clear hmt
              cases b10 with
              | false =>
                as_aux_lemma =>
                  have hEt := hD.e22 (Nat.le_refl _) hsr
                  obtain ⟨k0, k1, -, -⟩ := own_cell hEt.bg
                  obtain ⟨k2, k3, -, -⟩ := own_cell hEt.bx
                  skip
                  go_wp2
                  refine wp_region_held_drew (S := (fun w' => w'.cell? ⟨gb, 0, none⟩ = some (.slice (some ⟨gk, go, none⟩) g.length uc) ∧ w'.cell? ⟨xb, 0, none⟩ = some (.slice (some ⟨ab, 0, none⟩) r.length xc))) (by kernel_rfl) ?_ (fun hHeld => ?_)
                  · first | exact ⟨‹_›, ‹_›⟩ | exact ⟨(World.cell?_setCell_other _ _ _ _ (fun e => hne2 (congrArg Addr.block e))).trans ((World.cell?_setCell_other _ _ _ _ (fun e => hne1 (congrArg Addr.block e))).trans hHl1), (World.cell?_setCell_other _ _ _ _ (fun e => hne4 (congrArg Addr.block e))).trans ((World.cell?_setCell_other _ _ _ _ (fun e => hne3 (congrArg Addr.block e))).trans hHl2)⟩ | (simp [*, go_sem])
                  have hEd := hEt.drawn (Drawn.refl _).drew
                  generalize World.drew _ = wd at hEd hHeld ⊢
                  have hfin := hEd.fin hgl (by omega) (hL2)
                  obtain ⟨p0, p1, -, -⟩ := own_cell hEd.r0
                  obtain ⟨q0, q1, -, -⟩ := own_cell hEd.r1
                  have hq0 : ∀ x : Value, (wd.setCell ⟨w.heap.size, 0, none⟩ x).cell? ⟨w.heap.size + 1, 0, none⟩ = some (.slice none 0 0) := fun x => (World.cell?_setCell_other _ _ _ _ (fun e => by have := congrArg Addr.block e; simp at this)).trans q0
                  have hp0 : ∀ x : Value, (wd.setCell ⟨w.heap.size + 1, 0, none⟩ x).cell? ⟨w.heap.size, 0, none⟩ = some (.slice none 0 0) := fun x => (World.cell?_setCell_other _ _ _ _ (fun e => by have := congrArg Addr.block e; simp at this)).trans p0
                  have hne1 : ¬ (w.heap.size = gb) := by have := hEd.lo; omega
                  have hne2 : ¬ (w.heap.size + 1 = gb) := by have := hEd.lo; omega
                  have hne3 : ¬ (w.heap.size = xb) := by have := hEd.lo; omega
                  have hne4 : ¬ (w.heap.size + 1 = xb) := by have := hEd.lo; omega
                  have hHl1 := hHeld.1
                  have hHl2 := hHeld.2
                  refine wpAnyH_take (i := 0) (v := ?v1) (by simp only [List.getElem?_toArray, List.getElem?_cons_zero]; exact rfl) (by kernel_rfl) (by kernel_rfl) (by kernel_rfl) (by intro _ _ _ h; exact h) (Or.inl ⟨by rfl, ?y1⟩) hHeld ?_
                  case y1 => (intro w hSw; (try dsimp only at hSw); go_simp; try (with_reducible rfl))
                  try simp only [Act.put, List.setIfInBounds_toArray, List.set_cons_zero, List.set_cons_succ]
                  refine wpAnyH_take (i := 1) (v := ?v2) (by simp only [List.getElem?_toArray, List.getElem?_cons_succ, List.getElem?_cons_zero]; exact rfl) (by kernel_rfl) (by kernel_rfl) (by kernel_rfl) (by intro _ _ _ h; exact h) (Or.inl ⟨by rfl, ?y2⟩) hHeld ?_
                  case y2 => (intro w hSw; (try dsimp only at hSw); go_simp; try (with_reducible rfl))
                  try simp only [Act.put, List.setIfInBounds_toArray, List.set_cons_zero, List.set_cons_succ]
                  refine wpAnyH_ready (rs := [2]) (by kernel_rfl) (by simp) ?_
                  refine AllReadyH.cons (by simp only [List.getElem?_toArray, List.getElem?_cons_succ, List.getElem?_cons_zero]; exact rfl) (fun K hK => ?_) AllReadyH.nil
                  go_simp
                  skip
                  try dsimp only
                  refine hK.out _ _ ?h4 (fun hHeld => ?_)
                  case h4 => first | exact ⟨‹_›, ‹_›⟩ | exact ⟨(World.cell?_setCell_other _ _ _ _ (fun e => hne2 (congrArg Addr.block e))).trans ((World.cell?_setCell_other _ _ _ _ (fun e => hne1 (congrArg Addr.block e))).trans hHl1), (World.cell?_setCell_other _ _ _ _ (fun e => hne4 (congrArg Addr.block e))).trans ((World.cell?_setCell_other _ _ _ _ (fun e => hne3 (congrArg Addr.block e))).trans hHl2)⟩ | (simp [*, go_sem])
                  clear hK K
                  try simp only [Act.put, List.setIfInBounds_toArray, List.set_cons_zero, List.set_cons_succ]
                  refine wpAnyH_ready (rs := [3]) (by kernel_rfl) (by simp) ?_
                  refine AllReadyH.cons (by simp only [List.getElem?_toArray, List.getElem?_cons_succ, List.getElem?_cons_zero]; exact rfl) (fun K hK => ?_) AllReadyH.nil
                  go_simp
                  skip
                  try dsimp only
                  refine hK.out _ _ ?h6 (fun hHeld => ?_)
                  case h6 => first | exact ⟨‹_›, ‹_›⟩ | exact ⟨(World.cell?_setCell_other _ _ _ _ (fun e => hne2 (congrArg Addr.block e))).trans ((World.cell?_setCell_other _ _ _ _ (fun e => hne1 (congrArg Addr.block e))).trans hHl1), (World.cell?_setCell_other _ _ _ _ (fun e => hne4 (congrArg Addr.block e))).trans ((World.cell?_setCell_other _ _ _ _ (fun e => hne3 (congrArg Addr.block e))).trans hHl2)⟩ | (simp [*, go_sem])
                  clear hK K
                  try simp only [Act.put, List.setIfInBounds_toArray, List.set_cons_zero, List.set_cons_succ]
                  refine wpAnyH_done (by kernel_rfl) ?_ _
                  obtain ⟨f1, f2, f3⟩ := hfin _ (by first | exact .inl rfl | exact .inr rfl)
                  go_wp2
                  exact bodyPost_ret (v := .tuple #[.agg #[.slice (some ⟨gk, go, none⟩) g.length uc], .agg #[.slice (some ⟨ab, 0, none⟩) r.length xc]]) (by simp [results, Tryz.results26, go_sem, f1, f2]) rfl f3
              | true =>
                obtain ⟨x0, x1, -, -⟩ := own_cell hD.bx
                have hbv := l1Below_any (n := (r.length : Int)) hD.mv.1 hl (by omega)
                go_wp2_with fail
                refine hbv.mono ?_
                rintro e wu ⟨v, rfl, hv, -, hmu⟩
                have hvl : v < r.length := by have := hv (by omega); omega
                have hD := (hD.kept hmu).room hmu.size
                clear hmu hbv hv x0 x1
                go_wp2_with fail
                refine (l1Below_any (n := 3) hD.mv.1 hl (by omega)).mono ?_
                rintro e wv ⟨q, rfl, hq, -, hmv⟩
                have hq3 : q < 3 := by have := hq (by omega); omega
                have hD := (hD.kept hmv).room hmv.size
                clear hmv hq
                obtain ⟨x0, x1, -, -⟩ := own_cell hD.bx
                obtain ⟨ra, rc, hc, hf, hrow, hab, hBab, hnew, hgrow⟩ := hD.ow.rowAny hvl (fun y hy => by have := z2 y hy; omega) (by omega)
                have hax : ab ≠ xb := fun e => by
                  obtain ⟨vs, -, h, -⟩ := hD.ow
                  exact own_type h hD.bx (by decide) xb (by rw [e]; rfl) rfl
                have hv1 : (v : Int) < r.length := by omega
                have hvr : r[v].length ≤ 40 := z2 _ (List.getElem_mem hvl)
                have hDhi := hD.hi
                have hDlo := hD.lo
                have hDlt := hD.lt
                by_cases h0 : q = 0
                · subst h0
                  clear hnew hgrow
                  go_wp2
                  refine wp_region_late (S := (fun w' => w'.cell? ⟨xb, 0, none⟩ = some (.slice (some ⟨ab, 0, none⟩) r.length xc) ∧ w'.cell? ⟨ab, v, none⟩ = some (.slice ra r[v].length rc))) (late := [13]) (by kernel_rfl) ?_ (fun hHeld => ?_)
                  · first | exact ⟨‹_›, ‹_›⟩ | (simp [*, go_sem])
                  obtain ⟨d0, d1⟩ := hHeld
                  have hDd := hD.drawn (Drawn.refl _).drew
                  have hszd : wv.drew.heap.size = wv.heap.size := rfl
                  generalize wv.drew = wd at d0 d1 hDd hszd ⊢
                  have hHeld : (fun w' => World.cell? w' ⟨xb, 0, none⟩ = some (.slice (some ⟨ab, 0, none⟩) r.length xc) ∧ World.cell? w' ⟨ab, v, none⟩ = some (.slice ra r[v].length rc)) wd := ⟨d0, d1⟩
                  refine wpLate_take (i := 0) (v := ?v7) (by simp only [List.getElem?_toArray, List.getElem?_cons_zero]; exact rfl) (by kernel_rfl) (by kernel_rfl) (by kernel_rfl) (by intro _ _ _ h; exact h) (Or.inl ⟨by rfl, ?y7⟩) ?_
                  case y7 => (intro w _; go_simp; try (with_reducible rfl))
                  try simp only [Act.put, List.setIfInBounds_toArray, List.set_cons_zero, List.set_cons_succ]
                  refine wpLate_load (i := 1) (v := ?v8) (by simp only [List.getElem?_toArray, List.getElem?_cons_succ, List.getElem?_cons_zero]; exact rfl) (by kernel_rfl) (by kernel_rfl) (by kernel_rfl) (by kernel_rfl) (by intro _ _ _ h; exact h) (Or.inl ⟨by rfl, ?y8⟩) hHeld ?_
                  case y8 => (intro w hSw; (try dsimp only at hSw); go_simp; try (with_reducible rfl))
                  try simp only [Act.put, List.setIfInBounds_toArray, List.set_cons_zero, List.set_cons_succ]
                  refine wpLate_take (i := 2) (v := ?v9) (by simp only [List.getElem?_toArray, List.getElem?_cons_succ, List.getElem?_cons_zero]; exact rfl) (by kernel_rfl) (by kernel_rfl) (by kernel_rfl) (by intro _ _ _ h; exact h) (Or.inl ⟨by rfl, ?y9⟩) ?_
                  case y9 => (intro w _; go_simp; try (with_reducible rfl))
                  try simp only [Act.put, List.setIfInBounds_toArray, List.set_cons_zero, List.set_cons_succ]
                  refine wpLate_take (i := 3) (v := ?v10) (by simp only [List.getElem?_toArray, List.getElem?_cons_succ, List.getElem?_cons_zero]; exact rfl) (by kernel_rfl) (by kernel_rfl) (by kernel_rfl) (by intro _ _ _ h; exact h) (Or.inl ⟨by rfl, ?y10⟩) ?_
                  case y10 => (intro w _; go_simp; try (with_reducible rfl))
                  try simp only [Act.put, List.setIfInBounds_toArray, List.set_cons_zero, List.set_cons_succ]
                  refine wpLate_load (i := 4) (v := ?v11) (by simp only [List.getElem?_toArray, List.getElem?_cons_succ, List.getElem?_cons_zero]; exact rfl) (by kernel_rfl) (by kernel_rfl) (by kernel_rfl) (by kernel_rfl) (by intro _ _ _ h; exact h) (Or.inl ⟨by rfl, ?y11⟩) hHeld ?_
                  case y11 => (intro w hSw; (try dsimp only at hSw); go_simp; try (with_reducible rfl))
                  try simp only [Act.put, List.setIfInBounds_toArray, List.set_cons_zero, List.set_cons_succ]
                  refine wpLate_take (i := 5) (v := ?v12) (by simp only [List.getElem?_toArray, List.getElem?_cons_succ, List.getElem?_cons_zero]; exact rfl) (by kernel_rfl) (by kernel_rfl) (by kernel_rfl) (by intro _ _ _ h; exact h) (Or.inl ⟨by rfl, ?y12⟩) ?_
                  case y12 => (intro w _; go_simp; try (with_reducible rfl))
                  try simp only [Act.put, List.setIfInBounds_toArray, List.set_cons_zero, List.set_cons_succ]
                  refine wpLate_take (i := 6) (v := ?v13) (by simp only [List.getElem?_toArray, List.getElem?_cons_succ, List.getElem?_cons_zero]; exact rfl) (by kernel_rfl) (by kernel_rfl) (by kernel_rfl) (by intro _ _ _ h; exact h) (Or.inl ⟨by rfl, ?y13⟩) ?_
                  case y13 => (intro w _; go_simp; try (with_reducible rfl))
                  try simp only [Act.put, List.setIfInBounds_toArray, List.set_cons_zero, List.set_cons_succ]
                  refine wpLate_load (i := 7) (v := ?v14) (by simp only [List.getElem?_toArray, List.getElem?_cons_succ, List.getElem?_cons_zero]; exact rfl) (by kernel_rfl) (by kernel_rfl) (by kernel_rfl) (by kernel_rfl) (by intro _ _ _ h; exact h) (Or.inl ⟨by rfl, ?y14⟩) hHeld ?_
                  case y14 => (intro w hSw; (try dsimp only at hSw); go_simp; try (with_reducible rfl))
                  try simp only [Act.put, List.setIfInBounds_toArray, List.set_cons_zero, List.set_cons_succ]
                  refine wpLate_take (i := 8) (v := ?v15) (by simp only [List.getElem?_toArray, List.getElem?_cons_succ, List.getElem?_cons_zero]; exact rfl) (by kernel_rfl) (by kernel_rfl) (by kernel_rfl) (by intro _ _ _ h; exact h) (Or.inl ⟨by rfl, ?y15⟩) ?_
                  case y15 => (intro w _; go_simp; try (with_reducible rfl))
                  try simp only [Act.put, List.setIfInBounds_toArray, List.set_cons_zero, List.set_cons_succ]
                  refine wpLate_one (i := 9) (by kernel_rfl) (by simp only [List.getElem?_toArray, List.getElem?_cons_succ, List.getElem?_cons_zero]; exact rfl) (by kernel_rfl) (fun K hK => ?_)
                  go_simp
                  refine (l1Num_any (most := 7) hDd.mv.1 hl (by omega)).mono ?_
                  rintro e wn ⟨y, rfl, hmn⟩
                  have hmns := hmn.size
                  have hDn := (hDd.kept hmn).room (C' := wn.heap.size) (by omega)
                  have d0 := (own_cell hDn.bx).1
                  have d1 := (hmn.cell (a := ⟨ab, v, none⟩) (by show ab < _; omega) (by show ab ≠ d; omega)).trans d1
                  try dsimp only
                  refine hK.out _ _ ?h17 (fun hHeld => ?_)
                  case h17 => first | exact ⟨‹_›, ‹_›⟩ | (simp [*, go_sem])
                  clear hK K
                  try simp only [Act.put, List.setIfInBounds_toArray, List.set_cons_zero, List.set_cons_succ]
                  refine wpLate_one (i := 10) (by kernel_rfl) (by simp only [List.getElem?_toArray, List.getElem?_cons_succ, List.getElem?_cons_zero]; exact rfl) (by kernel_rfl) (fun K hK => ?_)
                  go_simp
                  have hbb : Below wn.heap.size wn (wn.alloc (.cells #[.int .i64 y] 2)) := (Below.refl _ _).alloc (Nat.le_refl _) _
                  have d0b := (hbb.cell (cell_lt d0)).trans d0
                  have d1b := (hbb.cell (cell_lt d1)).trans d1
                  try dsimp only
                  refine hK.out _ _ ?h19 (fun hHeld => ?_)
                  case h19 => first | exact ⟨‹_›, ‹_›⟩ | (simp [*, go_sem])
                  clear hK K
                  try simp only [Act.put, List.setIfInBounds_toArray, List.set_cons_zero, List.set_cons_succ]
                  refine wpLate_one (i := 11) (by kernel_rfl) (by simp only [List.getElem?_toArray, List.getElem?_cons_succ, List.getElem?_cons_zero]; exact rfl) (by kernel_rfl) (fun K hK => ?_)
                  rw [if_pos (by rfl)]
                  obtain ⟨ra', rc', hc', hf', hown', hab', -, -, hgrow'⟩ := hDn.ow.rowAny hvl (fun y hy => by have := z2 y hy; omega) (by omega)
                  have hre := hc'.symm.trans d1
                  simp only [Option.some.injEq, Value.slice.injEq, true_and] at hre
                  obtain ⟨rfl, rfl⟩ := hre
                  refine opWp_append1S elI64 _ _ rfl hown' rfl rfl rfl rfl (by omega) (by have := hDn.hi; omega) ?_
                  intro rv w8 hown8 hkept hmv
                  obtain ⟨rva, rvc, rfl⟩ := hown8.isSlice
                  have hqb : ∀ b, (Value.slice ra' r[v].length rc').ownBlock = some b → gb + 1 ≤ b ∧ b ≠ xb := (fun b hb => ⟨hown'.ge b hb, fun e => own_type hown' hDn.bx (by decide) b hb (by rw [e]; rfl)⟩)
                  have hne3 : (Value.slice ra' r[v].length rc').ownBlock ≠ some ab := (fun e => (by obtain ⟨vs, -, hvs, -⟩ := hDn.ow; exact own_type hown' hvs (by decide) _ e rfl))
                  have ho8 := own1_kept hDn.bx hkept (fun e => (hqb _ e).2 rfl)
                  have d0 := (own_cell ho8).1
                  have hab8 := hkept.2.2.2.2 ab hab' (fun e => hne3 e.symm)
                  have d1 := (World.cell?_of_block (a := ⟨ab, v, none⟩) hab8).trans d1
                  have f1 := (World.frozen?_of_block (a := ⟨ab, v, none⟩) hab8).trans hf'
                  try dsimp only
                  refine hK.out _ _ ?h21 (fun hHeld => ?_)
                  case h21 => first | exact ⟨‹_›, ‹_›⟩ | (simp [*, go_sem])
                  clear hK K
                  try simp only [Act.put, List.setIfInBounds_toArray, List.set_cons_zero, List.set_cons_succ]
                  refine wpLate_take (i := 12) (v := ?v22) (by simp only [List.getElem?_toArray, List.getElem?_cons_succ, List.getElem?_cons_zero]; exact rfl) (by kernel_rfl) (by kernel_rfl) (by kernel_rfl) (by intro _ _ _ h; exact h) (Or.inl ⟨by rfl, ?y22⟩) ?_
                  case y22 => (intro w _; go_simp; try (with_reducible rfl))
                  try simp only [Act.put, List.setIfInBounds_toArray, List.set_cons_zero, List.set_cons_succ]
                  refine wpLate_late (i := 13) (by kernel_rfl) (by simp only [List.getElem?_toArray, List.getElem?_cons_succ, List.getElem?_cons_zero]; exact rfl) (by kernel_rfl) (fun K hK => ?_)
                  go_simp
                  skip
                  try dsimp only
                  refine hK.out _ _ ?_
                  clear hK K
                  try simp only [Act.put, List.setIfInBounds_toArray, List.set_cons_zero, List.set_cons_succ]
                  refine wpLate_done (by kernel_rfl) ?_ _
                  have hS := hgrow' (r := r[v] ++ [y]) hkept hmv (by simp) (by rw [List.length_append, List.map_append]; exact hown8) (by simp; omega)
                  have hE0 := hDn.row hkept hqb hBab hax hS
                  have hLa : (r.set v (r[v] ++ [y])).length ≤ 2000 := by rw [List.length_set]; omega
                  have hLb := set_rows (k := v) hL2 (show (r[v] ++ [y]).length ≤ 2000 by simp; omega)
                  clear hS hgrow' hown8 hkept hmv hDn hDd hD hown'
                  as_aux_lemma =>
                    have hEt := hE0
                    obtain ⟨k0, k1, -, -⟩ := own_cell hEt.bg
                    obtain ⟨k2, k3, -, -⟩ := own_cell hEt.bx
                    skip
                    go_wp2
                    refine wp_region_held_drew (S := (fun w' => w'.cell? ⟨gb, 0, none⟩ = some (.slice (some ⟨gk, go, none⟩) g.length uc) ∧ w'.cell? ⟨xb, 0, none⟩ = some (.slice (some ⟨ab, 0, none⟩) r.length xc))) (by kernel_rfl) ?_ (fun hHeld => ?_)
                    · first | exact ⟨‹_›, ‹_›⟩ | exact ⟨(World.cell?_setCell_other _ _ _ _ (fun e => hne2 (congrArg Addr.block e))).trans ((World.cell?_setCell_other _ _ _ _ (fun e => hne1 (congrArg Addr.block e))).trans hHl1), (World.cell?_setCell_other _ _ _ _ (fun e => hne4 (congrArg Addr.block e))).trans ((World.cell?_setCell_other _ _ _ _ (fun e => hne3 (congrArg Addr.block e))).trans hHl2)⟩ | (simp [*, go_sem])
                    have hEd := hEt.drawn (Drawn.refl _).drew
                    generalize World.drew _ = wd at hEd hHeld ⊢
                    have hfin := hEd.fin hgl (hLa) (hLb)
                    obtain ⟨p0, p1, -, -⟩ := own_cell hEd.r0
                    obtain ⟨q0, q1, -, -⟩ := own_cell hEd.r1
                    have hq0 : ∀ x : Value, (wd.setCell ⟨w.heap.size, 0, none⟩ x).cell? ⟨w.heap.size + 1, 0, none⟩ = some (.slice none 0 0) := fun x => (World.cell?_setCell_other _ _ _ _ (fun e => by have := congrArg Addr.block e; simp at this)).trans q0
                    have hp0 : ∀ x : Value, (wd.setCell ⟨w.heap.size + 1, 0, none⟩ x).cell? ⟨w.heap.size, 0, none⟩ = some (.slice none 0 0) := fun x => (World.cell?_setCell_other _ _ _ _ (fun e => by have := congrArg Addr.block e; simp at this)).trans p0
                    have hne1 : ¬ (w.heap.size = gb) := by have := hEd.lo; omega
                    have hne2 : ¬ (w.heap.size + 1 = gb) := by have := hEd.lo; omega
                    have hne3 : ¬ (w.heap.size = xb) := by have := hEd.lo; omega
                    have hne4 : ¬ (w.heap.size + 1 = xb) := by have := hEd.lo; omega
                    have hHl1 := hHeld.1
                    have hHl2 := hHeld.2
                    refine wpAnyH_take (i := 0) (v := ?v25) (by simp only [List.getElem?_toArray, List.getElem?_cons_zero]; exact rfl) (by kernel_rfl) (by kernel_rfl) (by kernel_rfl) (by intro _ _ _ h; exact h) (Or.inl ⟨by rfl, ?y25⟩) hHeld ?_
                    case y25 => (intro w hSw; (try dsimp only at hSw); go_simp; try (with_reducible rfl))
                    try simp only [Act.put, List.setIfInBounds_toArray, List.set_cons_zero, List.set_cons_succ]
                    refine wpAnyH_take (i := 1) (v := ?v26) (by simp only [List.getElem?_toArray, List.getElem?_cons_succ, List.getElem?_cons_zero]; exact rfl) (by kernel_rfl) (by kernel_rfl) (by kernel_rfl) (by intro _ _ _ h; exact h) (Or.inl ⟨by rfl, ?y26⟩) hHeld ?_
                    case y26 => (intro w hSw; (try dsimp only at hSw); go_simp; try (with_reducible rfl))
                    try simp only [Act.put, List.setIfInBounds_toArray, List.set_cons_zero, List.set_cons_succ]
                    refine wpAnyH_ready (rs := [2]) (by kernel_rfl) (by simp) ?_
                    refine AllReadyH.cons (by simp only [List.getElem?_toArray, List.getElem?_cons_succ, List.getElem?_cons_zero]; exact rfl) (fun K hK => ?_) AllReadyH.nil
                    go_simp
                    skip
                    try dsimp only
                    refine hK.out _ _ ?h28 (fun hHeld => ?_)
                    case h28 => first | exact ⟨‹_›, ‹_›⟩ | exact ⟨(World.cell?_setCell_other _ _ _ _ (fun e => hne2 (congrArg Addr.block e))).trans ((World.cell?_setCell_other _ _ _ _ (fun e => hne1 (congrArg Addr.block e))).trans hHl1), (World.cell?_setCell_other _ _ _ _ (fun e => hne4 (congrArg Addr.block e))).trans ((World.cell?_setCell_other _ _ _ _ (fun e => hne3 (congrArg Addr.block e))).trans hHl2)⟩ | (simp [*, go_sem])
                    clear hK K
                    try simp only [Act.put, List.setIfInBounds_toArray, List.set_cons_zero, List.set_cons_succ]
                    refine wpAnyH_ready (rs := [3]) (by kernel_rfl) (by simp) ?_
                    refine AllReadyH.cons (by simp only [List.getElem?_toArray, List.getElem?_cons_succ, List.getElem?_cons_zero]; exact rfl) (fun K hK => ?_) AllReadyH.nil
                    go_simp
                    skip
                    try dsimp only
                    refine hK.out _ _ ?h30 (fun hHeld => ?_)
                    case h30 => first | exact ⟨‹_›, ‹_›⟩ | exact ⟨(World.cell?_setCell_other _ _ _ _ (fun e => hne2 (congrArg Addr.block e))).trans ((World.cell?_setCell_other _ _ _ _ (fun e => hne1 (congrArg Addr.block e))).trans hHl1), (World.cell?_setCell_other _ _ _ _ (fun e => hne4 (congrArg Addr.block e))).trans ((World.cell?_setCell_other _ _ _ _ (fun e => hne3 (congrArg Addr.block e))).trans hHl2)⟩ | (simp [*, go_sem])
                    clear hK K
                    try simp only [Act.put, List.setIfInBounds_toArray, List.set_cons_zero, List.set_cons_succ]
                    refine wpAnyH_done (by kernel_rfl) ?_ _
                    obtain ⟨f1, f2, f3⟩ := hfin _ (by first | exact .inl rfl | exact .inr rfl)
                    go_wp2
                    exact bodyPost_ret (v := .tuple #[.agg #[.slice (some ⟨gk, go, none⟩) g.length uc], .agg #[.slice (some ⟨ab, 0, none⟩) r.length xc]]) (by simp [results, Tryz.results26, go_sem, f1, f2]) rfl f3
                by_cases h1 : q = 1
                · subst h1
                  clear h0 hgrow
                  by_cases hr0 : 0 < r[v].length
                  case neg =>
                    have hrz : r[v].length = 0 := by omega
                    have hrz1 : decide ((0 : Int) < ((r[v].length : Nat) : Int)) = false := decide_eq_false (by omega)
                    have hrz2 : decide (0 < r[v].length) = false := decide_eq_false (by omega)
                    clear hrz
                    as_aux_lemma =>
                      have hEt := hD.e22 (Nat.le_refl _) hsr
                      obtain ⟨k0, k1, -, -⟩ := own_cell hEt.bg
                      obtain ⟨k2, k3, -, -⟩ := own_cell hEt.bx
                      skip
                      go_wp2
                      refine wp_region_held_drew (S := (fun w' => w'.cell? ⟨gb, 0, none⟩ = some (.slice (some ⟨gk, go, none⟩) g.length uc) ∧ w'.cell? ⟨xb, 0, none⟩ = some (.slice (some ⟨ab, 0, none⟩) r.length xc))) (by kernel_rfl) ?_ (fun hHeld => ?_)
                      · first | exact ⟨‹_›, ‹_›⟩ | exact ⟨(World.cell?_setCell_other _ _ _ _ (fun e => hne2 (congrArg Addr.block e))).trans ((World.cell?_setCell_other _ _ _ _ (fun e => hne1 (congrArg Addr.block e))).trans hHl1), (World.cell?_setCell_other _ _ _ _ (fun e => hne4 (congrArg Addr.block e))).trans ((World.cell?_setCell_other _ _ _ _ (fun e => hne3 (congrArg Addr.block e))).trans hHl2)⟩ | (simp [*, go_sem])
                      have hEd := hEt.drawn (Drawn.refl _).drew
                      generalize World.drew _ = wd at hEd hHeld ⊢
                      have hfin := hEd.fin hgl (by omega) (hL2)
                      obtain ⟨p0, p1, -, -⟩ := own_cell hEd.r0
                      obtain ⟨q0, q1, -, -⟩ := own_cell hEd.r1
                      have hq0 : ∀ x : Value, (wd.setCell ⟨w.heap.size, 0, none⟩ x).cell? ⟨w.heap.size + 1, 0, none⟩ = some (.slice none 0 0) := fun x => (World.cell?_setCell_other _ _ _ _ (fun e => by have := congrArg Addr.block e; simp at this)).trans q0
                      have hp0 : ∀ x : Value, (wd.setCell ⟨w.heap.size + 1, 0, none⟩ x).cell? ⟨w.heap.size, 0, none⟩ = some (.slice none 0 0) := fun x => (World.cell?_setCell_other _ _ _ _ (fun e => by have := congrArg Addr.block e; simp at this)).trans p0
                      have hne1 : ¬ (w.heap.size = gb) := by have := hEd.lo; omega
                      have hne2 : ¬ (w.heap.size + 1 = gb) := by have := hEd.lo; omega
                      have hne3 : ¬ (w.heap.size = xb) := by have := hEd.lo; omega
                      have hne4 : ¬ (w.heap.size + 1 = xb) := by have := hEd.lo; omega
                      have hHl1 := hHeld.1
                      have hHl2 := hHeld.2
                      refine wpAnyH_take (i := 0) (v := ?v31) (by simp only [List.getElem?_toArray, List.getElem?_cons_zero]; exact rfl) (by kernel_rfl) (by kernel_rfl) (by kernel_rfl) (by intro _ _ _ h; exact h) (Or.inl ⟨by rfl, ?y31⟩) hHeld ?_
                      case y31 => (intro w hSw; (try dsimp only at hSw); go_simp; try (with_reducible rfl))
                      try simp only [Act.put, List.setIfInBounds_toArray, List.set_cons_zero, List.set_cons_succ]
                      refine wpAnyH_take (i := 1) (v := ?v32) (by simp only [List.getElem?_toArray, List.getElem?_cons_succ, List.getElem?_cons_zero]; exact rfl) (by kernel_rfl) (by kernel_rfl) (by kernel_rfl) (by intro _ _ _ h; exact h) (Or.inl ⟨by rfl, ?y32⟩) hHeld ?_
                      case y32 => (intro w hSw; (try dsimp only at hSw); go_simp; try (with_reducible rfl))
                      try simp only [Act.put, List.setIfInBounds_toArray, List.set_cons_zero, List.set_cons_succ]
                      refine wpAnyH_ready (rs := [2]) (by kernel_rfl) (by simp) ?_
                      refine AllReadyH.cons (by simp only [List.getElem?_toArray, List.getElem?_cons_succ, List.getElem?_cons_zero]; exact rfl) (fun K hK => ?_) AllReadyH.nil
                      go_simp
                      skip
                      try dsimp only
                      refine hK.out _ _ ?h34 (fun hHeld => ?_)
                      case h34 => first | exact ⟨‹_›, ‹_›⟩ | exact ⟨(World.cell?_setCell_other _ _ _ _ (fun e => hne2 (congrArg Addr.block e))).trans ((World.cell?_setCell_other _ _ _ _ (fun e => hne1 (congrArg Addr.block e))).trans hHl1), (World.cell?_setCell_other _ _ _ _ (fun e => hne4 (congrArg Addr.block e))).trans ((World.cell?_setCell_other _ _ _ _ (fun e => hne3 (congrArg Addr.block e))).trans hHl2)⟩ | (simp [*, go_sem])
                      clear hK K
                      try simp only [Act.put, List.setIfInBounds_toArray, List.set_cons_zero, List.set_cons_succ]
                      refine wpAnyH_ready (rs := [3]) (by kernel_rfl) (by simp) ?_
                      refine AllReadyH.cons (by simp only [List.getElem?_toArray, List.getElem?_cons_succ, List.getElem?_cons_zero]; exact rfl) (fun K hK => ?_) AllReadyH.nil
                      go_simp
                      skip
                      try dsimp only
                      refine hK.out _ _ ?h36 (fun hHeld => ?_)
                      case h36 => first | exact ⟨‹_›, ‹_›⟩ | exact ⟨(World.cell?_setCell_other _ _ _ _ (fun e => hne2 (congrArg Addr.block e))).trans ((World.cell?_setCell_other _ _ _ _ (fun e => hne1 (congrArg Addr.block e))).trans hHl1), (World.cell?_setCell_other _ _ _ _ (fun e => hne4 (congrArg Addr.block e))).trans ((World.cell?_setCell_other _ _ _ _ (fun e => hne3 (congrArg Addr.block e))).trans hHl2)⟩ | (simp [*, go_sem])
                      clear hK K
                      try simp only [Act.put, List.setIfInBounds_toArray, List.set_cons_zero, List.set_cons_succ]
                      refine wpAnyH_done (by kernel_rfl) ?_ _
                      obtain ⟨f1, f2, f3⟩ := hfin _ (by first | exact .inl rfl | exact .inr rfl)
                      go_wp2
                      exact bodyPost_ret (v := .tuple #[.agg #[.slice (some ⟨gk, go, none⟩) g.length uc], .agg #[.slice (some ⟨ab, 0, none⟩) r.length xc]]) (by simp [results, Tryz.results26, go_sem, f1, f2]) rfl f3
                  obtain ⟨rb, rc', hre⟩ := own_some hrow hr0
                  simp only [Value.slice.injEq, true_and] at hre
                  obtain ⟨rfl, rfl⟩ := hre
                  obtain ⟨y0, hy0⟩ : ∃ y0, wv.cell? ⟨rb, 0, none⟩ = some (.int .i64 y0) := ⟨r[v][0], by have := World.ownsRow.cellAt hrow 0 (by omega); simpa [hr0] using this⟩
                  have hri := Own.ints (xs := r[v]) hrow (by omega)
                  have hd2 := hri.dropE (m := 1) (by omega)
                  obtain ⟨hq4, hq5, hq6⟩ := hri.capOf
                  simp only [Nat.zero_add] at hd2
                  obtain ⟨ad, had⟩ : ∃ ad, (if rc = 1 then some (⟨rb, 0, none⟩ : Addr) else some ⟨rb, 1, none⟩) = ad := ⟨_, rfl⟩
                  rw [had] at hd2
                  have hA : ((r[v]).drop 1).length = r[v].length - 1 := by simp
                  have HN := Lib.hid (fun (w1 : World) (rv : Value) (A : List Int) (hA : (r[v]).drop 1 = A) (h1 : Below wv.heap.size wv w1) (h2 : Own w1 wv.heap.size 2 1 rv (A.length + 1) ((A ++ [y0]).map (.int .i64))) (h3 : A.length ≤ 40) => hnew (r := A ++ [y0]) h1 (by rw [List.length_append]; exact h2) (by rw [List.length_append]; simp; omega))
                  have HR := Lib.hid (fun (w8 : World) (rv : Value) (A : List Int) (h1 : Below wv.heap.size wv w8) h2 => hD.row (v := v) (rv := rv) (r' := r.set v (A ++ [y0])) (q := none) (kept_ofB h1 (Nat.le_refl _)) (fun b hb => by cases hb) hBab hax h2)
                  obtain ⟨A, hAe⟩ : ∃ A, A = (r[v]).drop 1 := ⟨_, rfl⟩
                  rw [← hAe] at hd2 hA
                  have hA40 : A.length ≤ 40 := by omega
                  have HAE := Lib.hid hAe.symm
                  have hm1 : (1 : Int) ≤ ((r[v].length : Nat) : Int) := by omega
                  have hrz1 : decide ((0 : Int) < ((r[v].length : Nat) : Int)) = true := decide_eq_true (by omega)
                  have hrz2 : decide (0 < r[v].length) = true := decide_eq_true hr0
                  have hLb := set_rows (k := v) hL2 (show (A ++ [y0]).length ≤ 2000 by simp; omega)
                  have hLa : (r.set v (A ++ [y0])).length ≤ 2000 := by rw [List.length_set]; omega
                  have hfr := World.ownsRow.frozenAt hrow 0
                  clear hAe hnew hri hA
                  generalize r[v].length = m at *
                  go_wp2_with fail
                  apply meetD1 (H := fun (xcp : Value) (v3a : Option Addr) (v3c nb : Nat) (wd : World) => E22 w (wd.setCell ⟨ab, v, none⟩ (.slice v3a (A.length + 1) v3c)) d bs gb xb (.slice (some ⟨gk, go, none⟩) g.length uc) g (.slice (some ⟨ab, 0, none⟩) r.length xc) (r.set v (A ++ [y0])))
                  case orders =>
                    intro rest
                    refine wp_region_late (S := (fun w' => w'.cell? ⟨xb, 0, none⟩ = some (.slice (some ⟨ab, 0, none⟩) r.length xc) ∧ w'.cell? ⟨ab, v, none⟩ = some (.slice (some ⟨rb, 0, none⟩) m rc) ∧ w'.cell? ⟨rb, 0, none⟩ = some (.int .i64 y0))) (late := [20]) (by kernel_rfl) ?_ (fun hHeld => ?_)
                    · first | exact ⟨‹_›, ‹_›, ‹_›⟩ | (simp [*, go_sem])
                    have hbd : Below wv.heap.size wv wv.drew := ((Drawn.refl _).drew).below _
                    generalize wv.drew = wd at hbd hHeld ⊢
                    obtain ⟨e0, e1, e2⟩ := id hHeld
                    refine wpLate_take (i := 0) (v := ?v37) (by simp only [List.getElem?_toArray, List.getElem?_cons_zero]; exact rfl) (by kernel_rfl) (by kernel_rfl) (by kernel_rfl) (by intro _ _ _ h; exact h) (Or.inl ⟨by rfl, ?y37⟩) ?_
                    case y37 => (intro w _; go_simp; try (with_reducible rfl))
                    try simp only [Act.put, List.setIfInBounds_toArray, List.set_cons_zero, List.set_cons_succ]
                    refine wpLate_load (i := 1) (v := ?v38) (by simp only [List.getElem?_toArray, List.getElem?_cons_succ, List.getElem?_cons_zero]; exact rfl) (by kernel_rfl) (by kernel_rfl) (by kernel_rfl) (by kernel_rfl) (by intro _ _ _ h; exact h) (Or.inl ⟨by rfl, ?y38⟩) hHeld ?_
                    case y38 => (intro w hSw; (try dsimp only at hSw); go_simp; try (with_reducible rfl))
                    try simp only [Act.put, List.setIfInBounds_toArray, List.set_cons_zero, List.set_cons_succ]
                    refine wpLate_take (i := 2) (v := ?v39) (by simp only [List.getElem?_toArray, List.getElem?_cons_succ, List.getElem?_cons_zero]; exact rfl) (by kernel_rfl) (by kernel_rfl) (by kernel_rfl) (by intro _ _ _ h; exact h) (Or.inl ⟨by rfl, ?y39⟩) ?_
                    case y39 => (intro w _; go_simp; try (with_reducible rfl))
                    try simp only [Act.put, List.setIfInBounds_toArray, List.set_cons_zero, List.set_cons_succ]
                    refine wpLate_take (i := 3) (v := ?v40) (by simp only [List.getElem?_toArray, List.getElem?_cons_succ, List.getElem?_cons_zero]; exact rfl) (by kernel_rfl) (by kernel_rfl) (by kernel_rfl) (by intro _ _ _ h; exact h) (Or.inl ⟨by rfl, ?y40⟩) ?_
                    case y40 => (intro w _; go_simp; try (with_reducible rfl))
                    try simp only [Act.put, List.setIfInBounds_toArray, List.set_cons_zero, List.set_cons_succ]
                    refine wpLate_load (i := 4) (v := ?v41) (by simp only [List.getElem?_toArray, List.getElem?_cons_succ, List.getElem?_cons_zero]; exact rfl) (by kernel_rfl) (by kernel_rfl) (by kernel_rfl) (by kernel_rfl) (by intro _ _ _ h; exact h) (Or.inl ⟨by rfl, ?y41⟩) hHeld ?_
                    case y41 => (intro w hSw; (try dsimp only at hSw); go_simp; try (with_reducible rfl))
                    try simp only [Act.put, List.setIfInBounds_toArray, List.set_cons_zero, List.set_cons_succ]
                    refine wpLate_take (i := 5) (v := ?v42) (by simp only [List.getElem?_toArray, List.getElem?_cons_succ, List.getElem?_cons_zero]; exact rfl) (by kernel_rfl) (by kernel_rfl) (by kernel_rfl) (by intro _ _ _ h; exact h) (Or.inl ⟨by rfl, ?y42⟩) ?_
                    case y42 => (intro w _; go_simp; try (with_reducible rfl))
                    try simp only [Act.put, List.setIfInBounds_toArray, List.set_cons_zero, List.set_cons_succ]
                    refine wpLate_take (i := 6) (v := ?v43) (by simp only [List.getElem?_toArray, List.getElem?_cons_succ, List.getElem?_cons_zero]; exact rfl) (by kernel_rfl) (by kernel_rfl) (by kernel_rfl) (by intro _ _ _ h; exact h) (Or.inl ⟨by rfl, ?y43⟩) ?_
                    case y43 => (intro w _; go_simp; try (with_reducible rfl))
                    try simp only [Act.put, List.setIfInBounds_toArray, List.set_cons_zero, List.set_cons_succ]
                    refine wpLate_load (i := 7) (v := ?v44) (by simp only [List.getElem?_toArray, List.getElem?_cons_succ, List.getElem?_cons_zero]; exact rfl) (by kernel_rfl) (by kernel_rfl) (by kernel_rfl) (by kernel_rfl) (by intro _ _ _ h; exact h) (Or.inl ⟨by rfl, ?y44⟩) hHeld ?_
                    case y44 => (intro w hSw; (try dsimp only at hSw); go_simp; try (with_reducible rfl))
                    try simp only [Act.put, List.setIfInBounds_toArray, List.set_cons_zero, List.set_cons_succ]
                    refine wpLate_take (i := 8) (v := ?v45) (by simp only [List.getElem?_toArray, List.getElem?_cons_succ, List.getElem?_cons_zero]; exact rfl) (by kernel_rfl) (by kernel_rfl) (by kernel_rfl) (by intro _ _ _ h; exact h) (Or.inl ⟨by rfl, ?y45⟩) ?_
                    case y45 => (intro w _; go_simp; try (with_reducible rfl))
                    try simp only [Act.put, List.setIfInBounds_toArray, List.set_cons_zero, List.set_cons_succ]
                    refine wpLate_take (i := 10) (v := ?v46) (by simp only [List.getElem?_toArray, List.getElem?_cons_succ, List.getElem?_cons_zero]; exact rfl) (by kernel_rfl) (by kernel_rfl) (by kernel_rfl) (by intro _ _ _ h; exact h) (Or.inl ⟨by rfl, ?y46⟩) ?_
                    case y46 => (intro w _; go_simp; try (with_reducible rfl))
                    try simp only [Act.put, List.setIfInBounds_toArray, List.set_cons_zero, List.set_cons_succ]
                    refine wpLate_load (i := 11) (v := ?v47) (by simp only [List.getElem?_toArray, List.getElem?_cons_succ, List.getElem?_cons_zero]; exact rfl) (by kernel_rfl) (by kernel_rfl) (by kernel_rfl) (by kernel_rfl) (by intro _ _ _ h; exact h) (Or.inl ⟨by rfl, ?y47⟩) hHeld ?_
                    case y47 => (intro w hSw; (try dsimp only at hSw); go_simp; try (with_reducible rfl))
                    try simp only [Act.put, List.setIfInBounds_toArray, List.set_cons_zero, List.set_cons_succ]
                    refine wpLate_take (i := 12) (v := ?v48) (by simp only [List.getElem?_toArray, List.getElem?_cons_succ, List.getElem?_cons_zero]; exact rfl) (by kernel_rfl) (by kernel_rfl) (by kernel_rfl) (by intro _ _ _ h; exact h) (Or.inl ⟨by rfl, ?y48⟩) ?_
                    case y48 => (intro w _; go_simp; try (with_reducible rfl))
                    try simp only [Act.put, List.setIfInBounds_toArray, List.set_cons_zero, List.set_cons_succ]
                    refine wpLate_take (i := 13) (v := ?v49) (by simp only [List.getElem?_toArray, List.getElem?_cons_succ, List.getElem?_cons_zero]; exact rfl) (by kernel_rfl) (by kernel_rfl) (by kernel_rfl) (by intro _ _ _ h; exact h) (Or.inl ⟨by rfl, ?y49⟩) ?_
                    case y49 => (intro w _; go_simp; try (with_reducible rfl))
                    try simp only [Act.put, List.setIfInBounds_toArray, List.set_cons_zero, List.set_cons_succ]
                    refine wpLate_load (i := 14) (v := ?v50) (by simp only [List.getElem?_toArray, List.getElem?_cons_succ, List.getElem?_cons_zero]; exact rfl) (by kernel_rfl) (by kernel_rfl) (by kernel_rfl) (by kernel_rfl) (by intro _ _ _ h; exact h) (Or.inl ⟨by rfl, ?y50⟩) hHeld ?_
                    case y50 => (intro w hSw; (try dsimp only at hSw); go_simp; try (with_reducible rfl))
                    try simp only [Act.put, List.setIfInBounds_toArray, List.set_cons_zero, List.set_cons_succ]
                    refine wpLate_take (i := 15) (v := ?v51) (by simp only [List.getElem?_toArray, List.getElem?_cons_succ, List.getElem?_cons_zero]; exact rfl) (by kernel_rfl) (by kernel_rfl) (by kernel_rfl) (by intro _ _ _ h; exact h) (Or.inl ⟨by rfl, ?y51⟩) ?_
                    case y51 => (intro w _; go_simp; try (with_reducible rfl))
                    try simp only [Act.put, List.setIfInBounds_toArray, List.set_cons_zero, List.set_cons_succ]
                    refine wpLate_load (i := 16) (v := ?v52) (by simp only [List.getElem?_toArray, List.getElem?_cons_succ, List.getElem?_cons_zero]; exact rfl) (by kernel_rfl) (by kernel_rfl) (by kernel_rfl) (by kernel_rfl) (by intro _ _ _ h; exact h) (Or.inl ⟨by rfl, ?y52⟩) hHeld ?_
                    case y52 => (intro w hSw; (try dsimp only at hSw); go_simp; try (with_reducible rfl))
                    try simp only [Act.put, List.setIfInBounds_toArray, List.set_cons_zero, List.set_cons_succ]
                    refine wpLate_two (i := 9) (j := 17) (by kernel_rfl) (by simp only [List.getElem?_toArray, List.getElem?_cons_succ, List.getElem?_cons_zero]; exact rfl) (by simp only [List.getElem?_toArray, List.getElem?_cons_succ, List.getElem?_cons_zero]; exact rfl) (by kernel_rfl) (by kernel_rfl) (fun K hK => ?a53) (fun K hK => ?b53)
                    case a53 =>
                      go_simp
                      refine (l1Copy_any _ _ _ (hd2.below hbd (Nat.le_refl _)) (by omega)).mono ?_
                      rintro e wy ⟨xcp, rfl, hxc0, hb5⟩
                      have hxc := hxc0.weak hbd.size
                      try (have clit := (hb5.cell (cell_lt clit)).trans clit)
                      have hbd := hbd.trans (hb5.mono hbd.size)
                      clear hb5 e0 e1 e2 hxc0
                      obtain ⟨wd, rfl⟩ : ∃ x, x = wy := ⟨_, rfl⟩
                      have e0 := (hbd.cell (cell_lt x0)).trans x0
                      have e1 := (hbd.cell (cell_lt hc)).trans hc
                      have e2 := (hbd.cell (cell_lt hy0)).trans hy0
                      try dsimp only
                      refine hK.out _ _ ?h54 (fun hHeld => ?_)
                      case h54 => first | exact ⟨‹_›, ‹_›, ‹_›⟩ | (simp [*, go_sem])
                      clear hK K
                      try simp only [Act.put, List.setIfInBounds_toArray, List.set_cons_zero, List.set_cons_succ]
                      refine wpLate_one (i := 17) (by kernel_rfl) (by simp only [List.getElem?_toArray, List.getElem?_cons_succ, List.getElem?_cons_zero]; exact rfl) (by kernel_rfl) (fun K hK => ?_)
                      go_simp
                      obtain ⟨nb, hnb⟩ : ∃ nb, nb = wd.heap.size := ⟨_, rfl⟩
                      rw [← hnb]
                      have hbn : Below wd.heap.size wd (wd.alloc (.cells #[.int .i64 y0] 2)) := (Below.refl _ _).alloc (Nat.le_refl _) _
                      have clit : (wd.alloc (.cells #[.int .i64 y0] 2)).cell? ⟨nb, 0, none⟩ = some (.int .i64 y0) := (by rw [hnb]; simp [go_sem])
                      try (have hxc := hxc.below hbn (Nat.le_refl _))
                      have hbd := hbd.trans (hbn.mono hbd.size)
                      clear hnb hbn e0 e1 e2
                      generalize wd.alloc (.cells #[.int .i64 y0] 2) = wy at *
                      obtain ⟨wd, rfl⟩ : ∃ x, x = wy := ⟨_, rfl⟩
                      have e0 := (hbd.cell (cell_lt x0)).trans x0
                      have e1 := (hbd.cell (cell_lt hc)).trans hc
                      have e2 := (hbd.cell (cell_lt hy0)).trans hy0
                      try dsimp only
                      refine hK.out _ _ ?h56 (fun hHeld => ?_)
                      case h56 => first | exact ⟨‹_›, ‹_›, ‹_›⟩ | (simp [*, go_sem])
                      clear hK K
                      try simp only [Act.put, List.setIfInBounds_toArray, List.set_cons_zero, List.set_cons_succ]
                      refine wpLate_one (i := 18) (by kernel_rfl) (by simp only [List.getElem?_toArray, List.getElem?_cons_succ, List.getElem?_cons_zero]; exact rfl) (by kernel_rfl) (fun K hK => ?_)
                      rw [if_pos (by rfl)]
                      refine opWp_append1E elI64 _ _ rfl hxc rfl rfl clit rfl (by omega) hbd.size ?_
                      intro v3 wy ho3 hk3 hm3
                      have hbd := hk3.below hbd hbd.size (fun b hb => hxc.ge b hb)
                      clear clit hk3 hm3 e0 e1 e2 hxc
                      obtain ⟨wd, rfl⟩ : ∃ x, x = wy := ⟨_, rfl⟩
                      have e0 := (hbd.cell (cell_lt x0)).trans x0
                      have e1 := (hbd.cell (cell_lt hc)).trans hc
                      have e2 := (hbd.cell (cell_lt hy0)).trans hy0
                      obtain ⟨v3a, v3c, rfl⟩ := ho3.isSlice
                      have ef := (hbd.frozen (p := ⟨ab, v, none⟩) (cell_lt hc)).trans hf
                      try dsimp only
                      refine hK.out _ _ ?h58 (fun hHeld => ?_)
                      case h58 => first | exact ⟨‹_›, ‹_›, ‹_›⟩ | (simp [*, go_sem])
                      clear hK K
                      try simp only [Act.put, List.setIfInBounds_toArray, List.set_cons_zero, List.set_cons_succ]
                      refine wpLate_take (i := 19) (v := ?v59) (by simp only [List.getElem?_toArray, List.getElem?_cons_succ, List.getElem?_cons_zero]; exact rfl) (by kernel_rfl) (by kernel_rfl) (by kernel_rfl) (by intro _ _ _ h; exact h) (Or.inl ⟨by rfl, ?y59⟩) ?_
                      case y59 => (intro w _; go_simp; try (with_reducible rfl))
                      try simp only [Act.put, List.setIfInBounds_toArray, List.set_cons_zero, List.set_cons_succ]
                      refine wpLate_late (i := 20) (by kernel_rfl) (by simp only [List.getElem?_toArray, List.getElem?_cons_succ, List.getElem?_cons_zero]; exact rfl) (by kernel_rfl) (fun K hK => ?_)
                      go_simp
                      skip
                      try dsimp only
                      refine hK.out _ _ ?_
                      clear hK K
                      try simp only [Act.put, List.setIfInBounds_toArray, List.set_cons_zero, List.set_cons_succ]
                      refine wpLate_done (by kernel_rfl) ?_ _
                      have hS := HN.out wd _ A HAE.out hbd (by rw [List.map_append]; exact ho3) hA40
                      have hE0 := HR.out wd _ A hbd hS
                      exact rest xcp v3a v3c nb wd hE0
                    case b53 =>
                      go_simp
                      obtain ⟨nb, hnb⟩ : ∃ nb, nb = wd.heap.size := ⟨_, rfl⟩
                      rw [← hnb]
                      have hbn : Below wd.heap.size wd (wd.alloc (.cells #[.int .i64 y0] 2)) := (Below.refl _ _).alloc (Nat.le_refl _) _
                      have clit : (wd.alloc (.cells #[.int .i64 y0] 2)).cell? ⟨nb, 0, none⟩ = some (.int .i64 y0) := (by rw [hnb]; simp [go_sem])
                      try (have hxc := hxc.below hbn (Nat.le_refl _))
                      have hbd := hbd.trans (hbn.mono hbd.size)
                      clear hnb hbn e0 e1 e2
                      generalize wd.alloc (.cells #[.int .i64 y0] 2) = wy at *
                      obtain ⟨wd, rfl⟩ : ∃ x, x = wy := ⟨_, rfl⟩
                      have e0 := (hbd.cell (cell_lt x0)).trans x0
                      have e1 := (hbd.cell (cell_lt hc)).trans hc
                      have e2 := (hbd.cell (cell_lt hy0)).trans hy0
                      try dsimp only
                      refine hK.out _ _ ?h62 (fun hHeld => ?_)
                      case h62 => first | exact ⟨‹_›, ‹_›, ‹_›⟩ | (simp [*, go_sem])
                      clear hK K
                      try simp only [Act.put, List.setIfInBounds_toArray, List.set_cons_zero, List.set_cons_succ]
                      refine wpLate_one (i := 9) (by kernel_rfl) (by simp only [List.getElem?_toArray, List.getElem?_cons_succ, List.getElem?_cons_zero]; exact rfl) (by kernel_rfl) (fun K hK => ?_)
                      go_simp
                      refine (l1Copy_any _ _ _ (hd2.below hbd (Nat.le_refl _)) (by omega)).mono ?_
                      rintro e wy ⟨xcp, rfl, hxc0, hb5⟩
                      have hxc := hxc0.weak hbd.size
                      try (have clit := (hb5.cell (cell_lt clit)).trans clit)
                      have hbd := hbd.trans (hb5.mono hbd.size)
                      clear hb5 e0 e1 e2 hxc0
                      obtain ⟨wd, rfl⟩ : ∃ x, x = wy := ⟨_, rfl⟩
                      have e0 := (hbd.cell (cell_lt x0)).trans x0
                      have e1 := (hbd.cell (cell_lt hc)).trans hc
                      have e2 := (hbd.cell (cell_lt hy0)).trans hy0
                      try dsimp only
                      refine hK.out _ _ ?h64 (fun hHeld => ?_)
                      case h64 => first | exact ⟨‹_›, ‹_›, ‹_›⟩ | (simp [*, go_sem])
                      clear hK K
                      try simp only [Act.put, List.setIfInBounds_toArray, List.set_cons_zero, List.set_cons_succ]
                      refine wpLate_one (i := 18) (by kernel_rfl) (by simp only [List.getElem?_toArray, List.getElem?_cons_succ, List.getElem?_cons_zero]; exact rfl) (by kernel_rfl) (fun K hK => ?_)
                      rw [if_pos (by rfl)]
                      refine opWp_append1E elI64 _ _ rfl hxc rfl rfl clit rfl (by omega) hbd.size ?_
                      intro v3 wy ho3 hk3 hm3
                      have hbd := hk3.below hbd hbd.size (fun b hb => hxc.ge b hb)
                      clear clit hk3 hm3 e0 e1 e2 hxc
                      obtain ⟨wd, rfl⟩ : ∃ x, x = wy := ⟨_, rfl⟩
                      have e0 := (hbd.cell (cell_lt x0)).trans x0
                      have e1 := (hbd.cell (cell_lt hc)).trans hc
                      have e2 := (hbd.cell (cell_lt hy0)).trans hy0
                      obtain ⟨v3a, v3c, rfl⟩ := ho3.isSlice
                      have ef := (hbd.frozen (p := ⟨ab, v, none⟩) (cell_lt hc)).trans hf
                      try dsimp only
                      refine hK.out _ _ ?h66 (fun hHeld => ?_)
                      case h66 => first | exact ⟨‹_›, ‹_›, ‹_›⟩ | (simp [*, go_sem])
                      clear hK K
                      try simp only [Act.put, List.setIfInBounds_toArray, List.set_cons_zero, List.set_cons_succ]
                      refine wpLate_take (i := 19) (v := ?v67) (by simp only [List.getElem?_toArray, List.getElem?_cons_succ, List.getElem?_cons_zero]; exact rfl) (by kernel_rfl) (by kernel_rfl) (by kernel_rfl) (by intro _ _ _ h; exact h) (Or.inl ⟨by rfl, ?y67⟩) ?_
                      case y67 => (intro w _; go_simp; try (with_reducible rfl))
                      try simp only [Act.put, List.setIfInBounds_toArray, List.set_cons_zero, List.set_cons_succ]
                      refine wpLate_late (i := 20) (by kernel_rfl) (by simp only [List.getElem?_toArray, List.getElem?_cons_succ, List.getElem?_cons_zero]; exact rfl) (by kernel_rfl) (fun K hK => ?_)
                      go_simp
                      skip
                      try dsimp only
                      refine hK.out _ _ ?_
                      clear hK K
                      try simp only [Act.put, List.setIfInBounds_toArray, List.set_cons_zero, List.set_cons_succ]
                      refine wpLate_done (by kernel_rfl) ?_ _
                      have hS := HN.out wd _ A HAE.out hbd (by rw [List.map_append]; exact ho3) hA40
                      have hE0 := HR.out wd _ A hbd hS
                      exact rest xcp v3a v3c nb wd hE0
                  case rest =>
                    intro xcp v3a v3c nb wd hE0
                    clear HN HR hd2 hD hrow hc hf hy0
                    as_aux_lemma =>
                      have hEt := hE0
                      obtain ⟨k0, k1, -, -⟩ := own_cell hEt.bg
                      obtain ⟨k2, k3, -, -⟩ := own_cell hEt.bx
                      skip
                      go_wp2
                      refine wp_region_held_drew (S := (fun w' => w'.cell? ⟨gb, 0, none⟩ = some (.slice (some ⟨gk, go, none⟩) g.length uc) ∧ w'.cell? ⟨xb, 0, none⟩ = some (.slice (some ⟨ab, 0, none⟩) r.length xc))) (by kernel_rfl) ?_ (fun hHeld => ?_)
                      · first | exact ⟨‹_›, ‹_›⟩ | exact ⟨(World.cell?_setCell_other _ _ _ _ (fun e => hne2 (congrArg Addr.block e))).trans ((World.cell?_setCell_other _ _ _ _ (fun e => hne1 (congrArg Addr.block e))).trans hHl1), (World.cell?_setCell_other _ _ _ _ (fun e => hne4 (congrArg Addr.block e))).trans ((World.cell?_setCell_other _ _ _ _ (fun e => hne3 (congrArg Addr.block e))).trans hHl2)⟩ | (simp [*, go_sem])
                      have hEd := hEt.drawn (Drawn.refl _).drew
                      generalize World.drew _ = wd at hEd hHeld ⊢
                      have hfin := hEd.fin hgl (hLa) (hLb)
                      obtain ⟨p0, p1, -, -⟩ := own_cell hEd.r0
                      obtain ⟨q0, q1, -, -⟩ := own_cell hEd.r1
                      have hq0 : ∀ x : Value, (wd.setCell ⟨w.heap.size, 0, none⟩ x).cell? ⟨w.heap.size + 1, 0, none⟩ = some (.slice none 0 0) := fun x => (World.cell?_setCell_other _ _ _ _ (fun e => by have := congrArg Addr.block e; simp at this)).trans q0
                      have hp0 : ∀ x : Value, (wd.setCell ⟨w.heap.size + 1, 0, none⟩ x).cell? ⟨w.heap.size, 0, none⟩ = some (.slice none 0 0) := fun x => (World.cell?_setCell_other _ _ _ _ (fun e => by have := congrArg Addr.block e; simp at this)).trans p0
                      have hne1 : ¬ (w.heap.size = gb) := by have := hEd.lo; omega
                      have hne2 : ¬ (w.heap.size + 1 = gb) := by have := hEd.lo; omega
                      have hne3 : ¬ (w.heap.size = xb) := by have := hEd.lo; omega
                      have hne4 : ¬ (w.heap.size + 1 = xb) := by have := hEd.lo; omega
                      have hHl1 := hHeld.1
                      have hHl2 := hHeld.2
                      refine wpAnyH_take (i := 0) (v := ?v70) (by simp only [List.getElem?_toArray, List.getElem?_cons_zero]; exact rfl) (by kernel_rfl) (by kernel_rfl) (by kernel_rfl) (by intro _ _ _ h; exact h) (Or.inl ⟨by rfl, ?y70⟩) hHeld ?_
                      case y70 => (intro w hSw; (try dsimp only at hSw); go_simp; try (with_reducible rfl))
                      try simp only [Act.put, List.setIfInBounds_toArray, List.set_cons_zero, List.set_cons_succ]
                      refine wpAnyH_take (i := 1) (v := ?v71) (by simp only [List.getElem?_toArray, List.getElem?_cons_succ, List.getElem?_cons_zero]; exact rfl) (by kernel_rfl) (by kernel_rfl) (by kernel_rfl) (by intro _ _ _ h; exact h) (Or.inl ⟨by rfl, ?y71⟩) hHeld ?_
                      case y71 => (intro w hSw; (try dsimp only at hSw); go_simp; try (with_reducible rfl))
                      try simp only [Act.put, List.setIfInBounds_toArray, List.set_cons_zero, List.set_cons_succ]
                      refine wpAnyH_ready (rs := [2]) (by kernel_rfl) (by simp) ?_
                      refine AllReadyH.cons (by simp only [List.getElem?_toArray, List.getElem?_cons_succ, List.getElem?_cons_zero]; exact rfl) (fun K hK => ?_) AllReadyH.nil
                      go_simp
                      skip
                      try dsimp only
                      refine hK.out _ _ ?h73 (fun hHeld => ?_)
                      case h73 => first | exact ⟨‹_›, ‹_›⟩ | exact ⟨(World.cell?_setCell_other _ _ _ _ (fun e => hne2 (congrArg Addr.block e))).trans ((World.cell?_setCell_other _ _ _ _ (fun e => hne1 (congrArg Addr.block e))).trans hHl1), (World.cell?_setCell_other _ _ _ _ (fun e => hne4 (congrArg Addr.block e))).trans ((World.cell?_setCell_other _ _ _ _ (fun e => hne3 (congrArg Addr.block e))).trans hHl2)⟩ | (simp [*, go_sem])
                      clear hK K
                      try simp only [Act.put, List.setIfInBounds_toArray, List.set_cons_zero, List.set_cons_succ]
                      refine wpAnyH_ready (rs := [3]) (by kernel_rfl) (by simp) ?_
                      refine AllReadyH.cons (by simp only [List.getElem?_toArray, List.getElem?_cons_succ, List.getElem?_cons_zero]; exact rfl) (fun K hK => ?_) AllReadyH.nil
                      go_simp
                      skip
                      try dsimp only
                      refine hK.out _ _ ?h75 (fun hHeld => ?_)
                      case h75 => first | exact ⟨‹_›, ‹_›⟩ | exact ⟨(World.cell?_setCell_other _ _ _ _ (fun e => hne2 (congrArg Addr.block e))).trans ((World.cell?_setCell_other _ _ _ _ (fun e => hne1 (congrArg Addr.block e))).trans hHl1), (World.cell?_setCell_other _ _ _ _ (fun e => hne4 (congrArg Addr.block e))).trans ((World.cell?_setCell_other _ _ _ _ (fun e => hne3 (congrArg Addr.block e))).trans hHl2)⟩ | (simp [*, go_sem])
                      clear hK K
                      try simp only [Act.put, List.setIfInBounds_toArray, List.set_cons_zero, List.set_cons_succ]
                      refine wpAnyH_done (by kernel_rfl) ?_ _
                      obtain ⟨f1, f2, f3⟩ := hfin _ (by first | exact .inl rfl | exact .inr rfl)
                      go_wp2
                      exact bodyPost_ret (v := .tuple #[.agg #[.slice (some ⟨gk, go, none⟩) g.length uc], .agg #[.slice (some ⟨ab, 0, none⟩) r.length xc]]) (by simp [results, Tryz.results26, go_sem, f1, f2]) rfl f3
                have h2 : q = 2 := by omega
                subst h2
                obtain ⟨y0, r', hrr⟩ : ∃ y0 r', r = y0 :: r' := by
                  cases hr : r with
                  | nil => rw [hr] at z0; simp at z0
                  | cons y0 r' => exact ⟨y0, r', rfl⟩
                have hsl := hD.ow.rowsNe hD.bx (by decide) (by decide) hsr
                rw [hrr] at hsl
                have hsl2 := (show SlR _ wv (.slice (some ⟨ab, 0, none⟩) r.length xc) (y0 :: r') by rw [hrr]; exact hsl).tailE
                simp only [Nat.zero_add] at hsl2
                obtain ⟨ad, had⟩ : ∃ ad, (if xc = 1 then some (⟨ab, 0, none⟩ : Addr) else some ⟨ab, 1, none⟩) = ad := ⟨_, rfl⟩
                rw [had] at hsl2
                have hcap : r.length ≤ xc ∧ xc ≤ 9223372036854775807 := by
                  obtain ⟨a', b', o', c', f', he', hl', -⟩ := hsl
                  simp only [Value.slice.injEq] at he'
                  have e1 : (y0 :: r').length = r.length := by rw [hrr]
                  omega
                have hE0 := (hD.e22 (Nat.le_refl _) hsr).put (hsl2.weak fun b hb => ⟨by omega, hb.2.1, hb.2.2⟩)
                have hLa : r'.length ≤ 2000 := by have : r.length = r'.length + 1 := by rw [hrr]; rfl
                                                  omega
                have hLb : ∀ y ∈ r', y.length ≤ 2000 := fun y hy => hL2 y (by rw [hrr]; simp [hy])
                have hm1 : (1 : Int) ≤ ((r.length : Nat) : Int) := by omega
                clear hrr
                clear hsl hsl2
                as_aux_lemma =>
                  have hEt := hE0
                  obtain ⟨k0, k1, -, -⟩ := own_cell hEt.bg
                  obtain ⟨k2, k3, -, -⟩ := own_cell hEt.bx
                  skip
                  go_wp2
                  refine wp_region_held_drew (S := (fun w' => w'.cell? ⟨gb, 0, none⟩ = some (.slice (some ⟨gk, go, none⟩) g.length uc) ∧ w'.cell? ⟨xb, 0, none⟩ = some (.slice ad (r.length - 1) (xc - 1)))) (by kernel_rfl) ?_ (fun hHeld => ?_)
                  · first | exact ⟨‹_›, ‹_›⟩ | exact ⟨(World.cell?_setCell_other _ _ _ _ (fun e => hne2 (congrArg Addr.block e))).trans ((World.cell?_setCell_other _ _ _ _ (fun e => hne1 (congrArg Addr.block e))).trans hHl1), (World.cell?_setCell_other _ _ _ _ (fun e => hne4 (congrArg Addr.block e))).trans ((World.cell?_setCell_other _ _ _ _ (fun e => hne3 (congrArg Addr.block e))).trans hHl2)⟩ | (simp [*, go_sem])
                  have hEd := hEt.drawn (Drawn.refl _).drew
                  generalize World.drew _ = wd at hEd hHeld ⊢
                  have hfin := hEd.fin hgl (hLa) (hLb)
                  obtain ⟨p0, p1, -, -⟩ := own_cell hEd.r0
                  obtain ⟨q0, q1, -, -⟩ := own_cell hEd.r1
                  have hq0 : ∀ x : Value, (wd.setCell ⟨w.heap.size, 0, none⟩ x).cell? ⟨w.heap.size + 1, 0, none⟩ = some (.slice none 0 0) := fun x => (World.cell?_setCell_other _ _ _ _ (fun e => by have := congrArg Addr.block e; simp at this)).trans q0
                  have hp0 : ∀ x : Value, (wd.setCell ⟨w.heap.size + 1, 0, none⟩ x).cell? ⟨w.heap.size, 0, none⟩ = some (.slice none 0 0) := fun x => (World.cell?_setCell_other _ _ _ _ (fun e => by have := congrArg Addr.block e; simp at this)).trans p0
                  have hne1 : ¬ (w.heap.size = gb) := by have := hEd.lo; omega
                  have hne2 : ¬ (w.heap.size + 1 = gb) := by have := hEd.lo; omega
                  have hne3 : ¬ (w.heap.size = xb) := by have := hEd.lo; omega
                  have hne4 : ¬ (w.heap.size + 1 = xb) := by have := hEd.lo; omega
                  have hHl1 := hHeld.1
                  have hHl2 := hHeld.2
                  refine wpAnyH_take (i := 0) (v := ?v76) (by simp only [List.getElem?_toArray, List.getElem?_cons_zero]; exact rfl) (by kernel_rfl) (by kernel_rfl) (by kernel_rfl) (by intro _ _ _ h; exact h) (Or.inl ⟨by rfl, ?y76⟩) hHeld ?_
                  case y76 => (intro w hSw; (try dsimp only at hSw); go_simp; try (with_reducible rfl))
                  try simp only [Act.put, List.setIfInBounds_toArray, List.set_cons_zero, List.set_cons_succ]
                  refine wpAnyH_take (i := 1) (v := ?v77) (by simp only [List.getElem?_toArray, List.getElem?_cons_succ, List.getElem?_cons_zero]; exact rfl) (by kernel_rfl) (by kernel_rfl) (by kernel_rfl) (by intro _ _ _ h; exact h) (Or.inl ⟨by rfl, ?y77⟩) hHeld ?_
                  case y77 => (intro w hSw; (try dsimp only at hSw); go_simp; try (with_reducible rfl))
                  try simp only [Act.put, List.setIfInBounds_toArray, List.set_cons_zero, List.set_cons_succ]
                  refine wpAnyH_ready (rs := [2]) (by kernel_rfl) (by simp) ?_
                  refine AllReadyH.cons (by simp only [List.getElem?_toArray, List.getElem?_cons_succ, List.getElem?_cons_zero]; exact rfl) (fun K hK => ?_) AllReadyH.nil
                  go_simp
                  skip
                  try dsimp only
                  refine hK.out _ _ ?h79 (fun hHeld => ?_)
                  case h79 => first | exact ⟨‹_›, ‹_›⟩ | exact ⟨(World.cell?_setCell_other _ _ _ _ (fun e => hne2 (congrArg Addr.block e))).trans ((World.cell?_setCell_other _ _ _ _ (fun e => hne1 (congrArg Addr.block e))).trans hHl1), (World.cell?_setCell_other _ _ _ _ (fun e => hne4 (congrArg Addr.block e))).trans ((World.cell?_setCell_other _ _ _ _ (fun e => hne3 (congrArg Addr.block e))).trans hHl2)⟩ | (simp [*, go_sem])
                  clear hK K
                  try simp only [Act.put, List.setIfInBounds_toArray, List.set_cons_zero, List.set_cons_succ]
                  refine wpAnyH_ready (rs := [3]) (by kernel_rfl) (by simp) ?_
                  refine AllReadyH.cons (by simp only [List.getElem?_toArray, List.getElem?_cons_succ, List.getElem?_cons_zero]; exact rfl) (fun K hK => ?_) AllReadyH.nil
                  go_simp
                  skip
                  try dsimp only
                  refine hK.out _ _ ?h81 (fun hHeld => ?_)
                  case h81 => first | exact ⟨‹_›, ‹_›⟩ | exact ⟨(World.cell?_setCell_other _ _ _ _ (fun e => hne2 (congrArg Addr.block e))).trans ((World.cell?_setCell_other _ _ _ _ (fun e => hne1 (congrArg Addr.block e))).trans hHl1), (World.cell?_setCell_other _ _ _ _ (fun e => hne4 (congrArg Addr.block e))).trans ((World.cell?_setCell_other _ _ _ _ (fun e => hne3 (congrArg Addr.block e))).trans hHl2)⟩ | (simp [*, go_sem])
                  clear hK K
                  try simp only [Act.put, List.setIfInBounds_toArray, List.set_cons_zero, List.set_cons_succ]
                  refine wpAnyH_done (by kernel_rfl) ?_ _
                  obtain ⟨f1, f2, f3⟩ := hfin _ (by first | exact .inl rfl | exact .inr rfl)
                  go_wp2
                  exact bodyPost_ret (v := .tuple #[.agg #[.slice (some ⟨gk, go, none⟩) g.length uc], .agg #[.slice ad (r.length - 1) (xc - 1)]]) (by simp [results, Tryz.results26, go_sem, f1, f2]) rfl f3
          have hvI : (v : Int) < (g.length : Int) := by omega
          obtain ⟨fa, fc, hrg⟩ := hD.next hvg
          have hrow40 := HGR.out g[v] (List.getElem_mem hvg)
          generalize g[v] = row at *
          rw [hrl] at hD
          have HRL := Lib.hid hrl
          clear hrl
          have hDlo := hD.lo
          have hDlt := hD.lt
          have hlit : Below wi.heap.size wi (wi.alloc (.cells #[] 2)) := (Below.refl _ _).alloc (Nat.le_refl _) _
          have hown0 : Own (wi.alloc (.cells #[] 2)) wi.heap.size 2 1 (.slice (some ⟨wi.heap.size, 0, none⟩) 0 0) 0 (([] : List Int).map (.int .i64)) := World.ownsRow_lit (base := wi.heap.size) (e := 2) (size := 1) wi #[] 0 (Nat.le_refl _) (by unfold maxLen; omega) rfl
          have hD1 := hD.below hlit (Nat.le_refl _)
          have hrg1 := hrg.below hlit (Nat.le_refl _)
          have hz1 := hlit.size
          have hgbw : gb + 1 ≤ wi.heap.size := by have h1 := hD.hi; have h2 := hD.lo; omega
          clear hlit hD hrg
          go_wp2
          go_loopw [8, 9] (fun tv kv wr => ∃ (k : Nat) (xs : List Int) (tb tc : Nat), k ≤ row.length ∧ tv = .slice (some ⟨tb, 0, none⟩) k tc ∧ kv = .int .i64 (k : Int) ∧ xs.length = k ∧ Own wr wi.heap.size 2 1 (.slice (some ⟨tb, 0, none⟩) k tc) k (xs.map (.int .i64)) ∧ D22 w wr d bs gb xb wi.heap.size (.slice (some ⟨gk, go, none⟩) g.length uc) g (.slice xa v xc) r ∧ RowG w wr gb gk go v fa fc row ∧ wi.heap.size ≤ wr.heap.size) (fun _ kv _ => row.length - (RowKit.intOf kv).toNat)
          case atStart => exact ⟨0, [], wi.heap.size, 0, Nat.zero_le _, rfl, rfl, rfl, hown0, hD1, hrg1, hz1⟩
          case round =>
            clear hown0 hD1 hrg1 hz1 c0 c1
            obtain ⟨k, xs, tb, tc, hk, rfl, rfl, hxl, htv, hD, hrg, hzw⟩ := hrel
            obtain ⟨wj, rfl⟩ : ∃ x : World, x = wr := ⟨_, rfl⟩
            obtain ⟨c0, c1, -, -⟩ := own_cell hD.bg
            have ce := hrg.cell
            have hgk := hrg.lo
            by_cases hkm : k < row.length
            case neg =>
              obtain ⟨x0, x1, -, -⟩ := own_cell hD.bx
              obtain ⟨vs, hvl, hown, hbC, hap, hrows⟩ := hD.ow
              rw [HRL.out] at hvl hown
              have hDD := hD
              have hDDh := hD.hi
              clear hD
              have hkI : decide ((k : Int) < (row.length : Int)) = false := decide_eq_false (by omega)
              have hkN : decide (k < row.length) = false := decide_eq_false hkm
              have HXL := Lib.hid hxl
              have HROWS := Lib.hid hrows
              have HVL := Lib.hid hvl
              clear hxl hrows hvl
              go_wp2_with (at_builtin; refine hold_in ?_)
              unfold HoldP
              refine wpList_append1 elRows rfl _ _ rfl hown rfl rfl rfl (by omega) (by omega) ?_
              intro o5 w5 hown5 hkept hmv
              have hS5 : OwnR w5 (gb + 1) w5.heap.size 36 2 o5 (r ++ [xs]) := ownR_snoc (w := wj) (C := wi.heap.size) (u := .slice xa v xc) (v := .slice (some ⟨tb, 0, none⟩) k tc) (by rw [HVL.out, HRL.out]) hzw hap HROWS.out hbC (by rw [HRL.out]; exact hown5) (by rw [HXL.out]; exact htv.weak (by omega)) (fun b hb => htv.ge b hb) hkept (by
                rcases hmv with h | h
                · exact .inl h
                · exact .inr ⟨_, h, by simp⟩)
              obtain ⟨oa5, oc5, rfl⟩ := hown5.isSlice
              obtain ⟨y1, y2, hD5⟩ := hDD.snoc hkept hS5
              have hD6 := hD5.room (C' := (w5.setCell ⟨xb, 0, none⟩ (.slice oa5 (v + 1) oc5)).heap.size) (by simp)
              have HR5 : RowKit.Hid ((r ++ [xs]).length = v + 1 ∧ ∀ y ∈ r ++ [xs], y.length ≤ 40) := Lib.hid ⟨by rw [List.length_append, HRL.out]; rfl, fun y hy => by
                rcases List.mem_append.1 hy with hy | hy
                · exact hr40 y hy
                · rw [List.mem_singleton] at hy; rw [hy, HXL.out]; omega⟩
              clear hown5 hkept hmv hS5 hD5 hDD hown hap hbC htv
              go_wp2
              go_roundw
              case rel => exact ⟨v + 1, _, r ++ [xs], by omega, by go_num, hD6, HR5.out.1, HR5.out.2⟩
              case measure => (simp [RowKit.intOf] <;> omega)
            have hkI : decide ((k : Int) < (row.length : Int)) = true := decide_eq_true (by omega)
            have hkN : decide (k < row.length) = true := decide_eq_true hkm
            have hkI2 : (k : Int) < (row.length : Int) := by omega
            obtain ⟨fk, fo, x, rfl, cx⟩ := hrg.elem hkm
            have hti := Own.ints (xs := xs) htv (by omega)
            obtain ⟨-, hk2, hk3⟩ := hti.capOf
            by_cases hk0 : k = 0
            · have hj0 : decide ((0 : Int) < (k : Int)) = false := decide_eq_false (by omega)
              have hj1 : decide (0 < k) = false := decide_eq_false (by omega)
              have hpk : k ≤ k := Nat.le_refl _
              have HK0 := Lib.hid hk0
              clear hk0
              obtain ⟨wq, rfl⟩ : ∃ x : World, x = wj := ⟨_, rfl⟩
              as_aux_lemma =>
                have hd1 := hti.take (m := k) (by omega)
                have hd2 := hti.dropE (m := k) (by omega)
                simp only [Nat.zero_add] at hd2
                obtain ⟨ad, had⟩ : ∃ ad, (if tc = k then some (⟨tb, 0, none⟩ : Addr) else some ⟨tb, k, none⟩) = ad := ⟨_, rfl⟩
                rw [had] at hd2
                try simp only [Nat.sub_self] at hd2
                have hA : (xs.take k).length = k := by rw [List.length_take]; omega
                have hC : (xs.drop k).length = k - k := by rw [List.length_drop]; omega
                generalize xs.take k = A at *
                generalize xs.drop k = C at *
                have hpI : ((k : Nat) : Int) ≤ ((k : Nat) : Int) := by omega
                have hpI2 : ((k : Nat) : Int) ≤ ((tc : Nat) : Int) := by omega
                have hpN : k ≤ tc := by omega
                have HC := Lib.hid hC
                have HA := Lib.hid hA
                have HXL := Lib.hid hxl
                clear hC hxl hti hA
                go_wp2_with fail
                apply meetD1 (H := fun (xcp : Value) (v3a : Option Addr) (v3c nb : Nat) (wd : World) => Below wq.heap.size wq wd ∧ Own wd wq.heap.size 2 1 (.slice v3a (k + 1) v3c) (k + 1) ((A.map (.int .i64)) ++ [.int .i64 x]))
                case orders =>
                  intro rest
                  refine wp_region_held_drew (S := (fun w' => w'.cell? ⟨gb, 0, none⟩ = some (.slice (some ⟨gk, go, none⟩) g.length uc) ∧ w'.cell? ⟨gk, go + v, none⟩ = some (.slice (some ⟨fk, fo, none⟩) row.length fc) ∧ w'.cell? ⟨fk, fo + k, none⟩ = some (.int .i64 x))) (by kernel_rfl) ?_ (fun hHeld => ?_)
                  · first | exact ⟨‹_›, ‹_›, ‹_›⟩ | (simp [*, go_sem])
                  have hbd : Below wq.heap.size wq wq.drew := ((Drawn.refl _).drew).below _
                  generalize wq.drew = wd at hbd hHeld ⊢
                  obtain ⟨e0, e1, e2⟩ := id hHeld
                  refine wpAnyH_take (i := 0) (v := ?v82) (by simp only [List.getElem?_toArray, List.getElem?_cons_zero]; exact rfl) (by kernel_rfl) (by kernel_rfl) (by kernel_rfl) (by intro _ _ _ h; exact h) (Or.inl ⟨by rfl, ?y82⟩) hHeld ?_
                  case y82 => (intro w hSw; (try dsimp only at hSw); go_simp; try (with_reducible rfl))
                  try simp only [Act.put, List.setIfInBounds_toArray, List.set_cons_zero, List.set_cons_succ]
                  refine wpAnyH_take (i := 1) (v := ?v83) (by simp only [List.getElem?_toArray, List.getElem?_cons_succ, List.getElem?_cons_zero]; exact rfl) (by kernel_rfl) (by kernel_rfl) (by kernel_rfl) (by intro _ _ _ h; exact h) (Or.inl ⟨by rfl, ?y83⟩) hHeld ?_
                  case y83 => (intro w hSw; (try dsimp only at hSw); go_simp; try (with_reducible rfl))
                  try simp only [Act.put, List.setIfInBounds_toArray, List.set_cons_zero, List.set_cons_succ]
                  refine wpAnyH_take (i := 2) (v := ?v84) (by simp only [List.getElem?_toArray, List.getElem?_cons_succ, List.getElem?_cons_zero]; exact rfl) (by kernel_rfl) (by kernel_rfl) (by kernel_rfl) (by intro _ _ _ h; exact h) (Or.inl ⟨by rfl, ?y84⟩) hHeld ?_
                  case y84 => (intro w hSw; (try dsimp only at hSw); go_simp; try (with_reducible rfl))
                  try simp only [Act.put, List.setIfInBounds_toArray, List.set_cons_zero, List.set_cons_succ]
                  refine wpAnyH_take (i := 4) (v := ?v85) (by simp only [List.getElem?_toArray, List.getElem?_cons_succ, List.getElem?_cons_zero]; exact rfl) (by kernel_rfl) (by kernel_rfl) (by kernel_rfl) (by intro _ _ _ h; exact h) (Or.inl ⟨by rfl, ?y85⟩) hHeld ?_
                  case y85 => (intro w hSw; (try dsimp only at hSw); go_simp; try (with_reducible rfl))
                  try simp only [Act.put, List.setIfInBounds_toArray, List.set_cons_zero, List.set_cons_succ]
                  refine wpAnyH_take (i := 5) (v := ?v86) (by simp only [List.getElem?_toArray, List.getElem?_cons_succ, List.getElem?_cons_zero]; exact rfl) (by kernel_rfl) (by kernel_rfl) (by kernel_rfl) (by intro _ _ _ h; exact h) (Or.inl ⟨by rfl, ?y86⟩) hHeld ?_
                  case y86 => (intro w hSw; (try dsimp only at hSw); go_simp; try (with_reducible rfl))
                  try simp only [Act.put, List.setIfInBounds_toArray, List.set_cons_zero, List.set_cons_succ]
                  refine wpAnyH_take (i := 6) (v := ?v87) (by simp only [List.getElem?_toArray, List.getElem?_cons_succ, List.getElem?_cons_zero]; exact rfl) (by kernel_rfl) (by kernel_rfl) (by kernel_rfl) (by intro _ _ _ h; exact h) (Or.inl ⟨by rfl, ?y87⟩) hHeld ?_
                  case y87 => (intro w hSw; (try dsimp only at hSw); go_simp; try (with_reducible rfl))
                  try simp only [Act.put, List.setIfInBounds_toArray, List.set_cons_zero, List.set_cons_succ]
                  refine wpAnyH_take (i := 7) (v := ?v88) (by simp only [List.getElem?_toArray, List.getElem?_cons_succ, List.getElem?_cons_zero]; exact rfl) (by kernel_rfl) (by kernel_rfl) (by kernel_rfl) (by intro _ _ _ h; exact h) (Or.inl ⟨by rfl, ?y88⟩) hHeld ?_
                  case y88 => (intro w hSw; (try dsimp only at hSw); go_simp; try (with_reducible rfl))
                  try simp only [Act.put, List.setIfInBounds_toArray, List.set_cons_zero, List.set_cons_succ]
                  refine wpAnyH_take (i := 8) (v := ?v89) (by simp only [List.getElem?_toArray, List.getElem?_cons_succ, List.getElem?_cons_zero]; exact rfl) (by kernel_rfl) (by kernel_rfl) (by kernel_rfl) (by intro _ _ _ h; exact h) (Or.inl ⟨by rfl, ?y89⟩) hHeld ?_
                  case y89 => (intro w hSw; (try dsimp only at hSw); go_simp; try (with_reducible rfl))
                  try simp only [Act.put, List.setIfInBounds_toArray, List.set_cons_zero, List.set_cons_succ]
                  refine wpAnyH_take (i := 9) (v := ?v90) (by simp only [List.getElem?_toArray, List.getElem?_cons_succ, List.getElem?_cons_zero]; exact rfl) (by kernel_rfl) (by kernel_rfl) (by kernel_rfl) (by intro _ _ _ h; exact h) (Or.inl ⟨by rfl, ?y90⟩) hHeld ?_
                  case y90 => (intro w hSw; (try dsimp only at hSw); go_simp; try (with_reducible rfl))
                  try simp only [Act.put, List.setIfInBounds_toArray, List.set_cons_zero, List.set_cons_succ]
                  refine wpAnyH_take (i := 10) (v := ?v91) (by simp only [List.getElem?_toArray, List.getElem?_cons_succ, List.getElem?_cons_zero]; exact rfl) (by kernel_rfl) (by kernel_rfl) (by kernel_rfl) (by intro _ _ _ h; exact h) (Or.inl ⟨by rfl, ?y91⟩) hHeld ?_
                  case y91 => (intro w hSw; (try dsimp only at hSw); go_simp; try (with_reducible rfl))
                  try simp only [Act.put, List.setIfInBounds_toArray, List.set_cons_zero, List.set_cons_succ]
                  refine wpAnyH_take (i := 11) (v := ?v92) (by simp only [List.getElem?_toArray, List.getElem?_cons_succ, List.getElem?_cons_zero]; exact rfl) (by kernel_rfl) (by kernel_rfl) (by kernel_rfl) (by intro _ _ _ h; exact h) (Or.inl ⟨by rfl, ?y92⟩) hHeld ?_
                  case y92 => (intro w hSw; (try dsimp only at hSw); go_simp; try (with_reducible rfl))
                  try simp only [Act.put, List.setIfInBounds_toArray, List.set_cons_zero, List.set_cons_succ]
                  refine wpAnyH_ready (rs := [3, 12]) (by kernel_rfl) (by simp) ?_
                  refine (AllReadyH.cons (by simp only [List.getElem?_toArray, List.getElem?_cons_succ, List.getElem?_cons_zero]; exact rfl) (fun K hK => ?b93_3) (AllReadyH.cons (by simp only [List.getElem?_toArray, List.getElem?_cons_succ, List.getElem?_cons_zero]; exact rfl) (fun K hK => ?b93_12) AllReadyH.nil))
                  case b93_3 =>
                    go_simp
                    refine (l1Copy_any _ _ _ (hd1.below hbd (Nat.le_refl _)) (by have := HA.out; omega)).mono ?_
                    rintro e wy ⟨xcp, rfl, hxc0, hb5⟩
                    rw [HA.out] at hxc0
                    have hxc := hxc0.weak hbd.size
                    try (have clit := (hb5.cell (cell_lt clit)).trans clit)
                    have hbd := hbd.trans (hb5.mono hbd.size)
                    clear hb5 e0 e1 e2 hxc0
                    obtain ⟨wd, rfl⟩ : ∃ x, x = wy := ⟨_, rfl⟩
                    have e0 := (hbd.cell (cell_lt c0)).trans c0
                    have e1 := (hbd.cell (cell_lt ce)).trans ce
                    have e2 := (hbd.cell (cell_lt cx)).trans cx
                    try dsimp only
                    refine hK.out _ _ ?h94 (fun hHeld => ?_)
                    case h94 => first | exact ⟨‹_›, ‹_›, ‹_›⟩ | (simp [*, go_sem])
                    clear hK K
                    try simp only [Act.put, List.setIfInBounds_toArray, List.set_cons_zero, List.set_cons_succ]
                    refine wpAnyH_ready (rs := [12]) (by kernel_rfl) (by simp) ?_
                    refine AllReadyH.cons (by simp only [List.getElem?_toArray, List.getElem?_cons_succ, List.getElem?_cons_zero]; exact rfl) (fun K hK => ?_) AllReadyH.nil
                    go_simp
                    obtain ⟨nb, hnb⟩ : ∃ nb, nb = wd.heap.size := ⟨_, rfl⟩
                    rw [← hnb]
                    have hbn : Below wd.heap.size wd (wd.alloc (.cells #[.int .i64 x] 2)) := (Below.refl _ _).alloc (Nat.le_refl _) _
                    have clit : (wd.alloc (.cells #[.int .i64 x] 2)).cell? ⟨nb, 0, none⟩ = some (.int .i64 x) := (by rw [hnb]; simp [go_sem])
                    try (have hxc := hxc.below hbn (Nat.le_refl _))
                    have hbd := hbd.trans (hbn.mono hbd.size)
                    clear hnb hbn e0 e1 e2
                    generalize wd.alloc (.cells #[.int .i64 x] 2) = wy at *
                    obtain ⟨wd, rfl⟩ : ∃ x, x = wy := ⟨_, rfl⟩
                    have e0 := (hbd.cell (cell_lt c0)).trans c0
                    have e1 := (hbd.cell (cell_lt ce)).trans ce
                    have e2 := (hbd.cell (cell_lt cx)).trans cx
                    try dsimp only
                    refine hK.out _ _ ?h96 (fun hHeld => ?_)
                    case h96 => first | exact ⟨‹_›, ‹_›, ‹_›⟩ | (simp [*, go_sem])
                    clear hK K
                    try simp only [Act.put, List.setIfInBounds_toArray, List.set_cons_zero, List.set_cons_succ]
                    refine wpAnyH_ready (rs := [13]) (by kernel_rfl) (by simp) ?_
                    refine AllReadyH.cons (by simp only [List.getElem?_toArray, List.getElem?_cons_succ, List.getElem?_cons_zero]; exact rfl) (fun K hK => ?_) AllReadyH.nil
                    rw [if_pos (by rfl)]
                    refine opWp_append1E elI64 _ _ rfl hxc rfl rfl clit rfl (by omega) hbd.size ?_
                    intro v3 wy ho3 hk3 hm3
                    have hbd := hk3.below hbd hbd.size (fun b hb => hxc.ge b hb)
                    clear clit hk3 hm3 e0 e1 e2 hxc
                    obtain ⟨wd, rfl⟩ : ∃ x, x = wy := ⟨_, rfl⟩
                    have e0 := (hbd.cell (cell_lt c0)).trans c0
                    have e1 := (hbd.cell (cell_lt ce)).trans ce
                    have e2 := (hbd.cell (cell_lt cx)).trans cx
                    obtain ⟨v3a, v3c, rfl⟩ := ho3.isSlice
                    try dsimp only
                    refine hK.out _ _ ?h98 (fun hHeld => ?_)
                    case h98 => first | exact ⟨‹_›, ‹_›, ‹_›⟩ | (simp [*, go_sem])
                    clear hK K
                    try simp only [Act.put, List.setIfInBounds_toArray, List.set_cons_zero, List.set_cons_succ]
                    refine wpAnyH_take (i := 14) (v := ?v99) (by simp only [List.getElem?_toArray, List.getElem?_cons_succ, List.getElem?_cons_zero]; exact rfl) (by kernel_rfl) (by kernel_rfl) (by kernel_rfl) (by intro _ _ _ h; exact h) (Or.inl ⟨by rfl, ?y99⟩) hHeld ?_
                    case y99 => (intro w hSw; (try dsimp only at hSw); go_simp; try (with_reducible rfl))
                    try simp only [Act.put, List.setIfInBounds_toArray, List.set_cons_zero, List.set_cons_succ]
                    refine wpAnyH_done (by kernel_rfl) ?_ _
                    exact rest xcp v3a v3c nb wd ⟨hbd, ho3⟩
                  case b93_12 =>
                    go_simp
                    obtain ⟨nb, hnb⟩ : ∃ nb, nb = wd.heap.size := ⟨_, rfl⟩
                    rw [← hnb]
                    have hbn : Below wd.heap.size wd (wd.alloc (.cells #[.int .i64 x] 2)) := (Below.refl _ _).alloc (Nat.le_refl _) _
                    have clit : (wd.alloc (.cells #[.int .i64 x] 2)).cell? ⟨nb, 0, none⟩ = some (.int .i64 x) := (by rw [hnb]; simp [go_sem])
                    try (have hxc := hxc.below hbn (Nat.le_refl _))
                    have hbd := hbd.trans (hbn.mono hbd.size)
                    clear hnb hbn e0 e1 e2
                    generalize wd.alloc (.cells #[.int .i64 x] 2) = wy at *
                    obtain ⟨wd, rfl⟩ : ∃ x, x = wy := ⟨_, rfl⟩
                    have e0 := (hbd.cell (cell_lt c0)).trans c0
                    have e1 := (hbd.cell (cell_lt ce)).trans ce
                    have e2 := (hbd.cell (cell_lt cx)).trans cx
                    try dsimp only
                    refine hK.out _ _ ?h100 (fun hHeld => ?_)
                    case h100 => first | exact ⟨‹_›, ‹_›, ‹_›⟩ | (simp [*, go_sem])
                    clear hK K
                    try simp only [Act.put, List.setIfInBounds_toArray, List.set_cons_zero, List.set_cons_succ]
                    refine wpAnyH_ready (rs := [3]) (by kernel_rfl) (by simp) ?_
                    refine AllReadyH.cons (by simp only [List.getElem?_toArray, List.getElem?_cons_succ, List.getElem?_cons_zero]; exact rfl) (fun K hK => ?_) AllReadyH.nil
                    go_simp
                    refine (l1Copy_any _ _ _ (hd1.below hbd (Nat.le_refl _)) (by have := HA.out; omega)).mono ?_
                    rintro e wy ⟨xcp, rfl, hxc0, hb5⟩
                    rw [HA.out] at hxc0
                    have hxc := hxc0.weak hbd.size
                    try (have clit := (hb5.cell (cell_lt clit)).trans clit)
                    have hbd := hbd.trans (hb5.mono hbd.size)
                    clear hb5 e0 e1 e2 hxc0
                    obtain ⟨wd, rfl⟩ : ∃ x, x = wy := ⟨_, rfl⟩
                    have e0 := (hbd.cell (cell_lt c0)).trans c0
                    have e1 := (hbd.cell (cell_lt ce)).trans ce
                    have e2 := (hbd.cell (cell_lt cx)).trans cx
                    try dsimp only
                    refine hK.out _ _ ?h102 (fun hHeld => ?_)
                    case h102 => first | exact ⟨‹_›, ‹_›, ‹_›⟩ | (simp [*, go_sem])
                    clear hK K
                    try simp only [Act.put, List.setIfInBounds_toArray, List.set_cons_zero, List.set_cons_succ]
                    refine wpAnyH_ready (rs := [13]) (by kernel_rfl) (by simp) ?_
                    refine AllReadyH.cons (by simp only [List.getElem?_toArray, List.getElem?_cons_succ, List.getElem?_cons_zero]; exact rfl) (fun K hK => ?_) AllReadyH.nil
                    rw [if_pos (by rfl)]
                    refine opWp_append1E elI64 _ _ rfl hxc rfl rfl clit rfl (by omega) hbd.size ?_
                    intro v3 wy ho3 hk3 hm3
                    have hbd := hk3.below hbd hbd.size (fun b hb => hxc.ge b hb)
                    clear clit hk3 hm3 e0 e1 e2 hxc
                    obtain ⟨wd, rfl⟩ : ∃ x, x = wy := ⟨_, rfl⟩
                    have e0 := (hbd.cell (cell_lt c0)).trans c0
                    have e1 := (hbd.cell (cell_lt ce)).trans ce
                    have e2 := (hbd.cell (cell_lt cx)).trans cx
                    obtain ⟨v3a, v3c, rfl⟩ := ho3.isSlice
                    try dsimp only
                    refine hK.out _ _ ?h104 (fun hHeld => ?_)
                    case h104 => first | exact ⟨‹_›, ‹_›, ‹_›⟩ | (simp [*, go_sem])
                    clear hK K
                    try simp only [Act.put, List.setIfInBounds_toArray, List.set_cons_zero, List.set_cons_succ]
                    refine wpAnyH_take (i := 14) (v := ?v105) (by simp only [List.getElem?_toArray, List.getElem?_cons_succ, List.getElem?_cons_zero]; exact rfl) (by kernel_rfl) (by kernel_rfl) (by kernel_rfl) (by intro _ _ _ h; exact h) (Or.inl ⟨by rfl, ?y105⟩) hHeld ?_
                    case y105 => (intro w hSw; (try dsimp only at hSw); go_simp; try (with_reducible rfl))
                    try simp only [Act.put, List.setIfInBounds_toArray, List.set_cons_zero, List.set_cons_succ]
                    refine wpAnyH_done (by kernel_rfl) ?_ _
                    exact rest xcp v3a v3c nb wd ⟨hbd, ho3⟩
                case rest =>
                  intro xcp v3a v3c nb wd ⟨hbd, ho3⟩
                  have hd3 := hd2.below hbd (Nat.le_refl _)
                  have hsum : k + 1 + C.length = k + 1 := by rw [HC.out]; omega
                  have HSUM := Lib.hid hsum
                  have hCl := HC.out
                  clear hd2 hd1 hsum htv
                  go_wp2_with (at_builtin; refine hold_in ?_)
                  unfold HoldP
                  refine wpList_appendI (ys := C) elI64 rfl _ _ rfl ho3 rfl rfl hd3 (by omega) hbd.size ?_
                  intro v4 wy ho4 hk4
                  rw [HSUM.out] at ho4
                  have hb4 : Below wq.heap.size wq wy := hk4.below hbd hbd.size (fun b hb => ho3.ge b hb)
                  obtain ⟨tb2, tc2, rfl⟩ := own_some ho4 (by omega)
                  have hXL : RowKit.Hid ((A ++ [x] ++ C).length = k + 1) := Lib.hid (by rw [List.length_append, List.length_append, HA.out]; exact HSUM.out)
                  have hT : Own wy wi.heap.size 2 1 (.slice (some ⟨tb2, 0, none⟩) (k + 1) tc2) (k + 1) ((A ++ [x] ++ C).map (.int .i64)) := by
                    rw [List.map_append, List.map_append]
                    exact ho4.weak hzw
                  have hDy := hD.below hb4 (Nat.le_refl _)
                  have hry := hrg.below hb4 (Nat.le_refl _)
                  have hzy := Nat.le_trans hzw hb4.size
                  clear hD hrg hzw hb4 ho4 hk4 ho3 hbd hd3 hCl
                  go_wp2
                  go_roundw
                  case rel => exact ⟨k + 1, A ++ [x] ++ C, tb2, tc2, by omega, rfl, by go_num, hXL.out, hT, hDy, hry, hzy⟩
                  case measure => (simp [RowKit.intOf] <;> omega)
            · have hj0 : decide ((0 : Int) < (k : Int)) = true := decide_eq_true (by omega)
              have hj1 : decide (0 < k) = true := decide_eq_true (by omega)
              have hbl := l1Below_any (n := (k : Int)) hD.mv.1 hl (by omega)
              go_wp2_with fail
              refine hbl.mono ?_
              rintro e wq ⟨j, rfl, hj, -, hmj⟩
              have hjk : j < k := by have := hj (by omega); omega
              have hD := hD.kept hmj
              have hrg := hrg.kept hmj hDlt (by omega)
              have hzw : wi.heap.size ≤ wq.heap.size := Nat.le_trans hzw hmj.size
              have htv := htv.keep (w' := wq) fun b hb => hmj.2.2.2.2.2 b (htv.lt b hb).2 (by have := (htv.lt b hb).1; simp; omega)
              obtain ⟨c0, c1, -, -⟩ := own_cell hD.bg
              have ce := hrg.cell
              obtain ⟨fk', fo', x', he', cx⟩ := hrg.elem hkm
              simp only [Option.some.injEq, Addr.mk.injEq, and_true] at he'
              obtain ⟨rfl, rfl⟩ := he'
              have hti := Own.ints (xs := xs) htv (by omega)
              obtain ⟨p, hp⟩ : ∃ p : Nat, (1 + (j : Int)) = (p : Int) := ⟨1 + j, by omega⟩
              have hpw : IntKind.i64.wrap (1 + (j : Int)) = (p : Int) := by rw [IntWalk.i64_in _ (by omega), hp]
              have hpk : p ≤ k := by omega
              clear hmj hj hjk hbl hp
              obtain ⟨x, rfl⟩ : ∃ y, y = x' := ⟨_, rfl⟩
              as_aux_lemma =>
                have hd1 := hti.take (m := p) (by omega)
                have hd2 := hti.dropE (m := p) (by omega)
                simp only [Nat.zero_add] at hd2
                obtain ⟨ad, had⟩ : ∃ ad, (if tc = p then some (⟨tb, 0, none⟩ : Addr) else some ⟨tb, p, none⟩) = ad := ⟨_, rfl⟩
                rw [had] at hd2
                try simp only [Nat.sub_self] at hd2
                have hA : (xs.take p).length = p := by rw [List.length_take]; omega
                have hC : (xs.drop p).length = k - p := by rw [List.length_drop]; omega
                generalize xs.take p = A at *
                generalize xs.drop p = C at *
                have hpI : ((p : Nat) : Int) ≤ ((k : Nat) : Int) := by omega
                have hpI2 : ((p : Nat) : Int) ≤ ((tc : Nat) : Int) := by omega
                have hpN : p ≤ tc := by omega
                have HC := Lib.hid hC
                have HA := Lib.hid hA
                have HXL := Lib.hid hxl
                clear hC hxl hti hA
                go_wp2_with fail
                apply meetD1 (H := fun (xcp : Value) (v3a : Option Addr) (v3c nb : Nat) (wd : World) => Below wq.heap.size wq wd ∧ Own wd wq.heap.size 2 1 (.slice v3a (p + 1) v3c) (p + 1) ((A.map (.int .i64)) ++ [.int .i64 x]))
                case orders =>
                  intro rest
                  refine wp_region_held_drew (S := (fun w' => w'.cell? ⟨gb, 0, none⟩ = some (.slice (some ⟨gk, go, none⟩) g.length uc) ∧ w'.cell? ⟨gk, go + v, none⟩ = some (.slice (some ⟨fk, fo, none⟩) row.length fc) ∧ w'.cell? ⟨fk, fo + k, none⟩ = some (.int .i64 x))) (by kernel_rfl) ?_ (fun hHeld => ?_)
                  · first | exact ⟨‹_›, ‹_›, ‹_›⟩ | (simp [*, go_sem])
                  have hbd : Below wq.heap.size wq wq.drew := ((Drawn.refl _).drew).below _
                  generalize wq.drew = wd at hbd hHeld ⊢
                  obtain ⟨e0, e1, e2⟩ := id hHeld
                  refine wpAnyH_take (i := 0) (v := ?v106) (by simp only [List.getElem?_toArray, List.getElem?_cons_zero]; exact rfl) (by kernel_rfl) (by kernel_rfl) (by kernel_rfl) (by intro _ _ _ h; exact h) (Or.inl ⟨by rfl, ?y106⟩) hHeld ?_
                  case y106 => (intro w hSw; (try dsimp only at hSw); go_simp; try (with_reducible rfl))
                  try simp only [Act.put, List.setIfInBounds_toArray, List.set_cons_zero, List.set_cons_succ]
                  refine wpAnyH_take (i := 1) (v := ?v107) (by simp only [List.getElem?_toArray, List.getElem?_cons_succ, List.getElem?_cons_zero]; exact rfl) (by kernel_rfl) (by kernel_rfl) (by kernel_rfl) (by intro _ _ _ h; exact h) (Or.inl ⟨by rfl, ?y107⟩) hHeld ?_
                  case y107 => (intro w hSw; (try dsimp only at hSw); go_simp; try (with_reducible rfl))
                  try simp only [Act.put, List.setIfInBounds_toArray, List.set_cons_zero, List.set_cons_succ]
                  refine wpAnyH_take (i := 2) (v := ?v108) (by simp only [List.getElem?_toArray, List.getElem?_cons_succ, List.getElem?_cons_zero]; exact rfl) (by kernel_rfl) (by kernel_rfl) (by kernel_rfl) (by intro _ _ _ h; exact h) (Or.inl ⟨by rfl, ?y108⟩) hHeld ?_
                  case y108 => (intro w hSw; (try dsimp only at hSw); go_simp; try (with_reducible rfl))
                  try simp only [Act.put, List.setIfInBounds_toArray, List.set_cons_zero, List.set_cons_succ]
                  refine wpAnyH_take (i := 4) (v := ?v109) (by simp only [List.getElem?_toArray, List.getElem?_cons_succ, List.getElem?_cons_zero]; exact rfl) (by kernel_rfl) (by kernel_rfl) (by kernel_rfl) (by intro _ _ _ h; exact h) (Or.inl ⟨by rfl, ?y109⟩) hHeld ?_
                  case y109 => (intro w hSw; (try dsimp only at hSw); go_simp; try (with_reducible rfl))
                  try simp only [Act.put, List.setIfInBounds_toArray, List.set_cons_zero, List.set_cons_succ]
                  refine wpAnyH_take (i := 5) (v := ?v110) (by simp only [List.getElem?_toArray, List.getElem?_cons_succ, List.getElem?_cons_zero]; exact rfl) (by kernel_rfl) (by kernel_rfl) (by kernel_rfl) (by intro _ _ _ h; exact h) (Or.inl ⟨by rfl, ?y110⟩) hHeld ?_
                  case y110 => (intro w hSw; (try dsimp only at hSw); go_simp; try (with_reducible rfl))
                  try simp only [Act.put, List.setIfInBounds_toArray, List.set_cons_zero, List.set_cons_succ]
                  refine wpAnyH_take (i := 6) (v := ?v111) (by simp only [List.getElem?_toArray, List.getElem?_cons_succ, List.getElem?_cons_zero]; exact rfl) (by kernel_rfl) (by kernel_rfl) (by kernel_rfl) (by intro _ _ _ h; exact h) (Or.inl ⟨by rfl, ?y111⟩) hHeld ?_
                  case y111 => (intro w hSw; (try dsimp only at hSw); go_simp; try (with_reducible rfl))
                  try simp only [Act.put, List.setIfInBounds_toArray, List.set_cons_zero, List.set_cons_succ]
                  refine wpAnyH_take (i := 7) (v := ?v112) (by simp only [List.getElem?_toArray, List.getElem?_cons_succ, List.getElem?_cons_zero]; exact rfl) (by kernel_rfl) (by kernel_rfl) (by kernel_rfl) (by intro _ _ _ h; exact h) (Or.inl ⟨by rfl, ?y112⟩) hHeld ?_
                  case y112 => (intro w hSw; (try dsimp only at hSw); go_simp; try (with_reducible rfl))
                  try simp only [Act.put, List.setIfInBounds_toArray, List.set_cons_zero, List.set_cons_succ]
                  refine wpAnyH_take (i := 8) (v := ?v113) (by simp only [List.getElem?_toArray, List.getElem?_cons_succ, List.getElem?_cons_zero]; exact rfl) (by kernel_rfl) (by kernel_rfl) (by kernel_rfl) (by intro _ _ _ h; exact h) (Or.inl ⟨by rfl, ?y113⟩) hHeld ?_
                  case y113 => (intro w hSw; (try dsimp only at hSw); go_simp; try (with_reducible rfl))
                  try simp only [Act.put, List.setIfInBounds_toArray, List.set_cons_zero, List.set_cons_succ]
                  refine wpAnyH_take (i := 9) (v := ?v114) (by simp only [List.getElem?_toArray, List.getElem?_cons_succ, List.getElem?_cons_zero]; exact rfl) (by kernel_rfl) (by kernel_rfl) (by kernel_rfl) (by intro _ _ _ h; exact h) (Or.inl ⟨by rfl, ?y114⟩) hHeld ?_
                  case y114 => (intro w hSw; (try dsimp only at hSw); go_simp; try (with_reducible rfl))
                  try simp only [Act.put, List.setIfInBounds_toArray, List.set_cons_zero, List.set_cons_succ]
                  refine wpAnyH_take (i := 10) (v := ?v115) (by simp only [List.getElem?_toArray, List.getElem?_cons_succ, List.getElem?_cons_zero]; exact rfl) (by kernel_rfl) (by kernel_rfl) (by kernel_rfl) (by intro _ _ _ h; exact h) (Or.inl ⟨by rfl, ?y115⟩) hHeld ?_
                  case y115 => (intro w hSw; (try dsimp only at hSw); go_simp; try (with_reducible rfl))
                  try simp only [Act.put, List.setIfInBounds_toArray, List.set_cons_zero, List.set_cons_succ]
                  refine wpAnyH_take (i := 11) (v := ?v116) (by simp only [List.getElem?_toArray, List.getElem?_cons_succ, List.getElem?_cons_zero]; exact rfl) (by kernel_rfl) (by kernel_rfl) (by kernel_rfl) (by intro _ _ _ h; exact h) (Or.inl ⟨by rfl, ?y116⟩) hHeld ?_
                  case y116 => (intro w hSw; (try dsimp only at hSw); go_simp; try (with_reducible rfl))
                  try simp only [Act.put, List.setIfInBounds_toArray, List.set_cons_zero, List.set_cons_succ]
                  refine wpAnyH_ready (rs := [3, 12]) (by kernel_rfl) (by simp) ?_
                  refine (AllReadyH.cons (by simp only [List.getElem?_toArray, List.getElem?_cons_succ, List.getElem?_cons_zero]; exact rfl) (fun K hK => ?b117_3) (AllReadyH.cons (by simp only [List.getElem?_toArray, List.getElem?_cons_succ, List.getElem?_cons_zero]; exact rfl) (fun K hK => ?b117_12) AllReadyH.nil))
                  case b117_3 =>
                    go_simp
                    refine (l1Copy_any _ _ _ (hd1.below hbd (Nat.le_refl _)) (by have := HA.out; omega)).mono ?_
                    rintro e wy ⟨xcp, rfl, hxc0, hb5⟩
                    rw [HA.out] at hxc0
                    have hxc := hxc0.weak hbd.size
                    try (have clit := (hb5.cell (cell_lt clit)).trans clit)
                    have hbd := hbd.trans (hb5.mono hbd.size)
                    clear hb5 e0 e1 e2 hxc0
                    obtain ⟨wd, rfl⟩ : ∃ x, x = wy := ⟨_, rfl⟩
                    have e0 := (hbd.cell (cell_lt c0)).trans c0
                    have e1 := (hbd.cell (cell_lt ce)).trans ce
                    have e2 := (hbd.cell (cell_lt cx)).trans cx
                    try dsimp only
                    refine hK.out _ _ ?h118 (fun hHeld => ?_)
                    case h118 => first | exact ⟨‹_›, ‹_›, ‹_›⟩ | (simp [*, go_sem])
                    clear hK K
                    try simp only [Act.put, List.setIfInBounds_toArray, List.set_cons_zero, List.set_cons_succ]
                    refine wpAnyH_ready (rs := [12]) (by kernel_rfl) (by simp) ?_
                    refine AllReadyH.cons (by simp only [List.getElem?_toArray, List.getElem?_cons_succ, List.getElem?_cons_zero]; exact rfl) (fun K hK => ?_) AllReadyH.nil
                    go_simp
                    obtain ⟨nb, hnb⟩ : ∃ nb, nb = wd.heap.size := ⟨_, rfl⟩
                    rw [← hnb]
                    have hbn : Below wd.heap.size wd (wd.alloc (.cells #[.int .i64 x] 2)) := (Below.refl _ _).alloc (Nat.le_refl _) _
                    have clit : (wd.alloc (.cells #[.int .i64 x] 2)).cell? ⟨nb, 0, none⟩ = some (.int .i64 x) := (by rw [hnb]; simp [go_sem])
                    try (have hxc := hxc.below hbn (Nat.le_refl _))
                    have hbd := hbd.trans (hbn.mono hbd.size)
                    clear hnb hbn e0 e1 e2
                    generalize wd.alloc (.cells #[.int .i64 x] 2) = wy at *
                    obtain ⟨wd, rfl⟩ : ∃ x, x = wy := ⟨_, rfl⟩
                    have e0 := (hbd.cell (cell_lt c0)).trans c0
                    have e1 := (hbd.cell (cell_lt ce)).trans ce
                    have e2 := (hbd.cell (cell_lt cx)).trans cx
                    try dsimp only
                    refine hK.out _ _ ?h120 (fun hHeld => ?_)
                    case h120 => first | exact ⟨‹_›, ‹_›, ‹_›⟩ | (simp [*, go_sem])
                    clear hK K
                    try simp only [Act.put, List.setIfInBounds_toArray, List.set_cons_zero, List.set_cons_succ]
                    refine wpAnyH_ready (rs := [13]) (by kernel_rfl) (by simp) ?_
                    refine AllReadyH.cons (by simp only [List.getElem?_toArray, List.getElem?_cons_succ, List.getElem?_cons_zero]; exact rfl) (fun K hK => ?_) AllReadyH.nil
                    rw [if_pos (by rfl)]
                    refine opWp_append1E elI64 _ _ rfl hxc rfl rfl clit rfl (by omega) hbd.size ?_
                    intro v3 wy ho3 hk3 hm3
                    have hbd := hk3.below hbd hbd.size (fun b hb => hxc.ge b hb)
                    clear clit hk3 hm3 e0 e1 e2 hxc
                    obtain ⟨wd, rfl⟩ : ∃ x, x = wy := ⟨_, rfl⟩
                    have e0 := (hbd.cell (cell_lt c0)).trans c0
                    have e1 := (hbd.cell (cell_lt ce)).trans ce
                    have e2 := (hbd.cell (cell_lt cx)).trans cx
                    obtain ⟨v3a, v3c, rfl⟩ := ho3.isSlice
                    try dsimp only
                    refine hK.out _ _ ?h122 (fun hHeld => ?_)
                    case h122 => first | exact ⟨‹_›, ‹_›, ‹_›⟩ | (simp [*, go_sem])
                    clear hK K
                    try simp only [Act.put, List.setIfInBounds_toArray, List.set_cons_zero, List.set_cons_succ]
                    refine wpAnyH_take (i := 14) (v := ?v123) (by simp only [List.getElem?_toArray, List.getElem?_cons_succ, List.getElem?_cons_zero]; exact rfl) (by kernel_rfl) (by kernel_rfl) (by kernel_rfl) (by intro _ _ _ h; exact h) (Or.inl ⟨by rfl, ?y123⟩) hHeld ?_
                    case y123 => (intro w hSw; (try dsimp only at hSw); go_simp; try (with_reducible rfl))
                    try simp only [Act.put, List.setIfInBounds_toArray, List.set_cons_zero, List.set_cons_succ]
                    refine wpAnyH_done (by kernel_rfl) ?_ _
                    exact rest xcp v3a v3c nb wd ⟨hbd, ho3⟩
                  case b117_12 =>
                    go_simp
                    obtain ⟨nb, hnb⟩ : ∃ nb, nb = wd.heap.size := ⟨_, rfl⟩
                    rw [← hnb]
                    have hbn : Below wd.heap.size wd (wd.alloc (.cells #[.int .i64 x] 2)) := (Below.refl _ _).alloc (Nat.le_refl _) _
                    have clit : (wd.alloc (.cells #[.int .i64 x] 2)).cell? ⟨nb, 0, none⟩ = some (.int .i64 x) := (by rw [hnb]; simp [go_sem])
                    try (have hxc := hxc.below hbn (Nat.le_refl _))
                    have hbd := hbd.trans (hbn.mono hbd.size)
                    clear hnb hbn e0 e1 e2
                    generalize wd.alloc (.cells #[.int .i64 x] 2) = wy at *
                    obtain ⟨wd, rfl⟩ : ∃ x, x = wy := ⟨_, rfl⟩
                    have e0 := (hbd.cell (cell_lt c0)).trans c0
                    have e1 := (hbd.cell (cell_lt ce)).trans ce
                    have e2 := (hbd.cell (cell_lt cx)).trans cx
                    try dsimp only
                    refine hK.out _ _ ?h124 (fun hHeld => ?_)
                    case h124 => first | exact ⟨‹_›, ‹_›, ‹_›⟩ | (simp [*, go_sem])
                    clear hK K
                    try simp only [Act.put, List.setIfInBounds_toArray, List.set_cons_zero, List.set_cons_succ]
                    refine wpAnyH_ready (rs := [3]) (by kernel_rfl) (by simp) ?_
                    refine AllReadyH.cons (by simp only [List.getElem?_toArray, List.getElem?_cons_succ, List.getElem?_cons_zero]; exact rfl) (fun K hK => ?_) AllReadyH.nil
                    go_simp
                    refine (l1Copy_any _ _ _ (hd1.below hbd (Nat.le_refl _)) (by have := HA.out; omega)).mono ?_
                    rintro e wy ⟨xcp, rfl, hxc0, hb5⟩
                    rw [HA.out] at hxc0
                    have hxc := hxc0.weak hbd.size
                    try (have clit := (hb5.cell (cell_lt clit)).trans clit)
                    have hbd := hbd.trans (hb5.mono hbd.size)
                    clear hb5 e0 e1 e2 hxc0
                    obtain ⟨wd, rfl⟩ : ∃ x, x = wy := ⟨_, rfl⟩
                    have e0 := (hbd.cell (cell_lt c0)).trans c0
                    have e1 := (hbd.cell (cell_lt ce)).trans ce
                    have e2 := (hbd.cell (cell_lt cx)).trans cx
                    try dsimp only
                    refine hK.out _ _ ?h126 (fun hHeld => ?_)
                    case h126 => first | exact ⟨‹_›, ‹_›, ‹_›⟩ | (simp [*, go_sem])
                    clear hK K
                    try simp only [Act.put, List.setIfInBounds_toArray, List.set_cons_zero, List.set_cons_succ]
                    refine wpAnyH_ready (rs := [13]) (by kernel_rfl) (by simp) ?_
                    refine AllReadyH.cons (by simp only [List.getElem?_toArray, List.getElem?_cons_succ, List.getElem?_cons_zero]; exact rfl) (fun K hK => ?_) AllReadyH.nil
                    rw [if_pos (by rfl)]
                    refine opWp_append1E elI64 _ _ rfl hxc rfl rfl clit rfl (by omega) hbd.size ?_
                    intro v3 wy ho3 hk3 hm3
                    have hbd := hk3.below hbd hbd.size (fun b hb => hxc.ge b hb)
                    clear clit hk3 hm3 e0 e1 e2 hxc
                    obtain ⟨wd, rfl⟩ : ∃ x, x = wy := ⟨_, rfl⟩
                    have e0 := (hbd.cell (cell_lt c0)).trans c0
                    have e1 := (hbd.cell (cell_lt ce)).trans ce
                    have e2 := (hbd.cell (cell_lt cx)).trans cx
                    obtain ⟨v3a, v3c, rfl⟩ := ho3.isSlice
                    try dsimp only
                    refine hK.out _ _ ?h128 (fun hHeld => ?_)
                    case h128 => first | exact ⟨‹_›, ‹_›, ‹_›⟩ | (simp [*, go_sem])
                    clear hK K
                    try simp only [Act.put, List.setIfInBounds_toArray, List.set_cons_zero, List.set_cons_succ]
                    refine wpAnyH_take (i := 14) (v := ?v129) (by simp only [List.getElem?_toArray, List.getElem?_cons_succ, List.getElem?_cons_zero]; exact rfl) (by kernel_rfl) (by kernel_rfl) (by kernel_rfl) (by intro _ _ _ h; exact h) (Or.inl ⟨by rfl, ?y129⟩) hHeld ?_
                    case y129 => (intro w hSw; (try dsimp only at hSw); go_simp; try (with_reducible rfl))
                    try simp only [Act.put, List.setIfInBounds_toArray, List.set_cons_zero, List.set_cons_succ]
                    refine wpAnyH_done (by kernel_rfl) ?_ _
                    exact rest xcp v3a v3c nb wd ⟨hbd, ho3⟩
                case rest =>
                  intro xcp v3a v3c nb wd ⟨hbd, ho3⟩
                  have hd3 := hd2.below hbd (Nat.le_refl _)
                  have hsum : p + 1 + C.length = k + 1 := by rw [HC.out]; omega
                  have HSUM := Lib.hid hsum
                  have hCl := HC.out
                  clear hd2 hd1 hsum htv
                  go_wp2_with (at_builtin; refine hold_in ?_)
                  unfold HoldP
                  refine wpList_appendI (ys := C) elI64 rfl _ _ rfl ho3 rfl rfl hd3 (by omega) hbd.size ?_
                  intro v4 wy ho4 hk4
                  rw [HSUM.out] at ho4
                  have hb4 : Below wq.heap.size wq wy := hk4.below hbd hbd.size (fun b hb => ho3.ge b hb)
                  obtain ⟨tb2, tc2, rfl⟩ := own_some ho4 (by omega)
                  have hXL : RowKit.Hid ((A ++ [x] ++ C).length = k + 1) := Lib.hid (by rw [List.length_append, List.length_append, HA.out]; exact HSUM.out)
                  have hT : Own wy wi.heap.size 2 1 (.slice (some ⟨tb2, 0, none⟩) (k + 1) tc2) (k + 1) ((A ++ [x] ++ C).map (.int .i64)) := by
                    rw [List.map_append, List.map_append]
                    exact ho4.weak hzw
                  have hDy := hD.below hb4 (Nat.le_refl _)
                  have hry := hrg.below hb4 (Nat.le_refl _)
                  have hzy := Nat.le_trans hzw hb4.size
                  clear hD hrg hzw hb4 ho4 hk4 ho3 hbd hd3 hCl
                  go_wp2
                  go_roundw
                  case rel => exact ⟨k + 1, A ++ [x] ++ C, tb2, tc2, by omega, rfl, by go_num, hXL.out, hT, hDy, hry, hzy⟩
                  case measure => (simp [RowKit.intOf] <;> omega)
    | true =>
      have hrk := hok rfl
      clear hok hDn
      go_wp2_with fail
      rw [HW5.out, HXB.out]
      refine (l1Once_any (n := 2) hD.mv.1 hl (by omega)).mono ?_
      rintro e w6 ⟨b, rfl, hm6⟩
      have hD := hD.kept hm6
      clear hm6
      cases b with
      | false =>
        as_aux_lemma =>
          have hCW : xb ≤ w6.heap.size := Nat.le_of_lt hD.hi
          obtain ⟨ab, hxa⟩ : ∃ ab, xa = some ⟨ab, 0, none⟩ := by
            obtain ⟨vs, -, h, -⟩ := hD.ow
            obtain ⟨b, c, e⟩ := own_some h hrk.1
            simp only [Value.slice.injEq] at e
            exact ⟨b, e.1⟩
          subst hxa
          have hD := hD.room hCW
          clear hCW
          obtain ⟨z0, z1, z2⟩ := hrk
          have hsr : SmallR r 1048576 := ⟨by omega, fun i hi _ => by have := z2 r[i] (List.getElem_mem hi); omega⟩
          have hL2 : ∀ y ∈ r, y.length ≤ 2000 := fun y hy => by have := z2 y hy; omega
          go_wp2_with fail
          skip
          refine (l1Once_any (n := 10) hD.mv.1 hl (by omega)).mono ?_
          rintro e wt ⟨b10, rfl, hmt⟩
          have hD := (hD.kept hmt).room hmt.size
          clear hmt
          cases b10 with
          | false =>
            as_aux_lemma =>
              have hEt := hD.e22 (Nat.le_refl _) hsr
              obtain ⟨k0, k1, -, -⟩ := own_cell hEt.bg
              obtain ⟨k2, k3, -, -⟩ := own_cell hEt.bx
              skip
              go_wp2
              refine wp_region_held_drew (S := (fun w' => w'.cell? ⟨gb, 0, none⟩ = some (.slice (some ⟨gk, go, none⟩) g.length uc) ∧ w'.cell? ⟨xb, 0, none⟩ = some (.slice (some ⟨ab, 0, none⟩) r.length xc))) (by kernel_rfl) ?_ (fun hHeld => ?_)
              · first | exact ⟨‹_›, ‹_›⟩ | exact ⟨(World.cell?_setCell_other _ _ _ _ (fun e => hne2 (congrArg Addr.block e))).trans ((World.cell?_setCell_other _ _ _ _ (fun e => hne1 (congrArg Addr.block e))).trans hHl1), (World.cell?_setCell_other _ _ _ _ (fun e => hne4 (congrArg Addr.block e))).trans ((World.cell?_setCell_other _ _ _ _ (fun e => hne3 (congrArg Addr.block e))).trans hHl2)⟩ | (simp [*, go_sem])
              have hEd := hEt.drawn (Drawn.refl _).drew
              generalize World.drew _ = wd at hEd hHeld ⊢
              have hfin := hEd.fin hgl (by omega) (hL2)
              obtain ⟨p0, p1, -, -⟩ := own_cell hEd.r0
              obtain ⟨q0, q1, -, -⟩ := own_cell hEd.r1
              have hq0 : ∀ x : Value, (wd.setCell ⟨w.heap.size, 0, none⟩ x).cell? ⟨w.heap.size + 1, 0, none⟩ = some (.slice none 0 0) := fun x => (World.cell?_setCell_other _ _ _ _ (fun e => by have := congrArg Addr.block e; simp at this)).trans q0
              have hp0 : ∀ x : Value, (wd.setCell ⟨w.heap.size + 1, 0, none⟩ x).cell? ⟨w.heap.size, 0, none⟩ = some (.slice none 0 0) := fun x => (World.cell?_setCell_other _ _ _ _ (fun e => by have := congrArg Addr.block e; simp at this)).trans p0
              have hne1 : ¬ (w.heap.size = gb) := by have := hEd.lo; omega
              have hne2 : ¬ (w.heap.size + 1 = gb) := by have := hEd.lo; omega
              have hne3 : ¬ (w.heap.size = xb) := by have := hEd.lo; omega
              have hne4 : ¬ (w.heap.size + 1 = xb) := by have := hEd.lo; omega
              have hHl1 := hHeld.1
              have hHl2 := hHeld.2
              refine wpAnyH_take (i := 0) (v := ?v130) (by simp only [List.getElem?_toArray, List.getElem?_cons_zero]; exact rfl) (by kernel_rfl) (by kernel_rfl) (by kernel_rfl) (by intro _ _ _ h; exact h) (Or.inl ⟨by rfl, ?y130⟩) hHeld ?_
              case y130 => (intro w hSw; (try dsimp only at hSw); go_simp; try (with_reducible rfl))
              try simp only [Act.put, List.setIfInBounds_toArray, List.set_cons_zero, List.set_cons_succ]
              refine wpAnyH_take (i := 1) (v := ?v131) (by simp only [List.getElem?_toArray, List.getElem?_cons_succ, List.getElem?_cons_zero]; exact rfl) (by kernel_rfl) (by kernel_rfl) (by kernel_rfl) (by intro _ _ _ h; exact h) (Or.inl ⟨by rfl, ?y131⟩) hHeld ?_
              case y131 => (intro w hSw; (try dsimp only at hSw); go_simp; try (with_reducible rfl))
              try simp only [Act.put, List.setIfInBounds_toArray, List.set_cons_zero, List.set_cons_succ]
              refine wpAnyH_ready (rs := [2]) (by kernel_rfl) (by simp) ?_
              refine AllReadyH.cons (by simp only [List.getElem?_toArray, List.getElem?_cons_succ, List.getElem?_cons_zero]; exact rfl) (fun K hK => ?_) AllReadyH.nil
              go_simp
              skip
              try dsimp only
              refine hK.out _ _ ?h133 (fun hHeld => ?_)
              case h133 => first | exact ⟨‹_›, ‹_›⟩ | exact ⟨(World.cell?_setCell_other _ _ _ _ (fun e => hne2 (congrArg Addr.block e))).trans ((World.cell?_setCell_other _ _ _ _ (fun e => hne1 (congrArg Addr.block e))).trans hHl1), (World.cell?_setCell_other _ _ _ _ (fun e => hne4 (congrArg Addr.block e))).trans ((World.cell?_setCell_other _ _ _ _ (fun e => hne3 (congrArg Addr.block e))).trans hHl2)⟩ | (simp [*, go_sem])
              clear hK K
              try simp only [Act.put, List.setIfInBounds_toArray, List.set_cons_zero, List.set_cons_succ]
              refine wpAnyH_ready (rs := [3]) (by kernel_rfl) (by simp) ?_
              refine AllReadyH.cons (by simp only [List.getElem?_toArray, List.getElem?_cons_succ, List.getElem?_cons_zero]; exact rfl) (fun K hK => ?_) AllReadyH.nil
              go_simp
              skip
              try dsimp only
              refine hK.out _ _ ?h135 (fun hHeld => ?_)
              case h135 => first | exact ⟨‹_›, ‹_›⟩ | exact ⟨(World.cell?_setCell_other _ _ _ _ (fun e => hne2 (congrArg Addr.block e))).trans ((World.cell?_setCell_other _ _ _ _ (fun e => hne1 (congrArg Addr.block e))).trans hHl1), (World.cell?_setCell_other _ _ _ _ (fun e => hne4 (congrArg Addr.block e))).trans ((World.cell?_setCell_other _ _ _ _ (fun e => hne3 (congrArg Addr.block e))).trans hHl2)⟩ | (simp [*, go_sem])
              clear hK K
              try simp only [Act.put, List.setIfInBounds_toArray, List.set_cons_zero, List.set_cons_succ]
              refine wpAnyH_done (by kernel_rfl) ?_ _
              obtain ⟨f1, f2, f3⟩ := hfin _ (by first | exact .inl rfl | exact .inr rfl)
              go_wp2
              exact bodyPost_ret (v := .tuple #[.agg #[.slice (some ⟨gk, go, none⟩) g.length uc], .agg #[.slice (some ⟨ab, 0, none⟩) r.length xc]]) (by simp [results, Tryz.results26, go_sem, f1, f2]) rfl f3
          | true =>
            obtain ⟨x0, x1, -, -⟩ := own_cell hD.bx
            have hbv := l1Below_any (n := (r.length : Int)) hD.mv.1 hl (by omega)
            go_wp2_with fail
            refine hbv.mono ?_
            rintro e wu ⟨v, rfl, hv, -, hmu⟩
            have hvl : v < r.length := by have := hv (by omega); omega
            have hD := (hD.kept hmu).room hmu.size
            clear hmu hbv hv x0 x1
            go_wp2_with fail
            refine (l1Below_any (n := 3) hD.mv.1 hl (by omega)).mono ?_
            rintro e wv ⟨q, rfl, hq, -, hmv⟩
            have hq3 : q < 3 := by have := hq (by omega); omega
            have hD := (hD.kept hmv).room hmv.size
            clear hmv hq
            obtain ⟨x0, x1, -, -⟩ := own_cell hD.bx
            obtain ⟨ra, rc, hc, hf, hrow, hab, hBab, hnew, hgrow⟩ := hD.ow.rowAny hvl (fun y hy => by have := z2 y hy; omega) (by omega)
            have hax : ab ≠ xb := fun e => by
              obtain ⟨vs, -, h, -⟩ := hD.ow
              exact own_type h hD.bx (by decide) xb (by rw [e]; rfl) rfl
            have hv1 : (v : Int) < r.length := by omega
            have hvr : r[v].length ≤ 40 := z2 _ (List.getElem_mem hvl)
            have hDhi := hD.hi
            have hDlo := hD.lo
            have hDlt := hD.lt
            by_cases h0 : q = 0
            · subst h0
              clear hnew hgrow
              go_wp2
              refine wp_region_late (S := (fun w' => w'.cell? ⟨xb, 0, none⟩ = some (.slice (some ⟨ab, 0, none⟩) r.length xc) ∧ w'.cell? ⟨ab, v, none⟩ = some (.slice ra r[v].length rc))) (late := [13]) (by kernel_rfl) ?_ (fun hHeld => ?_)
              · first | exact ⟨‹_›, ‹_›⟩ | (simp [*, go_sem])
              obtain ⟨d0, d1⟩ := hHeld
              have hDd := hD.drawn (Drawn.refl _).drew
              have hszd : wv.drew.heap.size = wv.heap.size := rfl
              generalize wv.drew = wd at d0 d1 hDd hszd ⊢
              have hHeld : (fun w' => World.cell? w' ⟨xb, 0, none⟩ = some (.slice (some ⟨ab, 0, none⟩) r.length xc) ∧ World.cell? w' ⟨ab, v, none⟩ = some (.slice ra r[v].length rc)) wd := ⟨d0, d1⟩
              refine wpLate_take (i := 0) (v := ?v136) (by simp only [List.getElem?_toArray, List.getElem?_cons_zero]; exact rfl) (by kernel_rfl) (by kernel_rfl) (by kernel_rfl) (by intro _ _ _ h; exact h) (Or.inl ⟨by rfl, ?y136⟩) ?_
              case y136 => (intro w _; go_simp; try (with_reducible rfl))
              try simp only [Act.put, List.setIfInBounds_toArray, List.set_cons_zero, List.set_cons_succ]
              refine wpLate_load (i := 1) (v := ?v137) (by simp only [List.getElem?_toArray, List.getElem?_cons_succ, List.getElem?_cons_zero]; exact rfl) (by kernel_rfl) (by kernel_rfl) (by kernel_rfl) (by kernel_rfl) (by intro _ _ _ h; exact h) (Or.inl ⟨by rfl, ?y137⟩) hHeld ?_
              case y137 => (intro w hSw; (try dsimp only at hSw); go_simp; try (with_reducible rfl))
              try simp only [Act.put, List.setIfInBounds_toArray, List.set_cons_zero, List.set_cons_succ]
              refine wpLate_take (i := 2) (v := ?v138) (by simp only [List.getElem?_toArray, List.getElem?_cons_succ, List.getElem?_cons_zero]; exact rfl) (by kernel_rfl) (by kernel_rfl) (by kernel_rfl) (by intro _ _ _ h; exact h) (Or.inl ⟨by rfl, ?y138⟩) ?_
              case y138 => (intro w _; go_simp; try (with_reducible rfl))
              try simp only [Act.put, List.setIfInBounds_toArray, List.set_cons_zero, List.set_cons_succ]
              refine wpLate_take (i := 3) (v := ?v139) (by simp only [List.getElem?_toArray, List.getElem?_cons_succ, List.getElem?_cons_zero]; exact rfl) (by kernel_rfl) (by kernel_rfl) (by kernel_rfl) (by intro _ _ _ h; exact h) (Or.inl ⟨by rfl, ?y139⟩) ?_
              case y139 => (intro w _; go_simp; try (with_reducible rfl))
              try simp only [Act.put, List.setIfInBounds_toArray, List.set_cons_zero, List.set_cons_succ]
              refine wpLate_load (i := 4) (v := ?v140) (by simp only [List.getElem?_toArray, List.getElem?_cons_succ, List.getElem?_cons_zero]; exact rfl) (by kernel_rfl) (by kernel_rfl) (by kernel_rfl) (by kernel_rfl) (by intro _ _ _ h; exact h) (Or.inl ⟨by rfl, ?y140⟩) hHeld ?_
              case y140 => (intro w hSw; (try dsimp only at hSw); go_simp; try (with_reducible rfl))
              try simp only [Act.put, List.setIfInBounds_toArray, List.set_cons_zero, List.set_cons_succ]
              refine wpLate_take (i := 5) (v := ?v141) (by simp only [List.getElem?_toArray, List.getElem?_cons_succ, List.getElem?_cons_zero]; exact rfl) (by kernel_rfl) (by kernel_rfl) (by kernel_rfl) (by intro _ _ _ h; exact h) (Or.inl ⟨by rfl, ?y141⟩) ?_
              case y141 => (intro w _; go_simp; try (with_reducible rfl))
              try simp only [Act.put, List.setIfInBounds_toArray, List.set_cons_zero, List.set_cons_succ]
              refine wpLate_take (i := 6) (v := ?v142) (by simp only [List.getElem?_toArray, List.getElem?_cons_succ, List.getElem?_cons_zero]; exact rfl) (by kernel_rfl) (by kernel_rfl) (by kernel_rfl) (by intro _ _ _ h; exact h) (Or.inl ⟨by rfl, ?y142⟩) ?_
              case y142 => (intro w _; go_simp; try (with_reducible rfl))
              try simp only [Act.put, List.setIfInBounds_toArray, List.set_cons_zero, List.set_cons_succ]
              refine wpLate_load (i := 7) (v := ?v143) (by simp only [List.getElem?_toArray, List.getElem?_cons_succ, List.getElem?_cons_zero]; exact rfl) (by kernel_rfl) (by kernel_rfl) (by kernel_rfl) (by kernel_rfl) (by intro _ _ _ h; exact h) (Or.inl ⟨by rfl, ?y143⟩) hHeld ?_
              case y143 => (intro w hSw; (try dsimp only at hSw); go_simp; try (with_reducible rfl))
              try simp only [Act.put, List.setIfInBounds_toArray, List.set_cons_zero, List.set_cons_succ]
              refine wpLate_take (i := 8) (v := ?v144) (by simp only [List.getElem?_toArray, List.getElem?_cons_succ, List.getElem?_cons_zero]; exact rfl) (by kernel_rfl) (by kernel_rfl) (by kernel_rfl) (by intro _ _ _ h; exact h) (Or.inl ⟨by rfl, ?y144⟩) ?_
              case y144 => (intro w _; go_simp; try (with_reducible rfl))
              try simp only [Act.put, List.setIfInBounds_toArray, List.set_cons_zero, List.set_cons_succ]
              refine wpLate_one (i := 9) (by kernel_rfl) (by simp only [List.getElem?_toArray, List.getElem?_cons_succ, List.getElem?_cons_zero]; exact rfl) (by kernel_rfl) (fun K hK => ?_)
              go_simp
              refine (l1Num_any (most := 7) hDd.mv.1 hl (by omega)).mono ?_
              rintro e wn ⟨y, rfl, hmn⟩
              have hmns := hmn.size
              have hDn := (hDd.kept hmn).room (C' := wn.heap.size) (by omega)
              have d0 := (own_cell hDn.bx).1
              have d1 := (hmn.cell (a := ⟨ab, v, none⟩) (by show ab < _; omega) (by show ab ≠ d; omega)).trans d1
              try dsimp only
              refine hK.out _ _ ?h146 (fun hHeld => ?_)
              case h146 => first | exact ⟨‹_›, ‹_›⟩ | (simp [*, go_sem])
              clear hK K
              try simp only [Act.put, List.setIfInBounds_toArray, List.set_cons_zero, List.set_cons_succ]
              refine wpLate_one (i := 10) (by kernel_rfl) (by simp only [List.getElem?_toArray, List.getElem?_cons_succ, List.getElem?_cons_zero]; exact rfl) (by kernel_rfl) (fun K hK => ?_)
              go_simp
              have hbb : Below wn.heap.size wn (wn.alloc (.cells #[.int .i64 y] 2)) := (Below.refl _ _).alloc (Nat.le_refl _) _
              have d0b := (hbb.cell (cell_lt d0)).trans d0
              have d1b := (hbb.cell (cell_lt d1)).trans d1
              try dsimp only
              refine hK.out _ _ ?h148 (fun hHeld => ?_)
              case h148 => first | exact ⟨‹_›, ‹_›⟩ | (simp [*, go_sem])
              clear hK K
              try simp only [Act.put, List.setIfInBounds_toArray, List.set_cons_zero, List.set_cons_succ]
              refine wpLate_one (i := 11) (by kernel_rfl) (by simp only [List.getElem?_toArray, List.getElem?_cons_succ, List.getElem?_cons_zero]; exact rfl) (by kernel_rfl) (fun K hK => ?_)
              rw [if_pos (by rfl)]
              obtain ⟨ra', rc', hc', hf', hown', hab', -, -, hgrow'⟩ := hDn.ow.rowAny hvl (fun y hy => by have := z2 y hy; omega) (by omega)
              have hre := hc'.symm.trans d1
              simp only [Option.some.injEq, Value.slice.injEq, true_and] at hre
              obtain ⟨rfl, rfl⟩ := hre
              refine opWp_append1S elI64 _ _ rfl hown' rfl rfl rfl rfl (by omega) (by have := hDn.hi; omega) ?_
              intro rv w8 hown8 hkept hmv
              obtain ⟨rva, rvc, rfl⟩ := hown8.isSlice
              have hqb : ∀ b, (Value.slice ra' r[v].length rc').ownBlock = some b → gb + 1 ≤ b ∧ b ≠ xb := (fun b hb => ⟨hown'.ge b hb, fun e => own_type hown' hDn.bx (by decide) b hb (by rw [e]; rfl)⟩)
              have hne3 : (Value.slice ra' r[v].length rc').ownBlock ≠ some ab := (fun e => (by obtain ⟨vs, -, hvs, -⟩ := hDn.ow; exact own_type hown' hvs (by decide) _ e rfl))
              have ho8 := own1_kept hDn.bx hkept (fun e => (hqb _ e).2 rfl)
              have d0 := (own_cell ho8).1
              have hab8 := hkept.2.2.2.2 ab hab' (fun e => hne3 e.symm)
              have d1 := (World.cell?_of_block (a := ⟨ab, v, none⟩) hab8).trans d1
              have f1 := (World.frozen?_of_block (a := ⟨ab, v, none⟩) hab8).trans hf'
              try dsimp only
              refine hK.out _ _ ?h150 (fun hHeld => ?_)
              case h150 => first | exact ⟨‹_›, ‹_›⟩ | (simp [*, go_sem])
              clear hK K
              try simp only [Act.put, List.setIfInBounds_toArray, List.set_cons_zero, List.set_cons_succ]
              refine wpLate_take (i := 12) (v := ?v151) (by simp only [List.getElem?_toArray, List.getElem?_cons_succ, List.getElem?_cons_zero]; exact rfl) (by kernel_rfl) (by kernel_rfl) (by kernel_rfl) (by intro _ _ _ h; exact h) (Or.inl ⟨by rfl, ?y151⟩) ?_
              case y151 => (intro w _; go_simp; try (with_reducible rfl))
              try simp only [Act.put, List.setIfInBounds_toArray, List.set_cons_zero, List.set_cons_succ]
              refine wpLate_late (i := 13) (by kernel_rfl) (by simp only [List.getElem?_toArray, List.getElem?_cons_succ, List.getElem?_cons_zero]; exact rfl) (by kernel_rfl) (fun K hK => ?_)
              go_simp
              skip
              try dsimp only
              refine hK.out _ _ ?_
              clear hK K
              try simp only [Act.put, List.setIfInBounds_toArray, List.set_cons_zero, List.set_cons_succ]
              refine wpLate_done (by kernel_rfl) ?_ _
              have hS := hgrow' (r := r[v] ++ [y]) hkept hmv (by simp) (by rw [List.length_append, List.map_append]; exact hown8) (by simp; omega)
              have hE0 := hDn.row hkept hqb hBab hax hS
              have hLa : (r.set v (r[v] ++ [y])).length ≤ 2000 := by rw [List.length_set]; omega
              have hLb := set_rows (k := v) hL2 (show (r[v] ++ [y]).length ≤ 2000 by simp; omega)
              clear hS hgrow' hown8 hkept hmv hDn hDd hD hown'
              as_aux_lemma =>
                have hEt := hE0
                obtain ⟨k0, k1, -, -⟩ := own_cell hEt.bg
                obtain ⟨k2, k3, -, -⟩ := own_cell hEt.bx
                skip
                go_wp2
                refine wp_region_held_drew (S := (fun w' => w'.cell? ⟨gb, 0, none⟩ = some (.slice (some ⟨gk, go, none⟩) g.length uc) ∧ w'.cell? ⟨xb, 0, none⟩ = some (.slice (some ⟨ab, 0, none⟩) r.length xc))) (by kernel_rfl) ?_ (fun hHeld => ?_)
                · first | exact ⟨‹_›, ‹_›⟩ | exact ⟨(World.cell?_setCell_other _ _ _ _ (fun e => hne2 (congrArg Addr.block e))).trans ((World.cell?_setCell_other _ _ _ _ (fun e => hne1 (congrArg Addr.block e))).trans hHl1), (World.cell?_setCell_other _ _ _ _ (fun e => hne4 (congrArg Addr.block e))).trans ((World.cell?_setCell_other _ _ _ _ (fun e => hne3 (congrArg Addr.block e))).trans hHl2)⟩ | (simp [*, go_sem])
                have hEd := hEt.drawn (Drawn.refl _).drew
                generalize World.drew _ = wd at hEd hHeld ⊢
                have hfin := hEd.fin hgl (hLa) (hLb)
                obtain ⟨p0, p1, -, -⟩ := own_cell hEd.r0
                obtain ⟨q0, q1, -, -⟩ := own_cell hEd.r1
                have hq0 : ∀ x : Value, (wd.setCell ⟨w.heap.size, 0, none⟩ x).cell? ⟨w.heap.size + 1, 0, none⟩ = some (.slice none 0 0) := fun x => (World.cell?_setCell_other _ _ _ _ (fun e => by have := congrArg Addr.block e; simp at this)).trans q0
                have hp0 : ∀ x : Value, (wd.setCell ⟨w.heap.size + 1, 0, none⟩ x).cell? ⟨w.heap.size, 0, none⟩ = some (.slice none 0 0) := fun x => (World.cell?_setCell_other _ _ _ _ (fun e => by have := congrArg Addr.block e; simp at this)).trans p0
                have hne1 : ¬ (w.heap.size = gb) := by have := hEd.lo; omega
                have hne2 : ¬ (w.heap.size + 1 = gb) := by have := hEd.lo; omega
                have hne3 : ¬ (w.heap.size = xb) := by have := hEd.lo; omega
                have hne4 : ¬ (w.heap.size + 1 = xb) := by have := hEd.lo; omega
                have hHl1 := hHeld.1
                have hHl2 := hHeld.2
                refine wpAnyH_take (i := 0) (v := ?v154) (by simp only [List.getElem?_toArray, List.getElem?_cons_zero]; exact rfl) (by kernel_rfl) (by kernel_rfl) (by kernel_rfl) (by intro _ _ _ h; exact h) (Or.inl ⟨by rfl, ?y154⟩) hHeld ?_
                case y154 => (intro w hSw; (try dsimp only at hSw); go_simp; try (with_reducible rfl))
                try simp only [Act.put, List.setIfInBounds_toArray, List.set_cons_zero, List.set_cons_succ]
                refine wpAnyH_take (i := 1) (v := ?v155) (by simp only [List.getElem?_toArray, List.getElem?_cons_succ, List.getElem?_cons_zero]; exact rfl) (by kernel_rfl) (by kernel_rfl) (by kernel_rfl) (by intro _ _ _ h; exact h) (Or.inl ⟨by rfl, ?y155⟩) hHeld ?_
                case y155 => (intro w hSw; (try dsimp only at hSw); go_simp; try (with_reducible rfl))
                try simp only [Act.put, List.setIfInBounds_toArray, List.set_cons_zero, List.set_cons_succ]
                refine wpAnyH_ready (rs := [2]) (by kernel_rfl) (by simp) ?_
                refine AllReadyH.cons (by simp only [List.getElem?_toArray, List.getElem?_cons_succ, List.getElem?_cons_zero]; exact rfl) (fun K hK => ?_) AllReadyH.nil
                go_simp
                skip
                try dsimp only
                refine hK.out _ _ ?h157 (fun hHeld => ?_)
                case h157 => first | exact ⟨‹_›, ‹_›⟩ | exact ⟨(World.cell?_setCell_other _ _ _ _ (fun e => hne2 (congrArg Addr.block e))).trans ((World.cell?_setCell_other _ _ _ _ (fun e => hne1 (congrArg Addr.block e))).trans hHl1), (World.cell?_setCell_other _ _ _ _ (fun e => hne4 (congrArg Addr.block e))).trans ((World.cell?_setCell_other _ _ _ _ (fun e => hne3 (congrArg Addr.block e))).trans hHl2)⟩ | (simp [*, go_sem])
                clear hK K
                try simp only [Act.put, List.setIfInBounds_toArray, List.set_cons_zero, List.set_cons_succ]
                refine wpAnyH_ready (rs := [3]) (by kernel_rfl) (by simp) ?_
                refine AllReadyH.cons (by simp only [List.getElem?_toArray, List.getElem?_cons_succ, List.getElem?_cons_zero]; exact rfl) (fun K hK => ?_) AllReadyH.nil
                go_simp
                skip
                try dsimp only
                refine hK.out _ _ ?h159 (fun hHeld => ?_)
                case h159 => first | exact ⟨‹_›, ‹_›⟩ | exact ⟨(World.cell?_setCell_other _ _ _ _ (fun e => hne2 (congrArg Addr.block e))).trans ((World.cell?_setCell_other _ _ _ _ (fun e => hne1 (congrArg Addr.block e))).trans hHl1), (World.cell?_setCell_other _ _ _ _ (fun e => hne4 (congrArg Addr.block e))).trans ((World.cell?_setCell_other _ _ _ _ (fun e => hne3 (congrArg Addr.block e))).trans hHl2)⟩ | (simp [*, go_sem])
                clear hK K
                try simp only [Act.put, List.setIfInBounds_toArray, List.set_cons_zero, List.set_cons_succ]
                refine wpAnyH_done (by kernel_rfl) ?_ _
                obtain ⟨f1, f2, f3⟩ := hfin _ (by first | exact .inl rfl | exact .inr rfl)
                go_wp2
                exact bodyPost_ret (v := .tuple #[.agg #[.slice (some ⟨gk, go, none⟩) g.length uc], .agg #[.slice (some ⟨ab, 0, none⟩) r.length xc]]) (by simp [results, Tryz.results26, go_sem, f1, f2]) rfl f3
            by_cases h1 : q = 1
            · subst h1
              clear h0 hgrow
              by_cases hr0 : 0 < r[v].length
              case neg =>
                have hrz : r[v].length = 0 := by omega
                have hrz1 : decide ((0 : Int) < ((r[v].length : Nat) : Int)) = false := decide_eq_false (by omega)
                have hrz2 : decide (0 < r[v].length) = false := decide_eq_false (by omega)
                clear hrz
                as_aux_lemma =>
                  have hEt := hD.e22 (Nat.le_refl _) hsr
                  obtain ⟨k0, k1, -, -⟩ := own_cell hEt.bg
                  obtain ⟨k2, k3, -, -⟩ := own_cell hEt.bx
                  skip
                  go_wp2
                  refine wp_region_held_drew (S := (fun w' => w'.cell? ⟨gb, 0, none⟩ = some (.slice (some ⟨gk, go, none⟩) g.length uc) ∧ w'.cell? ⟨xb, 0, none⟩ = some (.slice (some ⟨ab, 0, none⟩) r.length xc))) (by kernel_rfl) ?_ (fun hHeld => ?_)
                  · first | exact ⟨‹_›, ‹_›⟩ | exact ⟨(World.cell?_setCell_other _ _ _ _ (fun e => hne2 (congrArg Addr.block e))).trans ((World.cell?_setCell_other _ _ _ _ (fun e => hne1 (congrArg Addr.block e))).trans hHl1), (World.cell?_setCell_other _ _ _ _ (fun e => hne4 (congrArg Addr.block e))).trans ((World.cell?_setCell_other _ _ _ _ (fun e => hne3 (congrArg Addr.block e))).trans hHl2)⟩ | (simp [*, go_sem])
                  have hEd := hEt.drawn (Drawn.refl _).drew
                  generalize World.drew _ = wd at hEd hHeld ⊢
                  have hfin := hEd.fin hgl (by omega) (hL2)
                  obtain ⟨p0, p1, -, -⟩ := own_cell hEd.r0
                  obtain ⟨q0, q1, -, -⟩ := own_cell hEd.r1
                  have hq0 : ∀ x : Value, (wd.setCell ⟨w.heap.size, 0, none⟩ x).cell? ⟨w.heap.size + 1, 0, none⟩ = some (.slice none 0 0) := fun x => (World.cell?_setCell_other _ _ _ _ (fun e => by have := congrArg Addr.block e; simp at this)).trans q0
                  have hp0 : ∀ x : Value, (wd.setCell ⟨w.heap.size + 1, 0, none⟩ x).cell? ⟨w.heap.size, 0, none⟩ = some (.slice none 0 0) := fun x => (World.cell?_setCell_other _ _ _ _ (fun e => by have := congrArg Addr.block e; simp at this)).trans p0
                  have hne1 : ¬ (w.heap.size = gb) := by have := hEd.lo; omega
                  have hne2 : ¬ (w.heap.size + 1 = gb) := by have := hEd.lo; omega
                  have hne3 : ¬ (w.heap.size = xb) := by have := hEd.lo; omega
                  have hne4 : ¬ (w.heap.size + 1 = xb) := by have := hEd.lo; omega
                  have hHl1 := hHeld.1
                  have hHl2 := hHeld.2
                  refine wpAnyH_take (i := 0) (v := ?v160) (by simp only [List.getElem?_toArray, List.getElem?_cons_zero]; exact rfl) (by kernel_rfl) (by kernel_rfl) (by kernel_rfl) (by intro _ _ _ h; exact h) (Or.inl ⟨by rfl, ?y160⟩) hHeld ?_
                  case y160 => (intro w hSw; (try dsimp only at hSw); go_simp; try (with_reducible rfl))
                  try simp only [Act.put, List.setIfInBounds_toArray, List.set_cons_zero, List.set_cons_succ]
                  refine wpAnyH_take (i := 1) (v := ?v161) (by simp only [List.getElem?_toArray, List.getElem?_cons_succ, List.getElem?_cons_zero]; exact rfl) (by kernel_rfl) (by kernel_rfl) (by kernel_rfl) (by intro _ _ _ h; exact h) (Or.inl ⟨by rfl, ?y161⟩) hHeld ?_
                  case y161 => (intro w hSw; (try dsimp only at hSw); go_simp; try (with_reducible rfl))
                  try simp only [Act.put, List.setIfInBounds_toArray, List.set_cons_zero, List.set_cons_succ]
                  refine wpAnyH_ready (rs := [2]) (by kernel_rfl) (by simp) ?_
                  refine AllReadyH.cons (by simp only [List.getElem?_toArray, List.getElem?_cons_succ, List.getElem?_cons_zero]; exact rfl) (fun K hK => ?_) AllReadyH.nil
                  go_simp
                  skip
                  try dsimp only
                  refine hK.out _ _ ?h163 (fun hHeld => ?_)
                  case h163 => first | exact ⟨‹_›, ‹_›⟩ | exact ⟨(World.cell?_setCell_other _ _ _ _ (fun e => hne2 (congrArg Addr.block e))).trans ((World.cell?_setCell_other _ _ _ _ (fun e => hne1 (congrArg Addr.block e))).trans hHl1), (World.cell?_setCell_other _ _ _ _ (fun e => hne4 (congrArg Addr.block e))).trans ((World.cell?_setCell_other _ _ _ _ (fun e => hne3 (congrArg Addr.block e))).trans hHl2)⟩ | (simp [*, go_sem])
                  clear hK K
                  try simp only [Act.put, List.setIfInBounds_toArray, List.set_cons_zero, List.set_cons_succ]
                  refine wpAnyH_ready (rs := [3]) (by kernel_rfl) (by simp) ?_
                  refine AllReadyH.cons (by simp only [List.getElem?_toArray, List.getElem?_cons_succ, List.getElem?_cons_zero]; exact rfl) (fun K hK => ?_) AllReadyH.nil
                  go_simp
                  skip
                  try dsimp only
                  refine hK.out _ _ ?h165 (fun hHeld => ?_)
                  case h165 => first | exact ⟨‹_›, ‹_›⟩ | exact ⟨(World.cell?_setCell_other _ _ _ _ (fun e => hne2 (congrArg Addr.block e))).trans ((World.cell?_setCell_other _ _ _ _ (fun e => hne1 (congrArg Addr.block e))).trans hHl1), (World.cell?_setCell_other _ _ _ _ (fun e => hne4 (congrArg Addr.block e))).trans ((World.cell?_setCell_other _ _ _ _ (fun e => hne3 (congrArg Addr.block e))).trans hHl2)⟩ | (simp [*, go_sem])
                  clear hK K
                  try simp only [Act.put, List.setIfInBounds_toArray, List.set_cons_zero, List.set_cons_succ]
                  refine wpAnyH_done (by kernel_rfl) ?_ _
                  obtain ⟨f1, f2, f3⟩ := hfin _ (by first | exact .inl rfl | exact .inr rfl)
                  go_wp2
                  exact bodyPost_ret (v := .tuple #[.agg #[.slice (some ⟨gk, go, none⟩) g.length uc], .agg #[.slice (some ⟨ab, 0, none⟩) r.length xc]]) (by simp [results, Tryz.results26, go_sem, f1, f2]) rfl f3
              obtain ⟨rb, rc', hre⟩ := own_some hrow hr0
              simp only [Value.slice.injEq, true_and] at hre
              obtain ⟨rfl, rfl⟩ := hre
              obtain ⟨y0, hy0⟩ : ∃ y0, wv.cell? ⟨rb, 0, none⟩ = some (.int .i64 y0) := ⟨r[v][0], by have := World.ownsRow.cellAt hrow 0 (by omega); simpa [hr0] using this⟩
              have hri := Own.ints (xs := r[v]) hrow (by omega)
              have hd2 := hri.dropE (m := 1) (by omega)
              obtain ⟨hq4, hq5, hq6⟩ := hri.capOf
              simp only [Nat.zero_add] at hd2
              obtain ⟨ad, had⟩ : ∃ ad, (if rc = 1 then some (⟨rb, 0, none⟩ : Addr) else some ⟨rb, 1, none⟩) = ad := ⟨_, rfl⟩
              rw [had] at hd2
              have hA : ((r[v]).drop 1).length = r[v].length - 1 := by simp
              have HN := Lib.hid (fun (w1 : World) (rv : Value) (A : List Int) (hA : (r[v]).drop 1 = A) (h1 : Below wv.heap.size wv w1) (h2 : Own w1 wv.heap.size 2 1 rv (A.length + 1) ((A ++ [y0]).map (.int .i64))) (h3 : A.length ≤ 40) => hnew (r := A ++ [y0]) h1 (by rw [List.length_append]; exact h2) (by rw [List.length_append]; simp; omega))
              have HR := Lib.hid (fun (w8 : World) (rv : Value) (A : List Int) (h1 : Below wv.heap.size wv w8) h2 => hD.row (v := v) (rv := rv) (r' := r.set v (A ++ [y0])) (q := none) (kept_ofB h1 (Nat.le_refl _)) (fun b hb => by cases hb) hBab hax h2)
              obtain ⟨A, hAe⟩ : ∃ A, A = (r[v]).drop 1 := ⟨_, rfl⟩
              rw [← hAe] at hd2 hA
              have hA40 : A.length ≤ 40 := by omega
              have HAE := Lib.hid hAe.symm
              have hm1 : (1 : Int) ≤ ((r[v].length : Nat) : Int) := by omega
              have hrz1 : decide ((0 : Int) < ((r[v].length : Nat) : Int)) = true := decide_eq_true (by omega)
              have hrz2 : decide (0 < r[v].length) = true := decide_eq_true hr0
              have hLb := set_rows (k := v) hL2 (show (A ++ [y0]).length ≤ 2000 by simp; omega)
              have hLa : (r.set v (A ++ [y0])).length ≤ 2000 := by rw [List.length_set]; omega
              have hfr := World.ownsRow.frozenAt hrow 0
              clear hAe hnew hri hA
              generalize r[v].length = m at *
              go_wp2_with fail
              apply meetD1 (H := fun (xcp : Value) (v3a : Option Addr) (v3c nb : Nat) (wd : World) => E22 w (wd.setCell ⟨ab, v, none⟩ (.slice v3a (A.length + 1) v3c)) d bs gb xb (.slice (some ⟨gk, go, none⟩) g.length uc) g (.slice (some ⟨ab, 0, none⟩) r.length xc) (r.set v (A ++ [y0])))
              case orders =>
                intro rest
                refine wp_region_late (S := (fun w' => w'.cell? ⟨xb, 0, none⟩ = some (.slice (some ⟨ab, 0, none⟩) r.length xc) ∧ w'.cell? ⟨ab, v, none⟩ = some (.slice (some ⟨rb, 0, none⟩) m rc) ∧ w'.cell? ⟨rb, 0, none⟩ = some (.int .i64 y0))) (late := [20]) (by kernel_rfl) ?_ (fun hHeld => ?_)
                · first | exact ⟨‹_›, ‹_›, ‹_›⟩ | (simp [*, go_sem])
                have hbd : Below wv.heap.size wv wv.drew := ((Drawn.refl _).drew).below _
                generalize wv.drew = wd at hbd hHeld ⊢
                obtain ⟨e0, e1, e2⟩ := id hHeld
                refine wpLate_take (i := 0) (v := ?v166) (by simp only [List.getElem?_toArray, List.getElem?_cons_zero]; exact rfl) (by kernel_rfl) (by kernel_rfl) (by kernel_rfl) (by intro _ _ _ h; exact h) (Or.inl ⟨by rfl, ?y166⟩) ?_
                case y166 => (intro w _; go_simp; try (with_reducible rfl))
                try simp only [Act.put, List.setIfInBounds_toArray, List.set_cons_zero, List.set_cons_succ]
                refine wpLate_load (i := 1) (v := ?v167) (by simp only [List.getElem?_toArray, List.getElem?_cons_succ, List.getElem?_cons_zero]; exact rfl) (by kernel_rfl) (by kernel_rfl) (by kernel_rfl) (by kernel_rfl) (by intro _ _ _ h; exact h) (Or.inl ⟨by rfl, ?y167⟩) hHeld ?_
                case y167 => (intro w hSw; (try dsimp only at hSw); go_simp; try (with_reducible rfl))
                try simp only [Act.put, List.setIfInBounds_toArray, List.set_cons_zero, List.set_cons_succ]
                refine wpLate_take (i := 2) (v := ?v168) (by simp only [List.getElem?_toArray, List.getElem?_cons_succ, List.getElem?_cons_zero]; exact rfl) (by kernel_rfl) (by kernel_rfl) (by kernel_rfl) (by intro _ _ _ h; exact h) (Or.inl ⟨by rfl, ?y168⟩) ?_
                case y168 => (intro w _; go_simp; try (with_reducible rfl))
                try simp only [Act.put, List.setIfInBounds_toArray, List.set_cons_zero, List.set_cons_succ]
                refine wpLate_take (i := 3) (v := ?v169) (by simp only [List.getElem?_toArray, List.getElem?_cons_succ, List.getElem?_cons_zero]; exact rfl) (by kernel_rfl) (by kernel_rfl) (by kernel_rfl) (by intro _ _ _ h; exact h) (Or.inl ⟨by rfl, ?y169⟩) ?_
                case y169 => (intro w _; go_simp; try (with_reducible rfl))
                try simp only [Act.put, List.setIfInBounds_toArray, List.set_cons_zero, List.set_cons_succ]
                refine wpLate_load (i := 4) (v := ?v170) (by simp only [List.getElem?_toArray, List.getElem?_cons_succ, List.getElem?_cons_zero]; exact rfl) (by kernel_rfl) (by kernel_rfl) (by kernel_rfl) (by kernel_rfl) (by intro _ _ _ h; exact h) (Or.inl ⟨by rfl, ?y170⟩) hHeld ?_
                case y170 => (intro w hSw; (try dsimp only at hSw); go_simp; try (with_reducible rfl))
                try simp only [Act.put, List.setIfInBounds_toArray, List.set_cons_zero, List.set_cons_succ]
                refine wpLate_take (i := 5) (v := ?v171) (by simp only [List.getElem?_toArray, List.getElem?_cons_succ, List.getElem?_cons_zero]; exact rfl) (by kernel_rfl) (by kernel_rfl) (by kernel_rfl) (by intro _ _ _ h; exact h) (Or.inl ⟨by rfl, ?y171⟩) ?_
                case y171 => (intro w _; go_simp; try (with_reducible rfl))
                try simp only [Act.put, List.setIfInBounds_toArray, List.set_cons_zero, List.set_cons_succ]
                refine wpLate_take (i := 6) (v := ?v172) (by simp only [List.getElem?_toArray, List.getElem?_cons_succ, List.getElem?_cons_zero]; exact rfl) (by kernel_rfl) (by kernel_rfl) (by kernel_rfl) (by intro _ _ _ h; exact h) (Or.inl ⟨by rfl, ?y172⟩) ?_
                case y172 => (intro w _; go_simp; try (with_reducible rfl))
                try simp only [Act.put, List.setIfInBounds_toArray, List.set_cons_zero, List.set_cons_succ]
                refine wpLate_load (i := 7) (v := ?v173) (by simp only [List.getElem?_toArray, List.getElem?_cons_succ, List.getElem?_cons_zero]; exact rfl) (by kernel_rfl) (by kernel_rfl) (by kernel_rfl) (by kernel_rfl) (by intro _ _ _ h; exact h) (Or.inl ⟨by rfl, ?y173⟩) hHeld ?_
                case y173 => (intro w hSw; (try dsimp only at hSw); go_simp; try (with_reducible rfl))
                try simp only [Act.put, List.setIfInBounds_toArray, List.set_cons_zero, List.set_cons_succ]
                refine wpLate_take (i := 8) (v := ?v174) (by simp only [List.getElem?_toArray, List.getElem?_cons_succ, List.getElem?_cons_zero]; exact rfl) (by kernel_rfl) (by kernel_rfl) (by kernel_rfl) (by intro _ _ _ h; exact h) (Or.inl ⟨by rfl, ?y174⟩) ?_
                case y174 => (intro w _; go_simp; try (with_reducible rfl))
                try simp only [Act.put, List.setIfInBounds_toArray, List.set_cons_zero, List.set_cons_succ]
                refine wpLate_take (i := 10) (v := ?v175) (by simp only [List.getElem?_toArray, List.getElem?_cons_succ, List.getElem?_cons_zero]; exact rfl) (by kernel_rfl) (by kernel_rfl) (by kernel_rfl) (by intro _ _ _ h; exact h) (Or.inl ⟨by rfl, ?y175⟩) ?_
                case y175 => (intro w _; go_simp; try (with_reducible rfl))
                try simp only [Act.put, List.setIfInBounds_toArray, List.set_cons_zero, List.set_cons_succ]
                refine wpLate_load (i := 11) (v := ?v176) (by simp only [List.getElem?_toArray, List.getElem?_cons_succ, List.getElem?_cons_zero]; exact rfl) (by kernel_rfl) (by kernel_rfl) (by kernel_rfl) (by kernel_rfl) (by intro _ _ _ h; exact h) (Or.inl ⟨by rfl, ?y176⟩) hHeld ?_
                case y176 => (intro w hSw; (try dsimp only at hSw); go_simp; try (with_reducible rfl))
                try simp only [Act.put, List.setIfInBounds_toArray, List.set_cons_zero, List.set_cons_succ]
                refine wpLate_take (i := 12) (v := ?v177) (by simp only [List.getElem?_toArray, List.getElem?_cons_succ, List.getElem?_cons_zero]; exact rfl) (by kernel_rfl) (by kernel_rfl) (by kernel_rfl) (by intro _ _ _ h; exact h) (Or.inl ⟨by rfl, ?y177⟩) ?_
                case y177 => (intro w _; go_simp; try (with_reducible rfl))
                try simp only [Act.put, List.setIfInBounds_toArray, List.set_cons_zero, List.set_cons_succ]
                refine wpLate_take (i := 13) (v := ?v178) (by simp only [List.getElem?_toArray, List.getElem?_cons_succ, List.getElem?_cons_zero]; exact rfl) (by kernel_rfl) (by kernel_rfl) (by kernel_rfl) (by intro _ _ _ h; exact h) (Or.inl ⟨by rfl, ?y178⟩) ?_
                case y178 => (intro w _; go_simp; try (with_reducible rfl))
                try simp only [Act.put, List.setIfInBounds_toArray, List.set_cons_zero, List.set_cons_succ]
                refine wpLate_load (i := 14) (v := ?v179) (by simp only [List.getElem?_toArray, List.getElem?_cons_succ, List.getElem?_cons_zero]; exact rfl) (by kernel_rfl) (by kernel_rfl) (by kernel_rfl) (by kernel_rfl) (by intro _ _ _ h; exact h) (Or.inl ⟨by rfl, ?y179⟩) hHeld ?_
                case y179 => (intro w hSw; (try dsimp only at hSw); go_simp; try (with_reducible rfl))
                try simp only [Act.put, List.setIfInBounds_toArray, List.set_cons_zero, List.set_cons_succ]
                refine wpLate_take (i := 15) (v := ?v180) (by simp only [List.getElem?_toArray, List.getElem?_cons_succ, List.getElem?_cons_zero]; exact rfl) (by kernel_rfl) (by kernel_rfl) (by kernel_rfl) (by intro _ _ _ h; exact h) (Or.inl ⟨by rfl, ?y180⟩) ?_
                case y180 => (intro w _; go_simp; try (with_reducible rfl))
                try simp only [Act.put, List.setIfInBounds_toArray, List.set_cons_zero, List.set_cons_succ]
                refine wpLate_load (i := 16) (v := ?v181) (by simp only [List.getElem?_toArray, List.getElem?_cons_succ, List.getElem?_cons_zero]; exact rfl) (by kernel_rfl) (by kernel_rfl) (by kernel_rfl) (by kernel_rfl) (by intro _ _ _ h; exact h) (Or.inl ⟨by rfl, ?y181⟩) hHeld ?_
                case y181 => (intro w hSw; (try dsimp only at hSw); go_simp; try (with_reducible rfl))
                try simp only [Act.put, List.setIfInBounds_toArray, List.set_cons_zero, List.set_cons_succ]
                refine wpLate_two (i := 9) (j := 17) (by kernel_rfl) (by simp only [List.getElem?_toArray, List.getElem?_cons_succ, List.getElem?_cons_zero]; exact rfl) (by simp only [List.getElem?_toArray, List.getElem?_cons_succ, List.getElem?_cons_zero]; exact rfl) (by kernel_rfl) (by kernel_rfl) (fun K hK => ?a182) (fun K hK => ?b182)
                case a182 =>
                  go_simp
                  refine (l1Copy_any _ _ _ (hd2.below hbd (Nat.le_refl _)) (by omega)).mono ?_
                  rintro e wy ⟨xcp, rfl, hxc0, hb5⟩
                  have hxc := hxc0.weak hbd.size
                  try (have clit := (hb5.cell (cell_lt clit)).trans clit)
                  have hbd := hbd.trans (hb5.mono hbd.size)
                  clear hb5 e0 e1 e2 hxc0
                  obtain ⟨wd, rfl⟩ : ∃ x, x = wy := ⟨_, rfl⟩
                  have e0 := (hbd.cell (cell_lt x0)).trans x0
                  have e1 := (hbd.cell (cell_lt hc)).trans hc
                  have e2 := (hbd.cell (cell_lt hy0)).trans hy0
                  try dsimp only
                  refine hK.out _ _ ?h183 (fun hHeld => ?_)
                  case h183 => first | exact ⟨‹_›, ‹_›, ‹_›⟩ | (simp [*, go_sem])
                  clear hK K
                  try simp only [Act.put, List.setIfInBounds_toArray, List.set_cons_zero, List.set_cons_succ]
                  refine wpLate_one (i := 17) (by kernel_rfl) (by simp only [List.getElem?_toArray, List.getElem?_cons_succ, List.getElem?_cons_zero]; exact rfl) (by kernel_rfl) (fun K hK => ?_)
                  go_simp
                  obtain ⟨nb, hnb⟩ : ∃ nb, nb = wd.heap.size := ⟨_, rfl⟩
                  rw [← hnb]
                  have hbn : Below wd.heap.size wd (wd.alloc (.cells #[.int .i64 y0] 2)) := (Below.refl _ _).alloc (Nat.le_refl _) _
                  have clit : (wd.alloc (.cells #[.int .i64 y0] 2)).cell? ⟨nb, 0, none⟩ = some (.int .i64 y0) := (by rw [hnb]; simp [go_sem])
                  try (have hxc := hxc.below hbn (Nat.le_refl _))
                  have hbd := hbd.trans (hbn.mono hbd.size)
                  clear hnb hbn e0 e1 e2
                  generalize wd.alloc (.cells #[.int .i64 y0] 2) = wy at *
                  obtain ⟨wd, rfl⟩ : ∃ x, x = wy := ⟨_, rfl⟩
                  have e0 := (hbd.cell (cell_lt x0)).trans x0
                  have e1 := (hbd.cell (cell_lt hc)).trans hc
                  have e2 := (hbd.cell (cell_lt hy0)).trans hy0
                  try dsimp only
                  refine hK.out _ _ ?h185 (fun hHeld => ?_)
                  case h185 => first | exact ⟨‹_›, ‹_›, ‹_›⟩ | (simp [*, go_sem])
                  clear hK K
                  try simp only [Act.put, List.setIfInBounds_toArray, List.set_cons_zero, List.set_cons_succ]
                  refine wpLate_one (i := 18) (by kernel_rfl) (by simp only [List.getElem?_toArray, List.getElem?_cons_succ, List.getElem?_cons_zero]; exact rfl) (by kernel_rfl) (fun K hK => ?_)
                  rw [if_pos (by rfl)]
                  refine opWp_append1E elI64 _ _ rfl hxc rfl rfl clit rfl (by omega) hbd.size ?_
                  intro v3 wy ho3 hk3 hm3
                  have hbd := hk3.below hbd hbd.size (fun b hb => hxc.ge b hb)
                  clear clit hk3 hm3 e0 e1 e2 hxc
                  obtain ⟨wd, rfl⟩ : ∃ x, x = wy := ⟨_, rfl⟩
                  have e0 := (hbd.cell (cell_lt x0)).trans x0
                  have e1 := (hbd.cell (cell_lt hc)).trans hc
                  have e2 := (hbd.cell (cell_lt hy0)).trans hy0
                  obtain ⟨v3a, v3c, rfl⟩ := ho3.isSlice
                  have ef := (hbd.frozen (p := ⟨ab, v, none⟩) (cell_lt hc)).trans hf
                  try dsimp only
                  refine hK.out _ _ ?h187 (fun hHeld => ?_)
                  case h187 => first | exact ⟨‹_›, ‹_›, ‹_›⟩ | (simp [*, go_sem])
                  clear hK K
                  try simp only [Act.put, List.setIfInBounds_toArray, List.set_cons_zero, List.set_cons_succ]
                  refine wpLate_take (i := 19) (v := ?v188) (by simp only [List.getElem?_toArray, List.getElem?_cons_succ, List.getElem?_cons_zero]; exact rfl) (by kernel_rfl) (by kernel_rfl) (by kernel_rfl) (by intro _ _ _ h; exact h) (Or.inl ⟨by rfl, ?y188⟩) ?_
                  case y188 => (intro w _; go_simp; try (with_reducible rfl))
                  try simp only [Act.put, List.setIfInBounds_toArray, List.set_cons_zero, List.set_cons_succ]
                  refine wpLate_late (i := 20) (by kernel_rfl) (by simp only [List.getElem?_toArray, List.getElem?_cons_succ, List.getElem?_cons_zero]; exact rfl) (by kernel_rfl) (fun K hK => ?_)
                  go_simp
                  skip
                  try dsimp only
                  refine hK.out _ _ ?_
                  clear hK K
                  try simp only [Act.put, List.setIfInBounds_toArray, List.set_cons_zero, List.set_cons_succ]
                  refine wpLate_done (by kernel_rfl) ?_ _
                  have hS := HN.out wd _ A HAE.out hbd (by rw [List.map_append]; exact ho3) hA40
                  have hE0 := HR.out wd _ A hbd hS
                  exact rest xcp v3a v3c nb wd hE0
                case b182 =>
                  go_simp
                  obtain ⟨nb, hnb⟩ : ∃ nb, nb = wd.heap.size := ⟨_, rfl⟩
                  rw [← hnb]
                  have hbn : Below wd.heap.size wd (wd.alloc (.cells #[.int .i64 y0] 2)) := (Below.refl _ _).alloc (Nat.le_refl _) _
                  have clit : (wd.alloc (.cells #[.int .i64 y0] 2)).cell? ⟨nb, 0, none⟩ = some (.int .i64 y0) := (by rw [hnb]; simp [go_sem])
                  try (have hxc := hxc.below hbn (Nat.le_refl _))
                  have hbd := hbd.trans (hbn.mono hbd.size)
                  clear hnb hbn e0 e1 e2
                  generalize wd.alloc (.cells #[.int .i64 y0] 2) = wy at *
                  obtain ⟨wd, rfl⟩ : ∃ x, x = wy := ⟨_, rfl⟩
                  have e0 := (hbd.cell (cell_lt x0)).trans x0
                  have e1 := (hbd.cell (cell_lt hc)).trans hc
                  have e2 := (hbd.cell (cell_lt hy0)).trans hy0
                  try dsimp only
                  refine hK.out _ _ ?h191 (fun hHeld => ?_)
                  case h191 => first | exact ⟨‹_›, ‹_›, ‹_›⟩ | (simp [*, go_sem])
                  clear hK K
                  try simp only [Act.put, List.setIfInBounds_toArray, List.set_cons_zero, List.set_cons_succ]
                  refine wpLate_one (i := 9) (by kernel_rfl) (by simp only [List.getElem?_toArray, List.getElem?_cons_succ, List.getElem?_cons_zero]; exact rfl) (by kernel_rfl) (fun K hK => ?_)
                  go_simp
                  refine (l1Copy_any _ _ _ (hd2.below hbd (Nat.le_refl _)) (by omega)).mono ?_
                  rintro e wy ⟨xcp, rfl, hxc0, hb5⟩
                  have hxc := hxc0.weak hbd.size
                  try (have clit := (hb5.cell (cell_lt clit)).trans clit)
                  have hbd := hbd.trans (hb5.mono hbd.size)
                  clear hb5 e0 e1 e2 hxc0
                  obtain ⟨wd, rfl⟩ : ∃ x, x = wy := ⟨_, rfl⟩
                  have e0 := (hbd.cell (cell_lt x0)).trans x0
                  have e1 := (hbd.cell (cell_lt hc)).trans hc
                  have e2 := (hbd.cell (cell_lt hy0)).trans hy0
                  try dsimp only
                  refine hK.out _ _ ?h193 (fun hHeld => ?_)
                  case h193 => first | exact ⟨‹_›, ‹_›, ‹_›⟩ | (simp [*, go_sem])
                  clear hK K
                  try simp only [Act.put, List.setIfInBounds_toArray, List.set_cons_zero, List.set_cons_succ]
                  refine wpLate_one (i := 18) (by kernel_rfl) (by simp only [List.getElem?_toArray, List.getElem?_cons_succ, List.getElem?_cons_zero]; exact rfl) (by kernel_rfl) (fun K hK => ?_)
                  rw [if_pos (by rfl)]
                  refine opWp_append1E elI64 _ _ rfl hxc rfl rfl clit rfl (by omega) hbd.size ?_
                  intro v3 wy ho3 hk3 hm3
                  have hbd := hk3.below hbd hbd.size (fun b hb => hxc.ge b hb)
                  clear clit hk3 hm3 e0 e1 e2 hxc
                  obtain ⟨wd, rfl⟩ : ∃ x, x = wy := ⟨_, rfl⟩
                  have e0 := (hbd.cell (cell_lt x0)).trans x0
                  have e1 := (hbd.cell (cell_lt hc)).trans hc
                  have e2 := (hbd.cell (cell_lt hy0)).trans hy0
                  obtain ⟨v3a, v3c, rfl⟩ := ho3.isSlice
                  have ef := (hbd.frozen (p := ⟨ab, v, none⟩) (cell_lt hc)).trans hf
                  try dsimp only
                  refine hK.out _ _ ?h195 (fun hHeld => ?_)
                  case h195 => first | exact ⟨‹_›, ‹_›, ‹_›⟩ | (simp [*, go_sem])
                  clear hK K
                  try simp only [Act.put, List.setIfInBounds_toArray, List.set_cons_zero, List.set_cons_succ]
                  refine wpLate_take (i := 19) (v := ?v196) (by simp only [List.getElem?_toArray, List.getElem?_cons_succ, List.getElem?_cons_zero]; exact rfl) (by kernel_rfl) (by kernel_rfl) (by kernel_rfl) (by intro _ _ _ h; exact h) (Or.inl ⟨by rfl, ?y196⟩) ?_
                  case y196 => (intro w _; go_simp; try (with_reducible rfl))
                  try simp only [Act.put, List.setIfInBounds_toArray, List.set_cons_zero, List.set_cons_succ]
                  refine wpLate_late (i := 20) (by kernel_rfl) (by simp only [List.getElem?_toArray, List.getElem?_cons_succ, List.getElem?_cons_zero]; exact rfl) (by kernel_rfl) (fun K hK => ?_)
                  go_simp
                  skip
                  try dsimp only
                  refine hK.out _ _ ?_
                  clear hK K
                  try simp only [Act.put, List.setIfInBounds_toArray, List.set_cons_zero, List.set_cons_succ]
                  refine wpLate_done (by kernel_rfl) ?_ _
                  have hS := HN.out wd _ A HAE.out hbd (by rw [List.map_append]; exact ho3) hA40
                  have hE0 := HR.out wd _ A hbd hS
                  exact rest xcp v3a v3c nb wd hE0
              case rest =>
                intro xcp v3a v3c nb wd hE0
                clear HN HR hd2 hD hrow hc hf hy0
                as_aux_lemma =>
                  have hEt := hE0
                  obtain ⟨k0, k1, -, -⟩ := own_cell hEt.bg
                  obtain ⟨k2, k3, -, -⟩ := own_cell hEt.bx
                  skip
                  go_wp2
                  refine wp_region_held_drew (S := (fun w' => w'.cell? ⟨gb, 0, none⟩ = some (.slice (some ⟨gk, go, none⟩) g.length uc) ∧ w'.cell? ⟨xb, 0, none⟩ = some (.slice (some ⟨ab, 0, none⟩) r.length xc))) (by kernel_rfl) ?_ (fun hHeld => ?_)
                  · first | exact ⟨‹_›, ‹_›⟩ | exact ⟨(World.cell?_setCell_other _ _ _ _ (fun e => hne2 (congrArg Addr.block e))).trans ((World.cell?_setCell_other _ _ _ _ (fun e => hne1 (congrArg Addr.block e))).trans hHl1), (World.cell?_setCell_other _ _ _ _ (fun e => hne4 (congrArg Addr.block e))).trans ((World.cell?_setCell_other _ _ _ _ (fun e => hne3 (congrArg Addr.block e))).trans hHl2)⟩ | (simp [*, go_sem])
                  have hEd := hEt.drawn (Drawn.refl _).drew
                  generalize World.drew _ = wd at hEd hHeld ⊢
                  have hfin := hEd.fin hgl (hLa) (hLb)
                  obtain ⟨p0, p1, -, -⟩ := own_cell hEd.r0
                  obtain ⟨q0, q1, -, -⟩ := own_cell hEd.r1
                  have hq0 : ∀ x : Value, (wd.setCell ⟨w.heap.size, 0, none⟩ x).cell? ⟨w.heap.size + 1, 0, none⟩ = some (.slice none 0 0) := fun x => (World.cell?_setCell_other _ _ _ _ (fun e => by have := congrArg Addr.block e; simp at this)).trans q0
                  have hp0 : ∀ x : Value, (wd.setCell ⟨w.heap.size + 1, 0, none⟩ x).cell? ⟨w.heap.size, 0, none⟩ = some (.slice none 0 0) := fun x => (World.cell?_setCell_other _ _ _ _ (fun e => by have := congrArg Addr.block e; simp at this)).trans p0
                  have hne1 : ¬ (w.heap.size = gb) := by have := hEd.lo; omega
                  have hne2 : ¬ (w.heap.size + 1 = gb) := by have := hEd.lo; omega
                  have hne3 : ¬ (w.heap.size = xb) := by have := hEd.lo; omega
                  have hne4 : ¬ (w.heap.size + 1 = xb) := by have := hEd.lo; omega
                  have hHl1 := hHeld.1
                  have hHl2 := hHeld.2
                  refine wpAnyH_take (i := 0) (v := ?v199) (by simp only [List.getElem?_toArray, List.getElem?_cons_zero]; exact rfl) (by kernel_rfl) (by kernel_rfl) (by kernel_rfl) (by intro _ _ _ h; exact h) (Or.inl ⟨by rfl, ?y199⟩) hHeld ?_
                  case y199 => (intro w hSw; (try dsimp only at hSw); go_simp; try (with_reducible rfl))
                  try simp only [Act.put, List.setIfInBounds_toArray, List.set_cons_zero, List.set_cons_succ]
                  refine wpAnyH_take (i := 1) (v := ?v200) (by simp only [List.getElem?_toArray, List.getElem?_cons_succ, List.getElem?_cons_zero]; exact rfl) (by kernel_rfl) (by kernel_rfl) (by kernel_rfl) (by intro _ _ _ h; exact h) (Or.inl ⟨by rfl, ?y200⟩) hHeld ?_
                  case y200 => (intro w hSw; (try dsimp only at hSw); go_simp; try (with_reducible rfl))
                  try simp only [Act.put, List.setIfInBounds_toArray, List.set_cons_zero, List.set_cons_succ]
                  refine wpAnyH_ready (rs := [2]) (by kernel_rfl) (by simp) ?_
                  refine AllReadyH.cons (by simp only [List.getElem?_toArray, List.getElem?_cons_succ, List.getElem?_cons_zero]; exact rfl) (fun K hK => ?_) AllReadyH.nil
                  go_simp
                  skip
                  try dsimp only
                  refine hK.out _ _ ?h202 (fun hHeld => ?_)
                  case h202 => first | exact ⟨‹_›, ‹_›⟩ | exact ⟨(World.cell?_setCell_other _ _ _ _ (fun e => hne2 (congrArg Addr.block e))).trans ((World.cell?_setCell_other _ _ _ _ (fun e => hne1 (congrArg Addr.block e))).trans hHl1), (World.cell?_setCell_other _ _ _ _ (fun e => hne4 (congrArg Addr.block e))).trans ((World.cell?_setCell_other _ _ _ _ (fun e => hne3 (congrArg Addr.block e))).trans hHl2)⟩ | (simp [*, go_sem])
                  clear hK K
                  try simp only [Act.put, List.setIfInBounds_toArray, List.set_cons_zero, List.set_cons_succ]
                  refine wpAnyH_ready (rs := [3]) (by kernel_rfl) (by simp) ?_
                  refine AllReadyH.cons (by simp only [List.getElem?_toArray, List.getElem?_cons_succ, List.getElem?_cons_zero]; exact rfl) (fun K hK => ?_) AllReadyH.nil
                  go_simp
                  skip
                  try dsimp only
                  refine hK.out _ _ ?h204 (fun hHeld => ?_)
                  case h204 => first | exact ⟨‹_›, ‹_›⟩ | exact ⟨(World.cell?_setCell_other _ _ _ _ (fun e => hne2 (congrArg Addr.block e))).trans ((World.cell?_setCell_other _ _ _ _ (fun e => hne1 (congrArg Addr.block e))).trans hHl1), (World.cell?_setCell_other _ _ _ _ (fun e => hne4 (congrArg Addr.block e))).trans ((World.cell?_setCell_other _ _ _ _ (fun e => hne3 (congrArg Addr.block e))).trans hHl2)⟩ | (simp [*, go_sem])
                  clear hK K
                  try simp only [Act.put, List.setIfInBounds_toArray, List.set_cons_zero, List.set_cons_succ]
                  refine wpAnyH_done (by kernel_rfl) ?_ _
                  obtain ⟨f1, f2, f3⟩ := hfin _ (by first | exact .inl rfl | exact .inr rfl)
                  go_wp2
                  exact bodyPost_ret (v := .tuple #[.agg #[.slice (some ⟨gk, go, none⟩) g.length uc], .agg #[.slice (some ⟨ab, 0, none⟩) r.length xc]]) (by simp [results, Tryz.results26, go_sem, f1, f2]) rfl f3
            have h2 : q = 2 := by omega
            subst h2
            obtain ⟨y0, r', hrr⟩ : ∃ y0 r', r = y0 :: r' := by
              cases hr : r with
              | nil => rw [hr] at z0; simp at z0
              | cons y0 r' => exact ⟨y0, r', rfl⟩
            have hsl := hD.ow.rowsNe hD.bx (by decide) (by decide) hsr
            rw [hrr] at hsl
            have hsl2 := (show SlR _ wv (.slice (some ⟨ab, 0, none⟩) r.length xc) (y0 :: r') by rw [hrr]; exact hsl).tailE
            simp only [Nat.zero_add] at hsl2
            obtain ⟨ad, had⟩ : ∃ ad, (if xc = 1 then some (⟨ab, 0, none⟩ : Addr) else some ⟨ab, 1, none⟩) = ad := ⟨_, rfl⟩
            rw [had] at hsl2
            have hcap : r.length ≤ xc ∧ xc ≤ 9223372036854775807 := by
              obtain ⟨a', b', o', c', f', he', hl', -⟩ := hsl
              simp only [Value.slice.injEq] at he'
              have e1 : (y0 :: r').length = r.length := by rw [hrr]
              omega
            have hE0 := (hD.e22 (Nat.le_refl _) hsr).put (hsl2.weak fun b hb => ⟨by omega, hb.2.1, hb.2.2⟩)
            have hLa : r'.length ≤ 2000 := by have : r.length = r'.length + 1 := by rw [hrr]; rfl
                                              omega
            have hLb : ∀ y ∈ r', y.length ≤ 2000 := fun y hy => hL2 y (by rw [hrr]; simp [hy])
            have hm1 : (1 : Int) ≤ ((r.length : Nat) : Int) := by omega
            clear hrr
            clear hsl hsl2
            as_aux_lemma =>
              have hEt := hE0
              obtain ⟨k0, k1, -, -⟩ := own_cell hEt.bg
              obtain ⟨k2, k3, -, -⟩ := own_cell hEt.bx
              skip
              go_wp2
              refine wp_region_held_drew (S := (fun w' => w'.cell? ⟨gb, 0, none⟩ = some (.slice (some ⟨gk, go, none⟩) g.length uc) ∧ w'.cell? ⟨xb, 0, none⟩ = some (.slice ad (r.length - 1) (xc - 1)))) (by kernel_rfl) ?_ (fun hHeld => ?_)
              · first | exact ⟨‹_›, ‹_›⟩ | exact ⟨(World.cell?_setCell_other _ _ _ _ (fun e => hne2 (congrArg Addr.block e))).trans ((World.cell?_setCell_other _ _ _ _ (fun e => hne1 (congrArg Addr.block e))).trans hHl1), (World.cell?_setCell_other _ _ _ _ (fun e => hne4 (congrArg Addr.block e))).trans ((World.cell?_setCell_other _ _ _ _ (fun e => hne3 (congrArg Addr.block e))).trans hHl2)⟩ | (simp [*, go_sem])
              have hEd := hEt.drawn (Drawn.refl _).drew
              generalize World.drew _ = wd at hEd hHeld ⊢
              have hfin := hEd.fin hgl (hLa) (hLb)
              obtain ⟨p0, p1, -, -⟩ := own_cell hEd.r0
              obtain ⟨q0, q1, -, -⟩ := own_cell hEd.r1
              have hq0 : ∀ x : Value, (wd.setCell ⟨w.heap.size, 0, none⟩ x).cell? ⟨w.heap.size + 1, 0, none⟩ = some (.slice none 0 0) := fun x => (World.cell?_setCell_other _ _ _ _ (fun e => by have := congrArg Addr.block e; simp at this)).trans q0
              have hp0 : ∀ x : Value, (wd.setCell ⟨w.heap.size + 1, 0, none⟩ x).cell? ⟨w.heap.size, 0, none⟩ = some (.slice none 0 0) := fun x => (World.cell?_setCell_other _ _ _ _ (fun e => by have := congrArg Addr.block e; simp at this)).trans p0
              have hne1 : ¬ (w.heap.size = gb) := by have := hEd.lo; omega
              have hne2 : ¬ (w.heap.size + 1 = gb) := by have := hEd.lo; omega
              have hne3 : ¬ (w.heap.size = xb) := by have := hEd.lo; omega
              have hne4 : ¬ (w.heap.size + 1 = xb) := by have := hEd.lo; omega
              have hHl1 := hHeld.1
              have hHl2 := hHeld.2
              refine wpAnyH_take (i := 0) (v := ?v205) (by simp only [List.getElem?_toArray, List.getElem?_cons_zero]; exact rfl) (by kernel_rfl) (by kernel_rfl) (by kernel_rfl) (by intro _ _ _ h; exact h) (Or.inl ⟨by rfl, ?y205⟩) hHeld ?_
              case y205 => (intro w hSw; (try dsimp only at hSw); go_simp; try (with_reducible rfl))
              try simp only [Act.put, List.setIfInBounds_toArray, List.set_cons_zero, List.set_cons_succ]
              refine wpAnyH_take (i := 1) (v := ?v206) (by simp only [List.getElem?_toArray, List.getElem?_cons_succ, List.getElem?_cons_zero]; exact rfl) (by kernel_rfl) (by kernel_rfl) (by kernel_rfl) (by intro _ _ _ h; exact h) (Or.inl ⟨by rfl, ?y206⟩) hHeld ?_
              case y206 => (intro w hSw; (try dsimp only at hSw); go_simp; try (with_reducible rfl))
              try simp only [Act.put, List.setIfInBounds_toArray, List.set_cons_zero, List.set_cons_succ]
              refine wpAnyH_ready (rs := [2]) (by kernel_rfl) (by simp) ?_
              refine AllReadyH.cons (by simp only [List.getElem?_toArray, List.getElem?_cons_succ, List.getElem?_cons_zero]; exact rfl) (fun K hK => ?_) AllReadyH.nil
              go_simp
              skip
              try dsimp only
              refine hK.out _ _ ?h208 (fun hHeld => ?_)
              case h208 => first | exact ⟨‹_›, ‹_›⟩ | exact ⟨(World.cell?_setCell_other _ _ _ _ (fun e => hne2 (congrArg Addr.block e))).trans ((World.cell?_setCell_other _ _ _ _ (fun e => hne1 (congrArg Addr.block e))).trans hHl1), (World.cell?_setCell_other _ _ _ _ (fun e => hne4 (congrArg Addr.block e))).trans ((World.cell?_setCell_other _ _ _ _ (fun e => hne3 (congrArg Addr.block e))).trans hHl2)⟩ | (simp [*, go_sem])
              clear hK K
              try simp only [Act.put, List.setIfInBounds_toArray, List.set_cons_zero, List.set_cons_succ]
              refine wpAnyH_ready (rs := [3]) (by kernel_rfl) (by simp) ?_
              refine AllReadyH.cons (by simp only [List.getElem?_toArray, List.getElem?_cons_succ, List.getElem?_cons_zero]; exact rfl) (fun K hK => ?_) AllReadyH.nil
              go_simp
              skip
              try dsimp only
              refine hK.out _ _ ?h210 (fun hHeld => ?_)
              case h210 => first | exact ⟨‹_›, ‹_›⟩ | exact ⟨(World.cell?_setCell_other _ _ _ _ (fun e => hne2 (congrArg Addr.block e))).trans ((World.cell?_setCell_other _ _ _ _ (fun e => hne1 (congrArg Addr.block e))).trans hHl1), (World.cell?_setCell_other _ _ _ _ (fun e => hne4 (congrArg Addr.block e))).trans ((World.cell?_setCell_other _ _ _ _ (fun e => hne3 (congrArg Addr.block e))).trans hHl2)⟩ | (simp [*, go_sem])
              clear hK K
              try simp only [Act.put, List.setIfInBounds_toArray, List.set_cons_zero, List.set_cons_succ]
              refine wpAnyH_done (by kernel_rfl) ?_ _
              obtain ⟨f1, f2, f3⟩ := hfin _ (by first | exact .inl rfl | exact .inr rfl)
              go_wp2
              exact bodyPost_ret (v := .tuple #[.agg #[.slice (some ⟨gk, go, none⟩) g.length uc], .agg #[.slice ad (r.length - 1) (xc - 1)]]) (by simp [results, Tryz.results26, go_sem, f1, f2]) rfl f3
      | true =>
        as_aux_lemma =>
          have hDn := hD.put (C' := (w6.setCell ⟨xb, 0, none⟩ (.slice none 0 0)).heap.size) (yv := .slice none 0 0) (r' := []) ⟨[], rfl, Own.nil _ _ _ _, fun b hb => by simp [Value.ownBlock] at hb, ApartL.nil, fun i hi => by simp at hi⟩
          obtain ⟨x0, x1, -, -⟩ := own_cell hD.bx
          clear hD hrk
          have hg16 := hg.hi
          skip
          go_wp2
          skip
          go_loopw [7] (fun iv wr => ∃ (v : Nat) (xv : Value) (r : List (List Int)), v ≤ g.length ∧ iv = .int .i64 (v : Int) ∧ D22 w wr d bs gb xb wr.heap.size (.slice (some ⟨gk, go, none⟩) g.length uc) g xv r ∧ r.length = v ∧ ∀ y ∈ r, y.length ≤ 40) (fun iv _ => g.length - (RowKit.intOf iv).toNat)
          case atStart => exact ⟨0, _, [], Nat.zero_le _, rfl, hDn, rfl, fun y hy => by cases hy⟩
          case round =>
            clear hDn x0 x1
            obtain ⟨v, xv, r, hv, rfl, hD, hrl, hr40⟩ := hrel
            obtain ⟨wi, rfl⟩ : ∃ x : World, x = wr := ⟨_, rfl⟩
            obtain ⟨xa, xc, rfl⟩ := hD.ow.isSlice
            obtain ⟨c0, c1, -, -⟩ := own_cell hD.bg
            by_cases hvg : v < g.length
            case neg =>
              have hrk : Rk22 r := ⟨by omega, by omega, hr40⟩
              have hCW : wi.heap.size ≤ wi.heap.size := Nat.le_refl _
              have hvI : decide ((v : Int) < (g.length : Int)) = false := decide_eq_false (by omega)
              have hvN : decide (v < g.length) = false := decide_eq_false hvg
              clear hrl hr40
              as_aux_lemma =>
                obtain ⟨ab, hxa⟩ : ∃ ab, xa = some ⟨ab, 0, none⟩ := by
                  obtain ⟨vs, -, h, -⟩ := hD.ow
                  obtain ⟨b, c, e⟩ := own_some h hrk.1
                  simp only [Value.slice.injEq] at e
                  exact ⟨b, e.1⟩
                subst hxa
                have hD := hD.room hCW
                clear hCW
                obtain ⟨z0, z1, z2⟩ := hrk
                have hsr : SmallR r 1048576 := ⟨by omega, fun i hi _ => by have := z2 r[i] (List.getElem_mem hi); omega⟩
                have hL2 : ∀ y ∈ r, y.length ≤ 2000 := fun y hy => by have := z2 y hy; omega
                go_wp2_with fail
                skip
                refine (l1Once_any (n := 10) hD.mv.1 hl (by omega)).mono ?_
                rintro e wt ⟨b10, rfl, hmt⟩
                have hD := (hD.kept hmt).room hmt.size
                clear hmt
                cases b10 with
                | false =>
                  as_aux_lemma =>
                    have hEt := hD.e22 (Nat.le_refl _) hsr
                    obtain ⟨k0, k1, -, -⟩ := own_cell hEt.bg
                    obtain ⟨k2, k3, -, -⟩ := own_cell hEt.bx
                    skip
                    go_wp2
                    refine wp_region_held_drew (S := (fun w' => w'.cell? ⟨gb, 0, none⟩ = some (.slice (some ⟨gk, go, none⟩) g.length uc) ∧ w'.cell? ⟨xb, 0, none⟩ = some (.slice (some ⟨ab, 0, none⟩) r.length xc))) (by kernel_rfl) ?_ (fun hHeld => ?_)
                    · first | exact ⟨‹_›, ‹_›⟩ | exact ⟨(World.cell?_setCell_other _ _ _ _ (fun e => hne2 (congrArg Addr.block e))).trans ((World.cell?_setCell_other _ _ _ _ (fun e => hne1 (congrArg Addr.block e))).trans hHl1), (World.cell?_setCell_other _ _ _ _ (fun e => hne4 (congrArg Addr.block e))).trans ((World.cell?_setCell_other _ _ _ _ (fun e => hne3 (congrArg Addr.block e))).trans hHl2)⟩ | (simp [*, go_sem])
                    have hEd := hEt.drawn (Drawn.refl _).drew
                    generalize World.drew _ = wd at hEd hHeld ⊢
                    have hfin := hEd.fin hgl (by omega) (hL2)
                    obtain ⟨p0, p1, -, -⟩ := own_cell hEd.r0
                    obtain ⟨q0, q1, -, -⟩ := own_cell hEd.r1
                    have hq0 : ∀ x : Value, (wd.setCell ⟨w.heap.size, 0, none⟩ x).cell? ⟨w.heap.size + 1, 0, none⟩ = some (.slice none 0 0) := fun x => (World.cell?_setCell_other _ _ _ _ (fun e => by have := congrArg Addr.block e; simp at this)).trans q0
                    have hp0 : ∀ x : Value, (wd.setCell ⟨w.heap.size + 1, 0, none⟩ x).cell? ⟨w.heap.size, 0, none⟩ = some (.slice none 0 0) := fun x => (World.cell?_setCell_other _ _ _ _ (fun e => by have := congrArg Addr.block e; simp at this)).trans p0
                    have hne1 : ¬ (w.heap.size = gb) := by have := hEd.lo; omega
                    have hne2 : ¬ (w.heap.size + 1 = gb) := by have := hEd.lo; omega
                    have hne3 : ¬ (w.heap.size = xb) := by have := hEd.lo; omega
                    have hne4 : ¬ (w.heap.size + 1 = xb) := by have := hEd.lo; omega
                    have hHl1 := hHeld.1
                    have hHl2 := hHeld.2
                    refine wpAnyH_take (i := 0) (v := ?v211) (by simp only [List.getElem?_toArray, List.getElem?_cons_zero]; exact rfl) (by kernel_rfl) (by kernel_rfl) (by kernel_rfl) (by intro _ _ _ h; exact h) (Or.inl ⟨by rfl, ?y211⟩) hHeld ?_
                    case y211 => (intro w hSw; (try dsimp only at hSw); go_simp; try (with_reducible rfl))
                    try simp only [Act.put, List.setIfInBounds_toArray, List.set_cons_zero, List.set_cons_succ]
                    refine wpAnyH_take (i := 1) (v := ?v212) (by simp only [List.getElem?_toArray, List.getElem?_cons_succ, List.getElem?_cons_zero]; exact rfl) (by kernel_rfl) (by kernel_rfl) (by kernel_rfl) (by intro _ _ _ h; exact h) (Or.inl ⟨by rfl, ?y212⟩) hHeld ?_
                    case y212 => (intro w hSw; (try dsimp only at hSw); go_simp; try (with_reducible rfl))
                    try simp only [Act.put, List.setIfInBounds_toArray, List.set_cons_zero, List.set_cons_succ]
                    refine wpAnyH_ready (rs := [2]) (by kernel_rfl) (by simp) ?_
                    refine AllReadyH.cons (by simp only [List.getElem?_toArray, List.getElem?_cons_succ, List.getElem?_cons_zero]; exact rfl) (fun K hK => ?_) AllReadyH.nil
                    go_simp
                    skip
                    try dsimp only
                    refine hK.out _ _ ?h214 (fun hHeld => ?_)
                    case h214 => first | exact ⟨‹_›, ‹_›⟩ | exact ⟨(World.cell?_setCell_other _ _ _ _ (fun e => hne2 (congrArg Addr.block e))).trans ((World.cell?_setCell_other _ _ _ _ (fun e => hne1 (congrArg Addr.block e))).trans hHl1), (World.cell?_setCell_other _ _ _ _ (fun e => hne4 (congrArg Addr.block e))).trans ((World.cell?_setCell_other _ _ _ _ (fun e => hne3 (congrArg Addr.block e))).trans hHl2)⟩ | (simp [*, go_sem])
                    clear hK K
                    try simp only [Act.put, List.setIfInBounds_toArray, List.set_cons_zero, List.set_cons_succ]
                    refine wpAnyH_ready (rs := [3]) (by kernel_rfl) (by simp) ?_
                    refine AllReadyH.cons (by simp only [List.getElem?_toArray, List.getElem?_cons_succ, List.getElem?_cons_zero]; exact rfl) (fun K hK => ?_) AllReadyH.nil
                    go_simp
                    skip
                    try dsimp only
                    refine hK.out _ _ ?h216 (fun hHeld => ?_)
                    case h216 => first | exact ⟨‹_›, ‹_›⟩ | exact ⟨(World.cell?_setCell_other _ _ _ _ (fun e => hne2 (congrArg Addr.block e))).trans ((World.cell?_setCell_other _ _ _ _ (fun e => hne1 (congrArg Addr.block e))).trans hHl1), (World.cell?_setCell_other _ _ _ _ (fun e => hne4 (congrArg Addr.block e))).trans ((World.cell?_setCell_other _ _ _ _ (fun e => hne3 (congrArg Addr.block e))).trans hHl2)⟩ | (simp [*, go_sem])
                    clear hK K
                    try simp only [Act.put, List.setIfInBounds_toArray, List.set_cons_zero, List.set_cons_succ]
                    refine wpAnyH_done (by kernel_rfl) ?_ _
                    obtain ⟨f1, f2, f3⟩ := hfin _ (by first | exact .inl rfl | exact .inr rfl)
                    go_wp2
                    exact bodyPost_ret (v := .tuple #[.agg #[.slice (some ⟨gk, go, none⟩) g.length uc], .agg #[.slice (some ⟨ab, 0, none⟩) r.length xc]]) (by simp [results, Tryz.results26, go_sem, f1, f2]) rfl f3
                | true =>
                  obtain ⟨x0, x1, -, -⟩ := own_cell hD.bx
                  have hbv := l1Below_any (n := (r.length : Int)) hD.mv.1 hl (by omega)
                  go_wp2_with fail
                  refine hbv.mono ?_
                  rintro e wu ⟨v, rfl, hv, -, hmu⟩
                  have hvl : v < r.length := by have := hv (by omega); omega
                  have hD := (hD.kept hmu).room hmu.size
                  clear hmu hbv hv x0 x1
                  go_wp2_with fail
                  refine (l1Below_any (n := 3) hD.mv.1 hl (by omega)).mono ?_
                  rintro e wv ⟨q, rfl, hq, -, hmv⟩
                  have hq3 : q < 3 := by have := hq (by omega); omega
                  have hD := (hD.kept hmv).room hmv.size
                  clear hmv hq
                  obtain ⟨x0, x1, -, -⟩ := own_cell hD.bx
                  obtain ⟨ra, rc, hc, hf, hrow, hab, hBab, hnew, hgrow⟩ := hD.ow.rowAny hvl (fun y hy => by have := z2 y hy; omega) (by omega)
                  have hax : ab ≠ xb := fun e => by
                    obtain ⟨vs, -, h, -⟩ := hD.ow
                    exact own_type h hD.bx (by decide) xb (by rw [e]; rfl) rfl
                  have hv1 : (v : Int) < r.length := by omega
                  have hvr : r[v].length ≤ 40 := z2 _ (List.getElem_mem hvl)
                  have hDhi := hD.hi
                  have hDlo := hD.lo
                  have hDlt := hD.lt
                  by_cases h0 : q = 0
                  · subst h0
                    clear hnew hgrow
                    go_wp2
                    refine wp_region_late (S := (fun w' => w'.cell? ⟨xb, 0, none⟩ = some (.slice (some ⟨ab, 0, none⟩) r.length xc) ∧ w'.cell? ⟨ab, v, none⟩ = some (.slice ra r[v].length rc))) (late := [13]) (by kernel_rfl) ?_ (fun hHeld => ?_)
                    · first | exact ⟨‹_›, ‹_›⟩ | (simp [*, go_sem])
                    obtain ⟨d0, d1⟩ := hHeld
                    have hDd := hD.drawn (Drawn.refl _).drew
                    have hszd : wv.drew.heap.size = wv.heap.size := rfl
                    generalize wv.drew = wd at d0 d1 hDd hszd ⊢
                    have hHeld : (fun w' => World.cell? w' ⟨xb, 0, none⟩ = some (.slice (some ⟨ab, 0, none⟩) r.length xc) ∧ World.cell? w' ⟨ab, v, none⟩ = some (.slice ra r[v].length rc)) wd := ⟨d0, d1⟩
                    refine wpLate_take (i := 0) (v := ?v217) (by simp only [List.getElem?_toArray, List.getElem?_cons_zero]; exact rfl) (by kernel_rfl) (by kernel_rfl) (by kernel_rfl) (by intro _ _ _ h; exact h) (Or.inl ⟨by rfl, ?y217⟩) ?_
                    case y217 => (intro w _; go_simp; try (with_reducible rfl))
                    try simp only [Act.put, List.setIfInBounds_toArray, List.set_cons_zero, List.set_cons_succ]
                    refine wpLate_load (i := 1) (v := ?v218) (by simp only [List.getElem?_toArray, List.getElem?_cons_succ, List.getElem?_cons_zero]; exact rfl) (by kernel_rfl) (by kernel_rfl) (by kernel_rfl) (by kernel_rfl) (by intro _ _ _ h; exact h) (Or.inl ⟨by rfl, ?y218⟩) hHeld ?_
                    case y218 => (intro w hSw; (try dsimp only at hSw); go_simp; try (with_reducible rfl))
                    try simp only [Act.put, List.setIfInBounds_toArray, List.set_cons_zero, List.set_cons_succ]
                    refine wpLate_take (i := 2) (v := ?v219) (by simp only [List.getElem?_toArray, List.getElem?_cons_succ, List.getElem?_cons_zero]; exact rfl) (by kernel_rfl) (by kernel_rfl) (by kernel_rfl) (by intro _ _ _ h; exact h) (Or.inl ⟨by rfl, ?y219⟩) ?_
                    case y219 => (intro w _; go_simp; try (with_reducible rfl))
                    try simp only [Act.put, List.setIfInBounds_toArray, List.set_cons_zero, List.set_cons_succ]
                    refine wpLate_take (i := 3) (v := ?v220) (by simp only [List.getElem?_toArray, List.getElem?_cons_succ, List.getElem?_cons_zero]; exact rfl) (by kernel_rfl) (by kernel_rfl) (by kernel_rfl) (by intro _ _ _ h; exact h) (Or.inl ⟨by rfl, ?y220⟩) ?_
                    case y220 => (intro w _; go_simp; try (with_reducible rfl))
                    try simp only [Act.put, List.setIfInBounds_toArray, List.set_cons_zero, List.set_cons_succ]
                    refine wpLate_load (i := 4) (v := ?v221) (by simp only [List.getElem?_toArray, List.getElem?_cons_succ, List.getElem?_cons_zero]; exact rfl) (by kernel_rfl) (by kernel_rfl) (by kernel_rfl) (by kernel_rfl) (by intro _ _ _ h; exact h) (Or.inl ⟨by rfl, ?y221⟩) hHeld ?_
                    case y221 => (intro w hSw; (try dsimp only at hSw); go_simp; try (with_reducible rfl))
                    try simp only [Act.put, List.setIfInBounds_toArray, List.set_cons_zero, List.set_cons_succ]
                    refine wpLate_take (i := 5) (v := ?v222) (by simp only [List.getElem?_toArray, List.getElem?_cons_succ, List.getElem?_cons_zero]; exact rfl) (by kernel_rfl) (by kernel_rfl) (by kernel_rfl) (by intro _ _ _ h; exact h) (Or.inl ⟨by rfl, ?y222⟩) ?_
                    case y222 => (intro w _; go_simp; try (with_reducible rfl))
                    try simp only [Act.put, List.setIfInBounds_toArray, List.set_cons_zero, List.set_cons_succ]
                    refine wpLate_take (i := 6) (v := ?v223) (by simp only [List.getElem?_toArray, List.getElem?_cons_succ, List.getElem?_cons_zero]; exact rfl) (by kernel_rfl) (by kernel_rfl) (by kernel_rfl) (by intro _ _ _ h; exact h) (Or.inl ⟨by rfl, ?y223⟩) ?_
                    case y223 => (intro w _; go_simp; try (with_reducible rfl))
                    try simp only [Act.put, List.setIfInBounds_toArray, List.set_cons_zero, List.set_cons_succ]
                    refine wpLate_load (i := 7) (v := ?v224) (by simp only [List.getElem?_toArray, List.getElem?_cons_succ, List.getElem?_cons_zero]; exact rfl) (by kernel_rfl) (by kernel_rfl) (by kernel_rfl) (by kernel_rfl) (by intro _ _ _ h; exact h) (Or.inl ⟨by rfl, ?y224⟩) hHeld ?_
                    case y224 => (intro w hSw; (try dsimp only at hSw); go_simp; try (with_reducible rfl))
                    try simp only [Act.put, List.setIfInBounds_toArray, List.set_cons_zero, List.set_cons_succ]
                    refine wpLate_take (i := 8) (v := ?v225) (by simp only [List.getElem?_toArray, List.getElem?_cons_succ, List.getElem?_cons_zero]; exact rfl) (by kernel_rfl) (by kernel_rfl) (by kernel_rfl) (by intro _ _ _ h; exact h) (Or.inl ⟨by rfl, ?y225⟩) ?_
                    case y225 => (intro w _; go_simp; try (with_reducible rfl))
                    try simp only [Act.put, List.setIfInBounds_toArray, List.set_cons_zero, List.set_cons_succ]
                    refine wpLate_one (i := 9) (by kernel_rfl) (by simp only [List.getElem?_toArray, List.getElem?_cons_succ, List.getElem?_cons_zero]; exact rfl) (by kernel_rfl) (fun K hK => ?_)
                    go_simp
                    refine (l1Num_any (most := 7) hDd.mv.1 hl (by omega)).mono ?_
                    rintro e wn ⟨y, rfl, hmn⟩
                    have hmns := hmn.size
                    have hDn := (hDd.kept hmn).room (C' := wn.heap.size) (by omega)
                    have d0 := (own_cell hDn.bx).1
                    have d1 := (hmn.cell (a := ⟨ab, v, none⟩) (by show ab < _; omega) (by show ab ≠ d; omega)).trans d1
                    try dsimp only
                    refine hK.out _ _ ?h227 (fun hHeld => ?_)
                    case h227 => first | exact ⟨‹_›, ‹_›⟩ | (simp [*, go_sem])
                    clear hK K
                    try simp only [Act.put, List.setIfInBounds_toArray, List.set_cons_zero, List.set_cons_succ]
                    refine wpLate_one (i := 10) (by kernel_rfl) (by simp only [List.getElem?_toArray, List.getElem?_cons_succ, List.getElem?_cons_zero]; exact rfl) (by kernel_rfl) (fun K hK => ?_)
                    go_simp
                    have hbb : Below wn.heap.size wn (wn.alloc (.cells #[.int .i64 y] 2)) := (Below.refl _ _).alloc (Nat.le_refl _) _
                    have d0b := (hbb.cell (cell_lt d0)).trans d0
                    have d1b := (hbb.cell (cell_lt d1)).trans d1
                    try dsimp only
                    refine hK.out _ _ ?h229 (fun hHeld => ?_)
                    case h229 => first | exact ⟨‹_›, ‹_›⟩ | (simp [*, go_sem])
                    clear hK K
                    try simp only [Act.put, List.setIfInBounds_toArray, List.set_cons_zero, List.set_cons_succ]
                    refine wpLate_one (i := 11) (by kernel_rfl) (by simp only [List.getElem?_toArray, List.getElem?_cons_succ, List.getElem?_cons_zero]; exact rfl) (by kernel_rfl) (fun K hK => ?_)
                    rw [if_pos (by rfl)]
                    obtain ⟨ra', rc', hc', hf', hown', hab', -, -, hgrow'⟩ := hDn.ow.rowAny hvl (fun y hy => by have := z2 y hy; omega) (by omega)
                    have hre := hc'.symm.trans d1
                    simp only [Option.some.injEq, Value.slice.injEq, true_and] at hre
                    obtain ⟨rfl, rfl⟩ := hre
                    refine opWp_append1S elI64 _ _ rfl hown' rfl rfl rfl rfl (by omega) (by have := hDn.hi; omega) ?_
                    intro rv w8 hown8 hkept hmv
                    obtain ⟨rva, rvc, rfl⟩ := hown8.isSlice
                    have hqb : ∀ b, (Value.slice ra' r[v].length rc').ownBlock = some b → gb + 1 ≤ b ∧ b ≠ xb := (fun b hb => ⟨hown'.ge b hb, fun e => own_type hown' hDn.bx (by decide) b hb (by rw [e]; rfl)⟩)
                    have hne3 : (Value.slice ra' r[v].length rc').ownBlock ≠ some ab := (fun e => (by obtain ⟨vs, -, hvs, -⟩ := hDn.ow; exact own_type hown' hvs (by decide) _ e rfl))
                    have ho8 := own1_kept hDn.bx hkept (fun e => (hqb _ e).2 rfl)
                    have d0 := (own_cell ho8).1
                    have hab8 := hkept.2.2.2.2 ab hab' (fun e => hne3 e.symm)
                    have d1 := (World.cell?_of_block (a := ⟨ab, v, none⟩) hab8).trans d1
                    have f1 := (World.frozen?_of_block (a := ⟨ab, v, none⟩) hab8).trans hf'
                    try dsimp only
                    refine hK.out _ _ ?h231 (fun hHeld => ?_)
                    case h231 => first | exact ⟨‹_›, ‹_›⟩ | (simp [*, go_sem])
                    clear hK K
                    try simp only [Act.put, List.setIfInBounds_toArray, List.set_cons_zero, List.set_cons_succ]
                    refine wpLate_take (i := 12) (v := ?v232) (by simp only [List.getElem?_toArray, List.getElem?_cons_succ, List.getElem?_cons_zero]; exact rfl) (by kernel_rfl) (by kernel_rfl) (by kernel_rfl) (by intro _ _ _ h; exact h) (Or.inl ⟨by rfl, ?y232⟩) ?_
                    case y232 => (intro w _; go_simp; try (with_reducible rfl))
                    try simp only [Act.put, List.setIfInBounds_toArray, List.set_cons_zero, List.set_cons_succ]
                    refine wpLate_late (i := 13) (by kernel_rfl) (by simp only [List.getElem?_toArray, List.getElem?_cons_succ, List.getElem?_cons_zero]; exact rfl) (by kernel_rfl) (fun K hK => ?_)
                    go_simp
                    skip
                    try dsimp only
                    refine hK.out _ _ ?_
                    clear hK K
                    try simp only [Act.put, List.setIfInBounds_toArray, List.set_cons_zero, List.set_cons_succ]
                    refine wpLate_done (by kernel_rfl) ?_ _
                    have hS := hgrow' (r := r[v] ++ [y]) hkept hmv (by simp) (by rw [List.length_append, List.map_append]; exact hown8) (by simp; omega)
                    have hE0 := hDn.row hkept hqb hBab hax hS
                    have hLa : (r.set v (r[v] ++ [y])).length ≤ 2000 := by rw [List.length_set]; omega
                    have hLb := set_rows (k := v) hL2 (show (r[v] ++ [y]).length ≤ 2000 by simp; omega)
                    clear hS hgrow' hown8 hkept hmv hDn hDd hD hown'
                    as_aux_lemma =>
                      have hEt := hE0
                      obtain ⟨k0, k1, -, -⟩ := own_cell hEt.bg
                      obtain ⟨k2, k3, -, -⟩ := own_cell hEt.bx
                      skip
                      go_wp2
                      refine wp_region_held_drew (S := (fun w' => w'.cell? ⟨gb, 0, none⟩ = some (.slice (some ⟨gk, go, none⟩) g.length uc) ∧ w'.cell? ⟨xb, 0, none⟩ = some (.slice (some ⟨ab, 0, none⟩) r.length xc))) (by kernel_rfl) ?_ (fun hHeld => ?_)
                      · first | exact ⟨‹_›, ‹_›⟩ | exact ⟨(World.cell?_setCell_other _ _ _ _ (fun e => hne2 (congrArg Addr.block e))).trans ((World.cell?_setCell_other _ _ _ _ (fun e => hne1 (congrArg Addr.block e))).trans hHl1), (World.cell?_setCell_other _ _ _ _ (fun e => hne4 (congrArg Addr.block e))).trans ((World.cell?_setCell_other _ _ _ _ (fun e => hne3 (congrArg Addr.block e))).trans hHl2)⟩ | (simp [*, go_sem])
                      have hEd := hEt.drawn (Drawn.refl _).drew
                      generalize World.drew _ = wd at hEd hHeld ⊢
                      have hfin := hEd.fin hgl (hLa) (hLb)
                      obtain ⟨p0, p1, -, -⟩ := own_cell hEd.r0
                      obtain ⟨q0, q1, -, -⟩ := own_cell hEd.r1
                      have hq0 : ∀ x : Value, (wd.setCell ⟨w.heap.size, 0, none⟩ x).cell? ⟨w.heap.size + 1, 0, none⟩ = some (.slice none 0 0) := fun x => (World.cell?_setCell_other _ _ _ _ (fun e => by have := congrArg Addr.block e; simp at this)).trans q0
                      have hp0 : ∀ x : Value, (wd.setCell ⟨w.heap.size + 1, 0, none⟩ x).cell? ⟨w.heap.size, 0, none⟩ = some (.slice none 0 0) := fun x => (World.cell?_setCell_other _ _ _ _ (fun e => by have := congrArg Addr.block e; simp at this)).trans p0
                      have hne1 : ¬ (w.heap.size = gb) := by have := hEd.lo; omega
                      have hne2 : ¬ (w.heap.size + 1 = gb) := by have := hEd.lo; omega
                      have hne3 : ¬ (w.heap.size = xb) := by have := hEd.lo; omega
                      have hne4 : ¬ (w.heap.size + 1 = xb) := by have := hEd.lo; omega
                      have hHl1 := hHeld.1
                      have hHl2 := hHeld.2
                      refine wpAnyH_take (i := 0) (v := ?v235) (by simp only [List.getElem?_toArray, List.getElem?_cons_zero]; exact rfl) (by kernel_rfl) (by kernel_rfl) (by kernel_rfl) (by intro _ _ _ h; exact h) (Or.inl ⟨by rfl, ?y235⟩) hHeld ?_
                      case y235 => (intro w hSw; (try dsimp only at hSw); go_simp; try (with_reducible rfl))
                      try simp only [Act.put, List.setIfInBounds_toArray, List.set_cons_zero, List.set_cons_succ]
                      refine wpAnyH_take (i := 1) (v := ?v236) (by simp only [List.getElem?_toArray, List.getElem?_cons_succ, List.getElem?_cons_zero]; exact rfl) (by kernel_rfl) (by kernel_rfl) (by kernel_rfl) (by intro _ _ _ h; exact h) (Or.inl ⟨by rfl, ?y236⟩) hHeld ?_
                      case y236 => (intro w hSw; (try dsimp only at hSw); go_simp; try (with_reducible rfl))
                      try simp only [Act.put, List.setIfInBounds_toArray, List.set_cons_zero, List.set_cons_succ]
                      refine wpAnyH_ready (rs := [2]) (by kernel_rfl) (by simp) ?_
                      refine AllReadyH.cons (by simp only [List.getElem?_toArray, List.getElem?_cons_succ, List.getElem?_cons_zero]; exact rfl) (fun K hK => ?_) AllReadyH.nil
                      go_simp
                      skip
                      try dsimp only
                      refine hK.out _ _ ?h238 (fun hHeld => ?_)
                      case h238 => first | exact ⟨‹_›, ‹_›⟩ | exact ⟨(World.cell?_setCell_other _ _ _ _ (fun e => hne2 (congrArg Addr.block e))).trans ((World.cell?_setCell_other _ _ _ _ (fun e => hne1 (congrArg Addr.block e))).trans hHl1), (World.cell?_setCell_other _ _ _ _ (fun e => hne4 (congrArg Addr.block e))).trans ((World.cell?_setCell_other _ _ _ _ (fun e => hne3 (congrArg Addr.block e))).trans hHl2)⟩ | (simp [*, go_sem])
                      clear hK K
                      try simp only [Act.put, List.setIfInBounds_toArray, List.set_cons_zero, List.set_cons_succ]
                      refine wpAnyH_ready (rs := [3]) (by kernel_rfl) (by simp) ?_
                      refine AllReadyH.cons (by simp only [List.getElem?_toArray, List.getElem?_cons_succ, List.getElem?_cons_zero]; exact rfl) (fun K hK => ?_) AllReadyH.nil
                      go_simp
                      skip
                      try dsimp only
                      refine hK.out _ _ ?h240 (fun hHeld => ?_)
                      case h240 => first | exact ⟨‹_›, ‹_›⟩ | exact ⟨(World.cell?_setCell_other _ _ _ _ (fun e => hne2 (congrArg Addr.block e))).trans ((World.cell?_setCell_other _ _ _ _ (fun e => hne1 (congrArg Addr.block e))).trans hHl1), (World.cell?_setCell_other _ _ _ _ (fun e => hne4 (congrArg Addr.block e))).trans ((World.cell?_setCell_other _ _ _ _ (fun e => hne3 (congrArg Addr.block e))).trans hHl2)⟩ | (simp [*, go_sem])
                      clear hK K
                      try simp only [Act.put, List.setIfInBounds_toArray, List.set_cons_zero, List.set_cons_succ]
                      refine wpAnyH_done (by kernel_rfl) ?_ _
                      obtain ⟨f1, f2, f3⟩ := hfin _ (by first | exact .inl rfl | exact .inr rfl)
                      go_wp2
                      exact bodyPost_ret (v := .tuple #[.agg #[.slice (some ⟨gk, go, none⟩) g.length uc], .agg #[.slice (some ⟨ab, 0, none⟩) r.length xc]]) (by simp [results, Tryz.results26, go_sem, f1, f2]) rfl f3
                  by_cases h1 : q = 1
                  · subst h1
                    clear h0 hgrow
                    by_cases hr0 : 0 < r[v].length
                    case neg =>
                      have hrz : r[v].length = 0 := by omega
                      have hrz1 : decide ((0 : Int) < ((r[v].length : Nat) : Int)) = false := decide_eq_false (by omega)
                      have hrz2 : decide (0 < r[v].length) = false := decide_eq_false (by omega)
                      clear hrz
                      as_aux_lemma =>
                        have hEt := hD.e22 (Nat.le_refl _) hsr
                        obtain ⟨k0, k1, -, -⟩ := own_cell hEt.bg
                        obtain ⟨k2, k3, -, -⟩ := own_cell hEt.bx
                        skip
                        go_wp2
                        refine wp_region_held_drew (S := (fun w' => w'.cell? ⟨gb, 0, none⟩ = some (.slice (some ⟨gk, go, none⟩) g.length uc) ∧ w'.cell? ⟨xb, 0, none⟩ = some (.slice (some ⟨ab, 0, none⟩) r.length xc))) (by kernel_rfl) ?_ (fun hHeld => ?_)
                        · first | exact ⟨‹_›, ‹_›⟩ | exact ⟨(World.cell?_setCell_other _ _ _ _ (fun e => hne2 (congrArg Addr.block e))).trans ((World.cell?_setCell_other _ _ _ _ (fun e => hne1 (congrArg Addr.block e))).trans hHl1), (World.cell?_setCell_other _ _ _ _ (fun e => hne4 (congrArg Addr.block e))).trans ((World.cell?_setCell_other _ _ _ _ (fun e => hne3 (congrArg Addr.block e))).trans hHl2)⟩ | (simp [*, go_sem])
                        have hEd := hEt.drawn (Drawn.refl _).drew
                        generalize World.drew _ = wd at hEd hHeld ⊢
                        have hfin := hEd.fin hgl (by omega) (hL2)
                        obtain ⟨p0, p1, -, -⟩ := own_cell hEd.r0
                        obtain ⟨q0, q1, -, -⟩ := own_cell hEd.r1
                        have hq0 : ∀ x : Value, (wd.setCell ⟨w.heap.size, 0, none⟩ x).cell? ⟨w.heap.size + 1, 0, none⟩ = some (.slice none 0 0) := fun x => (World.cell?_setCell_other _ _ _ _ (fun e => by have := congrArg Addr.block e; simp at this)).trans q0
                        have hp0 : ∀ x : Value, (wd.setCell ⟨w.heap.size + 1, 0, none⟩ x).cell? ⟨w.heap.size, 0, none⟩ = some (.slice none 0 0) := fun x => (World.cell?_setCell_other _ _ _ _ (fun e => by have := congrArg Addr.block e; simp at this)).trans p0
                        have hne1 : ¬ (w.heap.size = gb) := by have := hEd.lo; omega
                        have hne2 : ¬ (w.heap.size + 1 = gb) := by have := hEd.lo; omega
                        have hne3 : ¬ (w.heap.size = xb) := by have := hEd.lo; omega
                        have hne4 : ¬ (w.heap.size + 1 = xb) := by have := hEd.lo; omega
                        have hHl1 := hHeld.1
                        have hHl2 := hHeld.2
                        refine wpAnyH_take (i := 0) (v := ?v241) (by simp only [List.getElem?_toArray, List.getElem?_cons_zero]; exact rfl) (by kernel_rfl) (by kernel_rfl) (by kernel_rfl) (by intro _ _ _ h; exact h) (Or.inl ⟨by rfl, ?y241⟩) hHeld ?_
                        case y241 => (intro w hSw; (try dsimp only at hSw); go_simp; try (with_reducible rfl))
                        try simp only [Act.put, List.setIfInBounds_toArray, List.set_cons_zero, List.set_cons_succ]
                        refine wpAnyH_take (i := 1) (v := ?v242) (by simp only [List.getElem?_toArray, List.getElem?_cons_succ, List.getElem?_cons_zero]; exact rfl) (by kernel_rfl) (by kernel_rfl) (by kernel_rfl) (by intro _ _ _ h; exact h) (Or.inl ⟨by rfl, ?y242⟩) hHeld ?_
                        case y242 => (intro w hSw; (try dsimp only at hSw); go_simp; try (with_reducible rfl))
                        try simp only [Act.put, List.setIfInBounds_toArray, List.set_cons_zero, List.set_cons_succ]
                        refine wpAnyH_ready (rs := [2]) (by kernel_rfl) (by simp) ?_
                        refine AllReadyH.cons (by simp only [List.getElem?_toArray, List.getElem?_cons_succ, List.getElem?_cons_zero]; exact rfl) (fun K hK => ?_) AllReadyH.nil
                        go_simp
                        skip
                        try dsimp only
                        refine hK.out _ _ ?h244 (fun hHeld => ?_)
                        case h244 => first | exact ⟨‹_›, ‹_›⟩ | exact ⟨(World.cell?_setCell_other _ _ _ _ (fun e => hne2 (congrArg Addr.block e))).trans ((World.cell?_setCell_other _ _ _ _ (fun e => hne1 (congrArg Addr.block e))).trans hHl1), (World.cell?_setCell_other _ _ _ _ (fun e => hne4 (congrArg Addr.block e))).trans ((World.cell?_setCell_other _ _ _ _ (fun e => hne3 (congrArg Addr.block e))).trans hHl2)⟩ | (simp [*, go_sem])
                        clear hK K
                        try simp only [Act.put, List.setIfInBounds_toArray, List.set_cons_zero, List.set_cons_succ]
                        refine wpAnyH_ready (rs := [3]) (by kernel_rfl) (by simp) ?_
                        refine AllReadyH.cons (by simp only [List.getElem?_toArray, List.getElem?_cons_succ, List.getElem?_cons_zero]; exact rfl) (fun K hK => ?_) AllReadyH.nil
                        go_simp
                        skip
                        try dsimp only
                        refine hK.out _ _ ?h246 (fun hHeld => ?_)
                        case h246 => first | exact ⟨‹_›, ‹_›⟩ | exact ⟨(World.cell?_setCell_other _ _ _ _ (fun e => hne2 (congrArg Addr.block e))).trans ((World.cell?_setCell_other _ _ _ _ (fun e => hne1 (congrArg Addr.block e))).trans hHl1), (World.cell?_setCell_other _ _ _ _ (fun e => hne4 (congrArg Addr.block e))).trans ((World.cell?_setCell_other _ _ _ _ (fun e => hne3 (congrArg Addr.block e))).trans hHl2)⟩ | (simp [*, go_sem])
                        clear hK K
                        try simp only [Act.put, List.setIfInBounds_toArray, List.set_cons_zero, List.set_cons_succ]
                        refine wpAnyH_done (by kernel_rfl) ?_ _
                        obtain ⟨f1, f2, f3⟩ := hfin _ (by first | exact .inl rfl | exact .inr rfl)
                        go_wp2
                        exact bodyPost_ret (v := .tuple #[.agg #[.slice (some ⟨gk, go, none⟩) g.length uc], .agg #[.slice (some ⟨ab, 0, none⟩) r.length xc]]) (by simp [results, Tryz.results26, go_sem, f1, f2]) rfl f3
                    obtain ⟨rb, rc', hre⟩ := own_some hrow hr0
                    simp only [Value.slice.injEq, true_and] at hre
                    obtain ⟨rfl, rfl⟩ := hre
                    obtain ⟨y0, hy0⟩ : ∃ y0, wv.cell? ⟨rb, 0, none⟩ = some (.int .i64 y0) := ⟨r[v][0], by have := World.ownsRow.cellAt hrow 0 (by omega); simpa [hr0] using this⟩
                    have hri := Own.ints (xs := r[v]) hrow (by omega)
                    have hd2 := hri.dropE (m := 1) (by omega)
                    obtain ⟨hq4, hq5, hq6⟩ := hri.capOf
                    simp only [Nat.zero_add] at hd2
                    obtain ⟨ad, had⟩ : ∃ ad, (if rc = 1 then some (⟨rb, 0, none⟩ : Addr) else some ⟨rb, 1, none⟩) = ad := ⟨_, rfl⟩
                    rw [had] at hd2
                    have hA : ((r[v]).drop 1).length = r[v].length - 1 := by simp
                    have HN := Lib.hid (fun (w1 : World) (rv : Value) (A : List Int) (hA : (r[v]).drop 1 = A) (h1 : Below wv.heap.size wv w1) (h2 : Own w1 wv.heap.size 2 1 rv (A.length + 1) ((A ++ [y0]).map (.int .i64))) (h3 : A.length ≤ 40) => hnew (r := A ++ [y0]) h1 (by rw [List.length_append]; exact h2) (by rw [List.length_append]; simp; omega))
                    have HR := Lib.hid (fun (w8 : World) (rv : Value) (A : List Int) (h1 : Below wv.heap.size wv w8) h2 => hD.row (v := v) (rv := rv) (r' := r.set v (A ++ [y0])) (q := none) (kept_ofB h1 (Nat.le_refl _)) (fun b hb => by cases hb) hBab hax h2)
                    obtain ⟨A, hAe⟩ : ∃ A, A = (r[v]).drop 1 := ⟨_, rfl⟩
                    rw [← hAe] at hd2 hA
                    have hA40 : A.length ≤ 40 := by omega
                    have HAE := Lib.hid hAe.symm
                    have hm1 : (1 : Int) ≤ ((r[v].length : Nat) : Int) := by omega
                    have hrz1 : decide ((0 : Int) < ((r[v].length : Nat) : Int)) = true := decide_eq_true (by omega)
                    have hrz2 : decide (0 < r[v].length) = true := decide_eq_true hr0
                    have hLb := set_rows (k := v) hL2 (show (A ++ [y0]).length ≤ 2000 by simp; omega)
                    have hLa : (r.set v (A ++ [y0])).length ≤ 2000 := by rw [List.length_set]; omega
                    have hfr := World.ownsRow.frozenAt hrow 0
                    clear hAe hnew hri hA
                    generalize r[v].length = m at *
                    go_wp2_with fail
                    apply meetD1 (H := fun (xcp : Value) (v3a : Option Addr) (v3c nb : Nat) (wd : World) => E22 w (wd.setCell ⟨ab, v, none⟩ (.slice v3a (A.length + 1) v3c)) d bs gb xb (.slice (some ⟨gk, go, none⟩) g.length uc) g (.slice (some ⟨ab, 0, none⟩) r.length xc) (r.set v (A ++ [y0])))
                    case orders =>
                      intro rest
                      refine wp_region_late (S := (fun w' => w'.cell? ⟨xb, 0, none⟩ = some (.slice (some ⟨ab, 0, none⟩) r.length xc) ∧ w'.cell? ⟨ab, v, none⟩ = some (.slice (some ⟨rb, 0, none⟩) m rc) ∧ w'.cell? ⟨rb, 0, none⟩ = some (.int .i64 y0))) (late := [20]) (by kernel_rfl) ?_ (fun hHeld => ?_)
                      · first | exact ⟨‹_›, ‹_›, ‹_›⟩ | (simp [*, go_sem])
                      have hbd : Below wv.heap.size wv wv.drew := ((Drawn.refl _).drew).below _
                      generalize wv.drew = wd at hbd hHeld ⊢
                      obtain ⟨e0, e1, e2⟩ := id hHeld
                      refine wpLate_take (i := 0) (v := ?v247) (by simp only [List.getElem?_toArray, List.getElem?_cons_zero]; exact rfl) (by kernel_rfl) (by kernel_rfl) (by kernel_rfl) (by intro _ _ _ h; exact h) (Or.inl ⟨by rfl, ?y247⟩) ?_
                      case y247 => (intro w _; go_simp; try (with_reducible rfl))
                      try simp only [Act.put, List.setIfInBounds_toArray, List.set_cons_zero, List.set_cons_succ]
                      refine wpLate_load (i := 1) (v := ?v248) (by simp only [List.getElem?_toArray, List.getElem?_cons_succ, List.getElem?_cons_zero]; exact rfl) (by kernel_rfl) (by kernel_rfl) (by kernel_rfl) (by kernel_rfl) (by intro _ _ _ h; exact h) (Or.inl ⟨by rfl, ?y248⟩) hHeld ?_
                      case y248 => (intro w hSw; (try dsimp only at hSw); go_simp; try (with_reducible rfl))
                      try simp only [Act.put, List.setIfInBounds_toArray, List.set_cons_zero, List.set_cons_succ]
                      refine wpLate_take (i := 2) (v := ?v249) (by simp only [List.getElem?_toArray, List.getElem?_cons_succ, List.getElem?_cons_zero]; exact rfl) (by kernel_rfl) (by kernel_rfl) (by kernel_rfl) (by intro _ _ _ h; exact h) (Or.inl ⟨by rfl, ?y249⟩) ?_
                      case y249 => (intro w _; go_simp; try (with_reducible rfl))
                      try simp only [Act.put, List.setIfInBounds_toArray, List.set_cons_zero, List.set_cons_succ]
                      refine wpLate_take (i := 3) (v := ?v250) (by simp only [List.getElem?_toArray, List.getElem?_cons_succ, List.getElem?_cons_zero]; exact rfl) (by kernel_rfl) (by kernel_rfl) (by kernel_rfl) (by intro _ _ _ h; exact h) (Or.inl ⟨by rfl, ?y250⟩) ?_
                      case y250 => (intro w _; go_simp; try (with_reducible rfl))
                      try simp only [Act.put, List.setIfInBounds_toArray, List.set_cons_zero, List.set_cons_succ]
                      refine wpLate_load (i := 4) (v := ?v251) (by simp only [List.getElem?_toArray, List.getElem?_cons_succ, List.getElem?_cons_zero]; exact rfl) (by kernel_rfl) (by kernel_rfl) (by kernel_rfl) (by kernel_rfl) (by intro _ _ _ h; exact h) (Or.inl ⟨by rfl, ?y251⟩) hHeld ?_
                      case y251 => (intro w hSw; (try dsimp only at hSw); go_simp; try (with_reducible rfl))
                      try simp only [Act.put, List.setIfInBounds_toArray, List.set_cons_zero, List.set_cons_succ]
                      refine wpLate_take (i := 5) (v := ?v252) (by simp only [List.getElem?_toArray, List.getElem?_cons_succ, List.getElem?_cons_zero]; exact rfl) (by kernel_rfl) (by kernel_rfl) (by kernel_rfl) (by intro _ _ _ h; exact h) (Or.inl ⟨by rfl, ?y252⟩) ?_
                      case y252 => (intro w _; go_simp; try (with_reducible rfl))
                      try simp only [Act.put, List.setIfInBounds_toArray, List.set_cons_zero, List.set_cons_succ]
                      refine wpLate_take (i := 6) (v := ?v253) (by simp only [List.getElem?_toArray, List.getElem?_cons_succ, List.getElem?_cons_zero]; exact rfl) (by kernel_rfl) (by kernel_rfl) (by kernel_rfl) (by intro _ _ _ h; exact h) (Or.inl ⟨by rfl, ?y253⟩) ?_
                      case y253 => (intro w _; go_simp; try (with_reducible rfl))
                      try simp only [Act.put, List.setIfInBounds_toArray, List.set_cons_zero, List.set_cons_succ]
                      refine wpLate_load (i := 7) (v := ?v254) (by simp only [List.getElem?_toArray, List.getElem?_cons_succ, List.getElem?_cons_zero]; exact rfl) (by kernel_rfl) (by kernel_rfl) (by kernel_rfl) (by kernel_rfl) (by intro _ _ _ h; exact h) (Or.inl ⟨by rfl, ?y254⟩) hHeld ?_
                      case y254 => (intro w hSw; (try dsimp only at hSw); go_simp; try (with_reducible rfl))
                      try simp only [Act.put, List.setIfInBounds_toArray, List.set_cons_zero, List.set_cons_succ]
                      refine wpLate_take (i := 8) (v := ?v255) (by simp only [List.getElem?_toArray, List.getElem?_cons_succ, List.getElem?_cons_zero]; exact rfl) (by kernel_rfl) (by kernel_rfl) (by kernel_rfl) (by intro _ _ _ h; exact h) (Or.inl ⟨by rfl, ?y255⟩) ?_
                      case y255 => (intro w _; go_simp; try (with_reducible rfl))
                      try simp only [Act.put, List.setIfInBounds_toArray, List.set_cons_zero, List.set_cons_succ]
                      refine wpLate_take (i := 10) (v := ?v256) (by simp only [List.getElem?_toArray, List.getElem?_cons_succ, List.getElem?_cons_zero]; exact rfl) (by kernel_rfl) (by kernel_rfl) (by kernel_rfl) (by intro _ _ _ h; exact h) (Or.inl ⟨by rfl, ?y256⟩) ?_
                      case y256 => (intro w _; go_simp; try (with_reducible rfl))
                      try simp only [Act.put, List.setIfInBounds_toArray, List.set_cons_zero, List.set_cons_succ]
                      refine wpLate_load (i := 11) (v := ?v257) (by simp only [List.getElem?_toArray, List.getElem?_cons_succ, List.getElem?_cons_zero]; exact rfl) (by kernel_rfl) (by kernel_rfl) (by kernel_rfl) (by kernel_rfl) (by intro _ _ _ h; exact h) (Or.inl ⟨by rfl, ?y257⟩) hHeld ?_
                      case y257 => (intro w hSw; (try dsimp only at hSw); go_simp; try (with_reducible rfl))
                      try simp only [Act.put, List.setIfInBounds_toArray, List.set_cons_zero, List.set_cons_succ]
                      refine wpLate_take (i := 12) (v := ?v258) (by simp only [List.getElem?_toArray, List.getElem?_cons_succ, List.getElem?_cons_zero]; exact rfl) (by kernel_rfl) (by kernel_rfl) (by kernel_rfl) (by intro _ _ _ h; exact h) (Or.inl ⟨by rfl, ?y258⟩) ?_
                      case y258 => (intro w _; go_simp; try (with_reducible rfl))
                      try simp only [Act.put, List.setIfInBounds_toArray, List.set_cons_zero, List.set_cons_succ]
                      refine wpLate_take (i := 13) (v := ?v259) (by simp only [List.getElem?_toArray, List.getElem?_cons_succ, List.getElem?_cons_zero]; exact rfl) (by kernel_rfl) (by kernel_rfl) (by kernel_rfl) (by intro _ _ _ h; exact h) (Or.inl ⟨by rfl, ?y259⟩) ?_
                      case y259 => (intro w _; go_simp; try (with_reducible rfl))
                      try simp only [Act.put, List.setIfInBounds_toArray, List.set_cons_zero, List.set_cons_succ]
                      refine wpLate_load (i := 14) (v := ?v260) (by simp only [List.getElem?_toArray, List.getElem?_cons_succ, List.getElem?_cons_zero]; exact rfl) (by kernel_rfl) (by kernel_rfl) (by kernel_rfl) (by kernel_rfl) (by intro _ _ _ h; exact h) (Or.inl ⟨by rfl, ?y260⟩) hHeld ?_
                      case y260 => (intro w hSw; (try dsimp only at hSw); go_simp; try (with_reducible rfl))
                      try simp only [Act.put, List.setIfInBounds_toArray, List.set_cons_zero, List.set_cons_succ]
                      refine wpLate_take (i := 15) (v := ?v261) (by simp only [List.getElem?_toArray, List.getElem?_cons_succ, List.getElem?_cons_zero]; exact rfl) (by kernel_rfl) (by kernel_rfl) (by kernel_rfl) (by intro _ _ _ h; exact h) (Or.inl ⟨by rfl, ?y261⟩) ?_
                      case y261 => (intro w _; go_simp; try (with_reducible rfl))
                      try simp only [Act.put, List.setIfInBounds_toArray, List.set_cons_zero, List.set_cons_succ]
                      refine wpLate_load (i := 16) (v := ?v262) (by simp only [List.getElem?_toArray, List.getElem?_cons_succ, List.getElem?_cons_zero]; exact rfl) (by kernel_rfl) (by kernel_rfl) (by kernel_rfl) (by kernel_rfl) (by intro _ _ _ h; exact h) (Or.inl ⟨by rfl, ?y262⟩) hHeld ?_
                      case y262 => (intro w hSw; (try dsimp only at hSw); go_simp; try (with_reducible rfl))
                      try simp only [Act.put, List.setIfInBounds_toArray, List.set_cons_zero, List.set_cons_succ]
                      refine wpLate_two (i := 9) (j := 17) (by kernel_rfl) (by simp only [List.getElem?_toArray, List.getElem?_cons_succ, List.getElem?_cons_zero]; exact rfl) (by simp only [List.getElem?_toArray, List.getElem?_cons_succ, List.getElem?_cons_zero]; exact rfl) (by kernel_rfl) (by kernel_rfl) (fun K hK => ?a263) (fun K hK => ?b263)
                      case a263 =>
                        go_simp
                        refine (l1Copy_any _ _ _ (hd2.below hbd (Nat.le_refl _)) (by omega)).mono ?_
                        rintro e wy ⟨xcp, rfl, hxc0, hb5⟩
                        have hxc := hxc0.weak hbd.size
                        try (have clit := (hb5.cell (cell_lt clit)).trans clit)
                        have hbd := hbd.trans (hb5.mono hbd.size)
                        clear hb5 e0 e1 e2 hxc0
                        obtain ⟨wd, rfl⟩ : ∃ x, x = wy := ⟨_, rfl⟩
                        have e0 := (hbd.cell (cell_lt x0)).trans x0
                        have e1 := (hbd.cell (cell_lt hc)).trans hc
                        have e2 := (hbd.cell (cell_lt hy0)).trans hy0
                        try dsimp only
                        refine hK.out _ _ ?h264 (fun hHeld => ?_)
                        case h264 => first | exact ⟨‹_›, ‹_›, ‹_›⟩ | (simp [*, go_sem])
                        clear hK K
                        try simp only [Act.put, List.setIfInBounds_toArray, List.set_cons_zero, List.set_cons_succ]
                        refine wpLate_one (i := 17) (by kernel_rfl) (by simp only [List.getElem?_toArray, List.getElem?_cons_succ, List.getElem?_cons_zero]; exact rfl) (by kernel_rfl) (fun K hK => ?_)
                        go_simp
                        obtain ⟨nb, hnb⟩ : ∃ nb, nb = wd.heap.size := ⟨_, rfl⟩
                        rw [← hnb]
                        have hbn : Below wd.heap.size wd (wd.alloc (.cells #[.int .i64 y0] 2)) := (Below.refl _ _).alloc (Nat.le_refl _) _
                        have clit : (wd.alloc (.cells #[.int .i64 y0] 2)).cell? ⟨nb, 0, none⟩ = some (.int .i64 y0) := (by rw [hnb]; simp [go_sem])
                        try (have hxc := hxc.below hbn (Nat.le_refl _))
                        have hbd := hbd.trans (hbn.mono hbd.size)
                        clear hnb hbn e0 e1 e2
                        generalize wd.alloc (.cells #[.int .i64 y0] 2) = wy at *
                        obtain ⟨wd, rfl⟩ : ∃ x, x = wy := ⟨_, rfl⟩
                        have e0 := (hbd.cell (cell_lt x0)).trans x0
                        have e1 := (hbd.cell (cell_lt hc)).trans hc
                        have e2 := (hbd.cell (cell_lt hy0)).trans hy0
                        try dsimp only
                        refine hK.out _ _ ?h266 (fun hHeld => ?_)
                        case h266 => first | exact ⟨‹_›, ‹_›, ‹_›⟩ | (simp [*, go_sem])
                        clear hK K
                        try simp only [Act.put, List.setIfInBounds_toArray, List.set_cons_zero, List.set_cons_succ]
                        refine wpLate_one (i := 18) (by kernel_rfl) (by simp only [List.getElem?_toArray, List.getElem?_cons_succ, List.getElem?_cons_zero]; exact rfl) (by kernel_rfl) (fun K hK => ?_)
                        rw [if_pos (by rfl)]
                        refine opWp_append1E elI64 _ _ rfl hxc rfl rfl clit rfl (by omega) hbd.size ?_
                        intro v3 wy ho3 hk3 hm3
                        have hbd := hk3.below hbd hbd.size (fun b hb => hxc.ge b hb)
                        clear clit hk3 hm3 e0 e1 e2 hxc
                        obtain ⟨wd, rfl⟩ : ∃ x, x = wy := ⟨_, rfl⟩
                        have e0 := (hbd.cell (cell_lt x0)).trans x0
                        have e1 := (hbd.cell (cell_lt hc)).trans hc
                        have e2 := (hbd.cell (cell_lt hy0)).trans hy0
                        obtain ⟨v3a, v3c, rfl⟩ := ho3.isSlice
                        have ef := (hbd.frozen (p := ⟨ab, v, none⟩) (cell_lt hc)).trans hf
                        try dsimp only
                        refine hK.out _ _ ?h268 (fun hHeld => ?_)
                        case h268 => first | exact ⟨‹_›, ‹_›, ‹_›⟩ | (simp [*, go_sem])
                        clear hK K
                        try simp only [Act.put, List.setIfInBounds_toArray, List.set_cons_zero, List.set_cons_succ]
                        refine wpLate_take (i := 19) (v := ?v269) (by simp only [List.getElem?_toArray, List.getElem?_cons_succ, List.getElem?_cons_zero]; exact rfl) (by kernel_rfl) (by kernel_rfl) (by kernel_rfl) (by intro _ _ _ h; exact h) (Or.inl ⟨by rfl, ?y269⟩) ?_
                        case y269 => (intro w _; go_simp; try (with_reducible rfl))
                        try simp only [Act.put, List.setIfInBounds_toArray, List.set_cons_zero, List.set_cons_succ]
                        refine wpLate_late (i := 20) (by kernel_rfl) (by simp only [List.getElem?_toArray, List.getElem?_cons_succ, List.getElem?_cons_zero]; exact rfl) (by kernel_rfl) (fun K hK => ?_)
                        go_simp
                        skip
                        try dsimp only
                        refine hK.out _ _ ?_
                        clear hK K
                        try simp only [Act.put, List.setIfInBounds_toArray, List.set_cons_zero, List.set_cons_succ]
                        refine wpLate_done (by kernel_rfl) ?_ _
                        have hS := HN.out wd _ A HAE.out hbd (by rw [List.map_append]; exact ho3) hA40
                        have hE0 := HR.out wd _ A hbd hS
                        exact rest xcp v3a v3c nb wd hE0
                      case b263 =>
                        go_simp
                        obtain ⟨nb, hnb⟩ : ∃ nb, nb = wd.heap.size := ⟨_, rfl⟩
                        rw [← hnb]
                        have hbn : Below wd.heap.size wd (wd.alloc (.cells #[.int .i64 y0] 2)) := (Below.refl _ _).alloc (Nat.le_refl _) _
                        have clit : (wd.alloc (.cells #[.int .i64 y0] 2)).cell? ⟨nb, 0, none⟩ = some (.int .i64 y0) := (by rw [hnb]; simp [go_sem])
                        try (have hxc := hxc.below hbn (Nat.le_refl _))
                        have hbd := hbd.trans (hbn.mono hbd.size)
                        clear hnb hbn e0 e1 e2
                        generalize wd.alloc (.cells #[.int .i64 y0] 2) = wy at *
                        obtain ⟨wd, rfl⟩ : ∃ x, x = wy := ⟨_, rfl⟩
                        have e0 := (hbd.cell (cell_lt x0)).trans x0
                        have e1 := (hbd.cell (cell_lt hc)).trans hc
                        have e2 := (hbd.cell (cell_lt hy0)).trans hy0
                        try dsimp only
                        refine hK.out _ _ ?h272 (fun hHeld => ?_)
                        case h272 => first | exact ⟨‹_›, ‹_›, ‹_›⟩ | (simp [*, go_sem])
                        clear hK K
                        try simp only [Act.put, List.setIfInBounds_toArray, List.set_cons_zero, List.set_cons_succ]
                        refine wpLate_one (i := 9) (by kernel_rfl) (by simp only [List.getElem?_toArray, List.getElem?_cons_succ, List.getElem?_cons_zero]; exact rfl) (by kernel_rfl) (fun K hK => ?_)
                        go_simp
                        refine (l1Copy_any _ _ _ (hd2.below hbd (Nat.le_refl _)) (by omega)).mono ?_
                        rintro e wy ⟨xcp, rfl, hxc0, hb5⟩
                        have hxc := hxc0.weak hbd.size
                        try (have clit := (hb5.cell (cell_lt clit)).trans clit)
                        have hbd := hbd.trans (hb5.mono hbd.size)
                        clear hb5 e0 e1 e2 hxc0
                        obtain ⟨wd, rfl⟩ : ∃ x, x = wy := ⟨_, rfl⟩
                        have e0 := (hbd.cell (cell_lt x0)).trans x0
                        have e1 := (hbd.cell (cell_lt hc)).trans hc
                        have e2 := (hbd.cell (cell_lt hy0)).trans hy0
                        try dsimp only
                        refine hK.out _ _ ?h274 (fun hHeld => ?_)
                        case h274 => first | exact ⟨‹_›, ‹_›, ‹_›⟩ | (simp [*, go_sem])
                        clear hK K
                        try simp only [Act.put, List.setIfInBounds_toArray, List.set_cons_zero, List.set_cons_succ]
                        refine wpLate_one (i := 18) (by kernel_rfl) (by simp only [List.getElem?_toArray, List.getElem?_cons_succ, List.getElem?_cons_zero]; exact rfl) (by kernel_rfl) (fun K hK => ?_)
                        rw [if_pos (by rfl)]
                        refine opWp_append1E elI64 _ _ rfl hxc rfl rfl clit rfl (by omega) hbd.size ?_
                        intro v3 wy ho3 hk3 hm3
                        have hbd := hk3.below hbd hbd.size (fun b hb => hxc.ge b hb)
                        clear clit hk3 hm3 e0 e1 e2 hxc
                        obtain ⟨wd, rfl⟩ : ∃ x, x = wy := ⟨_, rfl⟩
                        have e0 := (hbd.cell (cell_lt x0)).trans x0
                        have e1 := (hbd.cell (cell_lt hc)).trans hc
                        have e2 := (hbd.cell (cell_lt hy0)).trans hy0
                        obtain ⟨v3a, v3c, rfl⟩ := ho3.isSlice
                        have ef := (hbd.frozen (p := ⟨ab, v, none⟩) (cell_lt hc)).trans hf
                        try dsimp only
                        refine hK.out _ _ ?h276 (fun hHeld => ?_)
                        case h276 => first | exact ⟨‹_›, ‹_›, ‹_›⟩ | (simp [*, go_sem])
                        clear hK K
                        try simp only [Act.put, List.setIfInBounds_toArray, List.set_cons_zero, List.set_cons_succ]
                        refine wpLate_take (i := 19) (v := ?v277) (by simp only [List.getElem?_toArray, List.getElem?_cons_succ, List.getElem?_cons_zero]; exact rfl) (by kernel_rfl) (by kernel_rfl) (by kernel_rfl) (by intro _ _ _ h; exact h) (Or.inl ⟨by rfl, ?y277⟩) ?_
                        case y277 => (intro w _; go_simp; try (with_reducible rfl))
                        try simp only [Act.put, List.setIfInBounds_toArray, List.set_cons_zero, List.set_cons_succ]
                        refine wpLate_late (i := 20) (by kernel_rfl) (by simp only [List.getElem?_toArray, List.getElem?_cons_succ, List.getElem?_cons_zero]; exact rfl) (by kernel_rfl) (fun K hK => ?_)
                        go_simp
                        skip
                        try dsimp only
                        refine hK.out _ _ ?_
                        clear hK K
                        try simp only [Act.put, List.setIfInBounds_toArray, List.set_cons_zero, List.set_cons_succ]
                        refine wpLate_done (by kernel_rfl) ?_ _
                        have hS := HN.out wd _ A HAE.out hbd (by rw [List.map_append]; exact ho3) hA40
                        have hE0 := HR.out wd _ A hbd hS
                        exact rest xcp v3a v3c nb wd hE0
                    case rest =>
                      intro xcp v3a v3c nb wd hE0
                      clear HN HR hd2 hD hrow hc hf hy0
                      as_aux_lemma =>
                        have hEt := hE0
                        obtain ⟨k0, k1, -, -⟩ := own_cell hEt.bg
                        obtain ⟨k2, k3, -, -⟩ := own_cell hEt.bx
                        skip
                        go_wp2
                        refine wp_region_held_drew (S := (fun w' => w'.cell? ⟨gb, 0, none⟩ = some (.slice (some ⟨gk, go, none⟩) g.length uc) ∧ w'.cell? ⟨xb, 0, none⟩ = some (.slice (some ⟨ab, 0, none⟩) r.length xc))) (by kernel_rfl) ?_ (fun hHeld => ?_)
                        · first | exact ⟨‹_›, ‹_›⟩ | exact ⟨(World.cell?_setCell_other _ _ _ _ (fun e => hne2 (congrArg Addr.block e))).trans ((World.cell?_setCell_other _ _ _ _ (fun e => hne1 (congrArg Addr.block e))).trans hHl1), (World.cell?_setCell_other _ _ _ _ (fun e => hne4 (congrArg Addr.block e))).trans ((World.cell?_setCell_other _ _ _ _ (fun e => hne3 (congrArg Addr.block e))).trans hHl2)⟩ | (simp [*, go_sem])
                        have hEd := hEt.drawn (Drawn.refl _).drew
                        generalize World.drew _ = wd at hEd hHeld ⊢
                        have hfin := hEd.fin hgl (hLa) (hLb)
                        obtain ⟨p0, p1, -, -⟩ := own_cell hEd.r0
                        obtain ⟨q0, q1, -, -⟩ := own_cell hEd.r1
                        have hq0 : ∀ x : Value, (wd.setCell ⟨w.heap.size, 0, none⟩ x).cell? ⟨w.heap.size + 1, 0, none⟩ = some (.slice none 0 0) := fun x => (World.cell?_setCell_other _ _ _ _ (fun e => by have := congrArg Addr.block e; simp at this)).trans q0
                        have hp0 : ∀ x : Value, (wd.setCell ⟨w.heap.size + 1, 0, none⟩ x).cell? ⟨w.heap.size, 0, none⟩ = some (.slice none 0 0) := fun x => (World.cell?_setCell_other _ _ _ _ (fun e => by have := congrArg Addr.block e; simp at this)).trans p0
                        have hne1 : ¬ (w.heap.size = gb) := by have := hEd.lo; omega
                        have hne2 : ¬ (w.heap.size + 1 = gb) := by have := hEd.lo; omega
                        have hne3 : ¬ (w.heap.size = xb) := by have := hEd.lo; omega
                        have hne4 : ¬ (w.heap.size + 1 = xb) := by have := hEd.lo; omega
                        have hHl1 := hHeld.1
                        have hHl2 := hHeld.2
                        refine wpAnyH_take (i := 0) (v := ?v280) (by simp only [List.getElem?_toArray, List.getElem?_cons_zero]; exact rfl) (by kernel_rfl) (by kernel_rfl) (by kernel_rfl) (by intro _ _ _ h; exact h) (Or.inl ⟨by rfl, ?y280⟩) hHeld ?_
                        case y280 => (intro w hSw; (try dsimp only at hSw); go_simp; try (with_reducible rfl))
                        try simp only [Act.put, List.setIfInBounds_toArray, List.set_cons_zero, List.set_cons_succ]
                        refine wpAnyH_take (i := 1) (v := ?v281) (by simp only [List.getElem?_toArray, List.getElem?_cons_succ, List.getElem?_cons_zero]; exact rfl) (by kernel_rfl) (by kernel_rfl) (by kernel_rfl) (by intro _ _ _ h; exact h) (Or.inl ⟨by rfl, ?y281⟩) hHeld ?_
                        case y281 => (intro w hSw; (try dsimp only at hSw); go_simp; try (with_reducible rfl))
                        try simp only [Act.put, List.setIfInBounds_toArray, List.set_cons_zero, List.set_cons_succ]
                        refine wpAnyH_ready (rs := [2]) (by kernel_rfl) (by simp) ?_
                        refine AllReadyH.cons (by simp only [List.getElem?_toArray, List.getElem?_cons_succ, List.getElem?_cons_zero]; exact rfl) (fun K hK => ?_) AllReadyH.nil
                        go_simp
                        skip
                        try dsimp only
                        refine hK.out _ _ ?h283 (fun hHeld => ?_)
                        case h283 => first | exact ⟨‹_›, ‹_›⟩ | exact ⟨(World.cell?_setCell_other _ _ _ _ (fun e => hne2 (congrArg Addr.block e))).trans ((World.cell?_setCell_other _ _ _ _ (fun e => hne1 (congrArg Addr.block e))).trans hHl1), (World.cell?_setCell_other _ _ _ _ (fun e => hne4 (congrArg Addr.block e))).trans ((World.cell?_setCell_other _ _ _ _ (fun e => hne3 (congrArg Addr.block e))).trans hHl2)⟩ | (simp [*, go_sem])
                        clear hK K
                        try simp only [Act.put, List.setIfInBounds_toArray, List.set_cons_zero, List.set_cons_succ]
                        refine wpAnyH_ready (rs := [3]) (by kernel_rfl) (by simp) ?_
                        refine AllReadyH.cons (by simp only [List.getElem?_toArray, List.getElem?_cons_succ, List.getElem?_cons_zero]; exact rfl) (fun K hK => ?_) AllReadyH.nil
                        go_simp
                        skip
                        try dsimp only
                        refine hK.out _ _ ?h285 (fun hHeld => ?_)
                        case h285 => first | exact ⟨‹_›, ‹_›⟩ | exact ⟨(World.cell?_setCell_other _ _ _ _ (fun e => hne2 (congrArg Addr.block e))).trans ((World.cell?_setCell_other _ _ _ _ (fun e => hne1 (congrArg Addr.block e))).trans hHl1), (World.cell?_setCell_other _ _ _ _ (fun e => hne4 (congrArg Addr.block e))).trans ((World.cell?_setCell_other _ _ _ _ (fun e => hne3 (congrArg Addr.block e))).trans hHl2)⟩ | (simp [*, go_sem])
                        clear hK K
                        try simp only [Act.put, List.setIfInBounds_toArray, List.set_cons_zero, List.set_cons_succ]
                        refine wpAnyH_done (by kernel_rfl) ?_ _
                        obtain ⟨f1, f2, f3⟩ := hfin _ (by first | exact .inl rfl | exact .inr rfl)
                        go_wp2
                        exact bodyPost_ret (v := .tuple #[.agg #[.slice (some ⟨gk, go, none⟩) g.length uc], .agg #[.slice (some ⟨ab, 0, none⟩) r.length xc]]) (by simp [results, Tryz.results26, go_sem, f1, f2]) rfl f3
                  have h2 : q = 2 := by omega
                  subst h2
                  obtain ⟨y0, r', hrr⟩ : ∃ y0 r', r = y0 :: r' := by
                    cases hr : r with
                    | nil => rw [hr] at z0; simp at z0
                    | cons y0 r' => exact ⟨y0, r', rfl⟩
                  have hsl := hD.ow.rowsNe hD.bx (by decide) (by decide) hsr
                  rw [hrr] at hsl
                  have hsl2 := (show SlR _ wv (.slice (some ⟨ab, 0, none⟩) r.length xc) (y0 :: r') by rw [hrr]; exact hsl).tailE
                  simp only [Nat.zero_add] at hsl2
                  obtain ⟨ad, had⟩ : ∃ ad, (if xc = 1 then some (⟨ab, 0, none⟩ : Addr) else some ⟨ab, 1, none⟩) = ad := ⟨_, rfl⟩
                  rw [had] at hsl2
                  have hcap : r.length ≤ xc ∧ xc ≤ 9223372036854775807 := by
                    obtain ⟨a', b', o', c', f', he', hl', -⟩ := hsl
                    simp only [Value.slice.injEq] at he'
                    have e1 : (y0 :: r').length = r.length := by rw [hrr]
                    omega
                  have hE0 := (hD.e22 (Nat.le_refl _) hsr).put (hsl2.weak fun b hb => ⟨by omega, hb.2.1, hb.2.2⟩)
                  have hLa : r'.length ≤ 2000 := by have : r.length = r'.length + 1 := by rw [hrr]; rfl
                                                    omega
                  have hLb : ∀ y ∈ r', y.length ≤ 2000 := fun y hy => hL2 y (by rw [hrr]; simp [hy])
                  have hm1 : (1 : Int) ≤ ((r.length : Nat) : Int) := by omega
                  clear hrr
                  clear hsl hsl2
                  as_aux_lemma =>
                    have hEt := hE0
                    obtain ⟨k0, k1, -, -⟩ := own_cell hEt.bg
                    obtain ⟨k2, k3, -, -⟩ := own_cell hEt.bx
                    skip
                    go_wp2
                    refine wp_region_held_drew (S := (fun w' => w'.cell? ⟨gb, 0, none⟩ = some (.slice (some ⟨gk, go, none⟩) g.length uc) ∧ w'.cell? ⟨xb, 0, none⟩ = some (.slice ad (r.length - 1) (xc - 1)))) (by kernel_rfl) ?_ (fun hHeld => ?_)
                    · first | exact ⟨‹_›, ‹_›⟩ | exact ⟨(World.cell?_setCell_other _ _ _ _ (fun e => hne2 (congrArg Addr.block e))).trans ((World.cell?_setCell_other _ _ _ _ (fun e => hne1 (congrArg Addr.block e))).trans hHl1), (World.cell?_setCell_other _ _ _ _ (fun e => hne4 (congrArg Addr.block e))).trans ((World.cell?_setCell_other _ _ _ _ (fun e => hne3 (congrArg Addr.block e))).trans hHl2)⟩ | (simp [*, go_sem])
                    have hEd := hEt.drawn (Drawn.refl _).drew
                    generalize World.drew _ = wd at hEd hHeld ⊢
                    have hfin := hEd.fin hgl (hLa) (hLb)
                    obtain ⟨p0, p1, -, -⟩ := own_cell hEd.r0
                    obtain ⟨q0, q1, -, -⟩ := own_cell hEd.r1
                    have hq0 : ∀ x : Value, (wd.setCell ⟨w.heap.size, 0, none⟩ x).cell? ⟨w.heap.size + 1, 0, none⟩ = some (.slice none 0 0) := fun x => (World.cell?_setCell_other _ _ _ _ (fun e => by have := congrArg Addr.block e; simp at this)).trans q0
                    have hp0 : ∀ x : Value, (wd.setCell ⟨w.heap.size + 1, 0, none⟩ x).cell? ⟨w.heap.size, 0, none⟩ = some (.slice none 0 0) := fun x => (World.cell?_setCell_other _ _ _ _ (fun e => by have := congrArg Addr.block e; simp at this)).trans p0
                    have hne1 : ¬ (w.heap.size = gb) := by have := hEd.lo; omega
                    have hne2 : ¬ (w.heap.size + 1 = gb) := by have := hEd.lo; omega
                    have hne3 : ¬ (w.heap.size = xb) := by have := hEd.lo; omega
                    have hne4 : ¬ (w.heap.size + 1 = xb) := by have := hEd.lo; omega
                    have hHl1 := hHeld.1
                    have hHl2 := hHeld.2
                    refine wpAnyH_take (i := 0) (v := ?v286) (by simp only [List.getElem?_toArray, List.getElem?_cons_zero]; exact rfl) (by kernel_rfl) (by kernel_rfl) (by kernel_rfl) (by intro _ _ _ h; exact h) (Or.inl ⟨by rfl, ?y286⟩) hHeld ?_
                    case y286 => (intro w hSw; (try dsimp only at hSw); go_simp; try (with_reducible rfl))
                    try simp only [Act.put, List.setIfInBounds_toArray, List.set_cons_zero, List.set_cons_succ]
                    refine wpAnyH_take (i := 1) (v := ?v287) (by simp only [List.getElem?_toArray, List.getElem?_cons_succ, List.getElem?_cons_zero]; exact rfl) (by kernel_rfl) (by kernel_rfl) (by kernel_rfl) (by intro _ _ _ h; exact h) (Or.inl ⟨by rfl, ?y287⟩) hHeld ?_
                    case y287 => (intro w hSw; (try dsimp only at hSw); go_simp; try (with_reducible rfl))
                    try simp only [Act.put, List.setIfInBounds_toArray, List.set_cons_zero, List.set_cons_succ]
                    refine wpAnyH_ready (rs := [2]) (by kernel_rfl) (by simp) ?_
                    refine AllReadyH.cons (by simp only [List.getElem?_toArray, List.getElem?_cons_succ, List.getElem?_cons_zero]; exact rfl) (fun K hK => ?_) AllReadyH.nil
                    go_simp
                    skip
                    try dsimp only
                    refine hK.out _ _ ?h289 (fun hHeld => ?_)
                    case h289 => first | exact ⟨‹_›, ‹_›⟩ | exact ⟨(World.cell?_setCell_other _ _ _ _ (fun e => hne2 (congrArg Addr.block e))).trans ((World.cell?_setCell_other _ _ _ _ (fun e => hne1 (congrArg Addr.block e))).trans hHl1), (World.cell?_setCell_other _ _ _ _ (fun e => hne4 (congrArg Addr.block e))).trans ((World.cell?_setCell_other _ _ _ _ (fun e => hne3 (congrArg Addr.block e))).trans hHl2)⟩ | (simp [*, go_sem])
                    clear hK K
                    try simp only [Act.put, List.setIfInBounds_toArray, List.set_cons_zero, List.set_cons_succ]
                    refine wpAnyH_ready (rs := [3]) (by kernel_rfl) (by simp) ?_
                    refine AllReadyH.cons (by simp only [List.getElem?_toArray, List.getElem?_cons_succ, List.getElem?_cons_zero]; exact rfl) (fun K hK => ?_) AllReadyH.nil
                    go_simp
                    skip
                    try dsimp only
                    refine hK.out _ _ ?h291 (fun hHeld => ?_)
                    case h291 => first | exact ⟨‹_›, ‹_›⟩ | exact ⟨(World.cell?_setCell_other _ _ _ _ (fun e => hne2 (congrArg Addr.block e))).trans ((World.cell?_setCell_other _ _ _ _ (fun e => hne1 (congrArg Addr.block e))).trans hHl1), (World.cell?_setCell_other _ _ _ _ (fun e => hne4 (congrArg Addr.block e))).trans ((World.cell?_setCell_other _ _ _ _ (fun e => hne3 (congrArg Addr.block e))).trans hHl2)⟩ | (simp [*, go_sem])
                    clear hK K
                    try simp only [Act.put, List.setIfInBounds_toArray, List.set_cons_zero, List.set_cons_succ]
                    refine wpAnyH_done (by kernel_rfl) ?_ _
                    obtain ⟨f1, f2, f3⟩ := hfin _ (by first | exact .inl rfl | exact .inr rfl)
                    go_wp2
                    exact bodyPost_ret (v := .tuple #[.agg #[.slice (some ⟨gk, go, none⟩) g.length uc], .agg #[.slice ad (r.length - 1) (xc - 1)]]) (by simp [results, Tryz.results26, go_sem, f1, f2]) rfl f3
            have hvI : (v : Int) < (g.length : Int) := by omega
            obtain ⟨fa, fc, hrg⟩ := hD.next hvg
            have hrow40 := HGR.out g[v] (List.getElem_mem hvg)
            generalize g[v] = row at *
            rw [hrl] at hD
            have HRL := Lib.hid hrl
            clear hrl
            have hDlo := hD.lo
            have hDlt := hD.lt
            have hlit : Below wi.heap.size wi (wi.alloc (.cells #[] 2)) := (Below.refl _ _).alloc (Nat.le_refl _) _
            have hown0 : Own (wi.alloc (.cells #[] 2)) wi.heap.size 2 1 (.slice (some ⟨wi.heap.size, 0, none⟩) 0 0) 0 (([] : List Int).map (.int .i64)) := World.ownsRow_lit (base := wi.heap.size) (e := 2) (size := 1) wi #[] 0 (Nat.le_refl _) (by unfold maxLen; omega) rfl
            have hD1 := hD.below hlit (Nat.le_refl _)
            have hrg1 := hrg.below hlit (Nat.le_refl _)
            have hz1 := hlit.size
            have hgbw : gb + 1 ≤ wi.heap.size := by have h1 := hD.hi; have h2 := hD.lo; omega
            clear hlit hD hrg
            go_wp2
            go_loopw [8, 9] (fun tv kv wr => ∃ (k : Nat) (xs : List Int) (tb tc : Nat), k ≤ row.length ∧ tv = .slice (some ⟨tb, 0, none⟩) k tc ∧ kv = .int .i64 (k : Int) ∧ xs.length = k ∧ Own wr wi.heap.size 2 1 (.slice (some ⟨tb, 0, none⟩) k tc) k (xs.map (.int .i64)) ∧ D22 w wr d bs gb xb wi.heap.size (.slice (some ⟨gk, go, none⟩) g.length uc) g (.slice xa v xc) r ∧ RowG w wr gb gk go v fa fc row ∧ wi.heap.size ≤ wr.heap.size) (fun _ kv _ => row.length - (RowKit.intOf kv).toNat)
            case atStart => exact ⟨0, [], wi.heap.size, 0, Nat.zero_le _, rfl, rfl, rfl, hown0, hD1, hrg1, hz1⟩
            case round =>
              clear hown0 hD1 hrg1 hz1 c0 c1
              obtain ⟨k, xs, tb, tc, hk, rfl, rfl, hxl, htv, hD, hrg, hzw⟩ := hrel
              obtain ⟨wj, rfl⟩ : ∃ x : World, x = wr := ⟨_, rfl⟩
              obtain ⟨c0, c1, -, -⟩ := own_cell hD.bg
              have ce := hrg.cell
              have hgk := hrg.lo
              by_cases hkm : k < row.length
              case neg =>
                obtain ⟨x0, x1, -, -⟩ := own_cell hD.bx
                obtain ⟨vs, hvl, hown, hbC, hap, hrows⟩ := hD.ow
                rw [HRL.out] at hvl hown
                have hDD := hD
                have hDDh := hD.hi
                clear hD
                have hkI : decide ((k : Int) < (row.length : Int)) = false := decide_eq_false (by omega)
                have hkN : decide (k < row.length) = false := decide_eq_false hkm
                have HXL := Lib.hid hxl
                have HROWS := Lib.hid hrows
                have HVL := Lib.hid hvl
                clear hxl hrows hvl
                go_wp2_with (at_builtin; refine hold_in ?_)
                unfold HoldP
                refine wpList_append1 elRows rfl _ _ rfl hown rfl rfl rfl (by omega) (by omega) ?_
                intro o5 w5 hown5 hkept hmv
                have hS5 : OwnR w5 (gb + 1) w5.heap.size 36 2 o5 (r ++ [xs]) := ownR_snoc (w := wj) (C := wi.heap.size) (u := .slice xa v xc) (v := .slice (some ⟨tb, 0, none⟩) k tc) (by rw [HVL.out, HRL.out]) hzw hap HROWS.out hbC (by rw [HRL.out]; exact hown5) (by rw [HXL.out]; exact htv.weak (by omega)) (fun b hb => htv.ge b hb) hkept (by
                  rcases hmv with h | h
                  · exact .inl h
                  · exact .inr ⟨_, h, by simp⟩)
                obtain ⟨oa5, oc5, rfl⟩ := hown5.isSlice
                obtain ⟨y1, y2, hD5⟩ := hDD.snoc hkept hS5
                have hD6 := hD5.room (C' := (w5.setCell ⟨xb, 0, none⟩ (.slice oa5 (v + 1) oc5)).heap.size) (by simp)
                have HR5 : RowKit.Hid ((r ++ [xs]).length = v + 1 ∧ ∀ y ∈ r ++ [xs], y.length ≤ 40) := Lib.hid ⟨by rw [List.length_append, HRL.out]; rfl, fun y hy => by
                  rcases List.mem_append.1 hy with hy | hy
                  · exact hr40 y hy
                  · rw [List.mem_singleton] at hy; rw [hy, HXL.out]; omega⟩
                clear hown5 hkept hmv hS5 hD5 hDD hown hap hbC htv
                go_wp2
                go_roundw
                case rel => exact ⟨v + 1, _, r ++ [xs], by omega, by go_num, hD6, HR5.out.1, HR5.out.2⟩
                case measure => (simp [RowKit.intOf] <;> omega)
              have hkI : decide ((k : Int) < (row.length : Int)) = true := decide_eq_true (by omega)
              have hkN : decide (k < row.length) = true := decide_eq_true hkm
              have hkI2 : (k : Int) < (row.length : Int) := by omega
              obtain ⟨fk, fo, x, rfl, cx⟩ := hrg.elem hkm
              have hti := Own.ints (xs := xs) htv (by omega)
              obtain ⟨-, hk2, hk3⟩ := hti.capOf
              by_cases hk0 : k = 0
              · have hj0 : decide ((0 : Int) < (k : Int)) = false := decide_eq_false (by omega)
                have hj1 : decide (0 < k) = false := decide_eq_false (by omega)
                have hpk : k ≤ k := Nat.le_refl _
                have HK0 := Lib.hid hk0
                clear hk0
                obtain ⟨wq, rfl⟩ : ∃ x : World, x = wj := ⟨_, rfl⟩
                as_aux_lemma =>
                  have hd1 := hti.take (m := k) (by omega)
                  have hd2 := hti.dropE (m := k) (by omega)
                  simp only [Nat.zero_add] at hd2
                  obtain ⟨ad, had⟩ : ∃ ad, (if tc = k then some (⟨tb, 0, none⟩ : Addr) else some ⟨tb, k, none⟩) = ad := ⟨_, rfl⟩
                  rw [had] at hd2
                  try simp only [Nat.sub_self] at hd2
                  have hA : (xs.take k).length = k := by rw [List.length_take]; omega
                  have hC : (xs.drop k).length = k - k := by rw [List.length_drop]; omega
                  generalize xs.take k = A at *
                  generalize xs.drop k = C at *
                  have hpI : ((k : Nat) : Int) ≤ ((k : Nat) : Int) := by omega
                  have hpI2 : ((k : Nat) : Int) ≤ ((tc : Nat) : Int) := by omega
                  have hpN : k ≤ tc := by omega
                  have HC := Lib.hid hC
                  have HA := Lib.hid hA
                  have HXL := Lib.hid hxl
                  clear hC hxl hti hA
                  go_wp2_with fail
                  apply meetD1 (H := fun (xcp : Value) (v3a : Option Addr) (v3c nb : Nat) (wd : World) => Below wq.heap.size wq wd ∧ Own wd wq.heap.size 2 1 (.slice v3a (k + 1) v3c) (k + 1) ((A.map (.int .i64)) ++ [.int .i64 x]))
                  case orders =>
                    intro rest
                    refine wp_region_held_drew (S := (fun w' => w'.cell? ⟨gb, 0, none⟩ = some (.slice (some ⟨gk, go, none⟩) g.length uc) ∧ w'.cell? ⟨gk, go + v, none⟩ = some (.slice (some ⟨fk, fo, none⟩) row.length fc) ∧ w'.cell? ⟨fk, fo + k, none⟩ = some (.int .i64 x))) (by kernel_rfl) ?_ (fun hHeld => ?_)
                    · first | exact ⟨‹_›, ‹_›, ‹_›⟩ | (simp [*, go_sem])
                    have hbd : Below wq.heap.size wq wq.drew := ((Drawn.refl _).drew).below _
                    generalize wq.drew = wd at hbd hHeld ⊢
                    obtain ⟨e0, e1, e2⟩ := id hHeld
                    refine wpAnyH_take (i := 0) (v := ?v292) (by simp only [List.getElem?_toArray, List.getElem?_cons_zero]; exact rfl) (by kernel_rfl) (by kernel_rfl) (by kernel_rfl) (by intro _ _ _ h; exact h) (Or.inl ⟨by rfl, ?y292⟩) hHeld ?_
                    case y292 => (intro w hSw; (try dsimp only at hSw); go_simp; try (with_reducible rfl))
                    try simp only [Act.put, List.setIfInBounds_toArray, List.set_cons_zero, List.set_cons_succ]
                    refine wpAnyH_take (i := 1) (v := ?v293) (by simp only [List.getElem?_toArray, List.getElem?_cons_succ, List.getElem?_cons_zero]; exact rfl) (by kernel_rfl) (by kernel_rfl) (by kernel_rfl) (by intro _ _ _ h; exact h) (Or.inl ⟨by rfl, ?y293⟩) hHeld ?_
                    case y293 => (intro w hSw; (try dsimp only at hSw); go_simp; try (with_reducible rfl))
                    try simp only [Act.put, List.setIfInBounds_toArray, List.set_cons_zero, List.set_cons_succ]
                    refine wpAnyH_take (i := 2) (v := ?v294) (by simp only [List.getElem?_toArray, List.getElem?_cons_succ, List.getElem?_cons_zero]; exact rfl) (by kernel_rfl) (by kernel_rfl) (by kernel_rfl) (by intro _ _ _ h; exact h) (Or.inl ⟨by rfl, ?y294⟩) hHeld ?_
                    case y294 => (intro w hSw; (try dsimp only at hSw); go_simp; try (with_reducible rfl))
                    try simp only [Act.put, List.setIfInBounds_toArray, List.set_cons_zero, List.set_cons_succ]
                    refine wpAnyH_take (i := 4) (v := ?v295) (by simp only [List.getElem?_toArray, List.getElem?_cons_succ, List.getElem?_cons_zero]; exact rfl) (by kernel_rfl) (by kernel_rfl) (by kernel_rfl) (by intro _ _ _ h; exact h) (Or.inl ⟨by rfl, ?y295⟩) hHeld ?_
                    case y295 => (intro w hSw; (try dsimp only at hSw); go_simp; try (with_reducible rfl))
                    try simp only [Act.put, List.setIfInBounds_toArray, List.set_cons_zero, List.set_cons_succ]
                    refine wpAnyH_take (i := 5) (v := ?v296) (by simp only [List.getElem?_toArray, List.getElem?_cons_succ, List.getElem?_cons_zero]; exact rfl) (by kernel_rfl) (by kernel_rfl) (by kernel_rfl) (by intro _ _ _ h; exact h) (Or.inl ⟨by rfl, ?y296⟩) hHeld ?_
                    case y296 => (intro w hSw; (try dsimp only at hSw); go_simp; try (with_reducible rfl))
                    try simp only [Act.put, List.setIfInBounds_toArray, List.set_cons_zero, List.set_cons_succ]
                    refine wpAnyH_take (i := 6) (v := ?v297) (by simp only [List.getElem?_toArray, List.getElem?_cons_succ, List.getElem?_cons_zero]; exact rfl) (by kernel_rfl) (by kernel_rfl) (by kernel_rfl) (by intro _ _ _ h; exact h) (Or.inl ⟨by rfl, ?y297⟩) hHeld ?_
                    case y297 => (intro w hSw; (try dsimp only at hSw); go_simp; try (with_reducible rfl))
                    try simp only [Act.put, List.setIfInBounds_toArray, List.set_cons_zero, List.set_cons_succ]
                    refine wpAnyH_take (i := 7) (v := ?v298) (by simp only [List.getElem?_toArray, List.getElem?_cons_succ, List.getElem?_cons_zero]; exact rfl) (by kernel_rfl) (by kernel_rfl) (by kernel_rfl) (by intro _ _ _ h; exact h) (Or.inl ⟨by rfl, ?y298⟩) hHeld ?_
                    case y298 => (intro w hSw; (try dsimp only at hSw); go_simp; try (with_reducible rfl))
                    try simp only [Act.put, List.setIfInBounds_toArray, List.set_cons_zero, List.set_cons_succ]
                    refine wpAnyH_take (i := 8) (v := ?v299) (by simp only [List.getElem?_toArray, List.getElem?_cons_succ, List.getElem?_cons_zero]; exact rfl) (by kernel_rfl) (by kernel_rfl) (by kernel_rfl) (by intro _ _ _ h; exact h) (Or.inl ⟨by rfl, ?y299⟩) hHeld ?_
                    case y299 => (intro w hSw; (try dsimp only at hSw); go_simp; try (with_reducible rfl))
                    try simp only [Act.put, List.setIfInBounds_toArray, List.set_cons_zero, List.set_cons_succ]
                    refine wpAnyH_take (i := 9) (v := ?v300) (by simp only [List.getElem?_toArray, List.getElem?_cons_succ, List.getElem?_cons_zero]; exact rfl) (by kernel_rfl) (by kernel_rfl) (by kernel_rfl) (by intro _ _ _ h; exact h) (Or.inl ⟨by rfl, ?y300⟩) hHeld ?_
                    case y300 => (intro w hSw; (try dsimp only at hSw); go_simp; try (with_reducible rfl))
                    try simp only [Act.put, List.setIfInBounds_toArray, List.set_cons_zero, List.set_cons_succ]
                    refine wpAnyH_take (i := 10) (v := ?v301) (by simp only [List.getElem?_toArray, List.getElem?_cons_succ, List.getElem?_cons_zero]; exact rfl) (by kernel_rfl) (by kernel_rfl) (by kernel_rfl) (by intro _ _ _ h; exact h) (Or.inl ⟨by rfl, ?y301⟩) hHeld ?_
                    case y301 => (intro w hSw; (try dsimp only at hSw); go_simp; try (with_reducible rfl))
                    try simp only [Act.put, List.setIfInBounds_toArray, List.set_cons_zero, List.set_cons_succ]
                    refine wpAnyH_take (i := 11) (v := ?v302) (by simp only [List.getElem?_toArray, List.getElem?_cons_succ, List.getElem?_cons_zero]; exact rfl) (by kernel_rfl) (by kernel_rfl) (by kernel_rfl) (by intro _ _ _ h; exact h) (Or.inl ⟨by rfl, ?y302⟩) hHeld ?_
                    case y302 => (intro w hSw; (try dsimp only at hSw); go_simp; try (with_reducible rfl))
                    try simp only [Act.put, List.setIfInBounds_toArray, List.set_cons_zero, List.set_cons_succ]
                    refine wpAnyH_ready (rs := [3, 12]) (by kernel_rfl) (by simp) ?_
                    refine (AllReadyH.cons (by simp only [List.getElem?_toArray, List.getElem?_cons_succ, List.getElem?_cons_zero]; exact rfl) (fun K hK => ?b303_3) (AllReadyH.cons (by simp only [List.getElem?_toArray, List.getElem?_cons_succ, List.getElem?_cons_zero]; exact rfl) (fun K hK => ?b303_12) AllReadyH.nil))
                    case b303_3 =>
                      go_simp
                      refine (l1Copy_any _ _ _ (hd1.below hbd (Nat.le_refl _)) (by have := HA.out; omega)).mono ?_
                      rintro e wy ⟨xcp, rfl, hxc0, hb5⟩
                      rw [HA.out] at hxc0
                      have hxc := hxc0.weak hbd.size
                      try (have clit := (hb5.cell (cell_lt clit)).trans clit)
                      have hbd := hbd.trans (hb5.mono hbd.size)
                      clear hb5 e0 e1 e2 hxc0
                      obtain ⟨wd, rfl⟩ : ∃ x, x = wy := ⟨_, rfl⟩
                      have e0 := (hbd.cell (cell_lt c0)).trans c0
                      have e1 := (hbd.cell (cell_lt ce)).trans ce
                      have e2 := (hbd.cell (cell_lt cx)).trans cx
                      try dsimp only
                      refine hK.out _ _ ?h304 (fun hHeld => ?_)
                      case h304 => first | exact ⟨‹_›, ‹_›, ‹_›⟩ | (simp [*, go_sem])
                      clear hK K
                      try simp only [Act.put, List.setIfInBounds_toArray, List.set_cons_zero, List.set_cons_succ]
                      refine wpAnyH_ready (rs := [12]) (by kernel_rfl) (by simp) ?_
                      refine AllReadyH.cons (by simp only [List.getElem?_toArray, List.getElem?_cons_succ, List.getElem?_cons_zero]; exact rfl) (fun K hK => ?_) AllReadyH.nil
                      go_simp
                      obtain ⟨nb, hnb⟩ : ∃ nb, nb = wd.heap.size := ⟨_, rfl⟩
                      rw [← hnb]
                      have hbn : Below wd.heap.size wd (wd.alloc (.cells #[.int .i64 x] 2)) := (Below.refl _ _).alloc (Nat.le_refl _) _
                      have clit : (wd.alloc (.cells #[.int .i64 x] 2)).cell? ⟨nb, 0, none⟩ = some (.int .i64 x) := (by rw [hnb]; simp [go_sem])
                      try (have hxc := hxc.below hbn (Nat.le_refl _))
                      have hbd := hbd.trans (hbn.mono hbd.size)
                      clear hnb hbn e0 e1 e2
                      generalize wd.alloc (.cells #[.int .i64 x] 2) = wy at *
                      obtain ⟨wd, rfl⟩ : ∃ x, x = wy := ⟨_, rfl⟩
                      have e0 := (hbd.cell (cell_lt c0)).trans c0
                      have e1 := (hbd.cell (cell_lt ce)).trans ce
                      have e2 := (hbd.cell (cell_lt cx)).trans cx
                      try dsimp only
                      refine hK.out _ _ ?h306 (fun hHeld => ?_)
                      case h306 => first | exact ⟨‹_›, ‹_›, ‹_›⟩ | (simp [*, go_sem])
                      clear hK K
                      try simp only [Act.put, List.setIfInBounds_toArray, List.set_cons_zero, List.set_cons_succ]
                      refine wpAnyH_ready (rs := [13]) (by kernel_rfl) (by simp) ?_
                      refine AllReadyH.cons (by simp only [List.getElem?_toArray, List.getElem?_cons_succ, List.getElem?_cons_zero]; exact rfl) (fun K hK => ?_) AllReadyH.nil
                      rw [if_pos (by rfl)]
                      refine opWp_append1E elI64 _ _ rfl hxc rfl rfl clit rfl (by omega) hbd.size ?_
                      intro v3 wy ho3 hk3 hm3
                      have hbd := hk3.below hbd hbd.size (fun b hb => hxc.ge b hb)
                      clear clit hk3 hm3 e0 e1 e2 hxc
                      obtain ⟨wd, rfl⟩ : ∃ x, x = wy := ⟨_, rfl⟩
                      have e0 := (hbd.cell (cell_lt c0)).trans c0
                      have e1 := (hbd.cell (cell_lt ce)).trans ce
                      have e2 := (hbd.cell (cell_lt cx)).trans cx
                      obtain ⟨v3a, v3c, rfl⟩ := ho3.isSlice
                      try dsimp only
                      refine hK.out _ _ ?h308 (fun hHeld => ?_)
                      case h308 => first | exact ⟨‹_›, ‹_›, ‹_›⟩ | (simp [*, go_sem])
                      clear hK K
                      try simp only [Act.put, List.setIfInBounds_toArray, List.set_cons_zero, List.set_cons_succ]
                      refine wpAnyH_take (i := 14) (v := ?v309) (by simp only [List.getElem?_toArray, List.getElem?_cons_succ, List.getElem?_cons_zero]; exact rfl) (by kernel_rfl) (by kernel_rfl) (by kernel_rfl) (by intro _ _ _ h; exact h) (Or.inl ⟨by rfl, ?y309⟩) hHeld ?_
                      case y309 => (intro w hSw; (try dsimp only at hSw); go_simp; try (with_reducible rfl))
                      try simp only [Act.put, List.setIfInBounds_toArray, List.set_cons_zero, List.set_cons_succ]
                      refine wpAnyH_done (by kernel_rfl) ?_ _
                      exact rest xcp v3a v3c nb wd ⟨hbd, ho3⟩
                    case b303_12 =>
                      go_simp
                      obtain ⟨nb, hnb⟩ : ∃ nb, nb = wd.heap.size := ⟨_, rfl⟩
                      rw [← hnb]
                      have hbn : Below wd.heap.size wd (wd.alloc (.cells #[.int .i64 x] 2)) := (Below.refl _ _).alloc (Nat.le_refl _) _
                      have clit : (wd.alloc (.cells #[.int .i64 x] 2)).cell? ⟨nb, 0, none⟩ = some (.int .i64 x) := (by rw [hnb]; simp [go_sem])
                      try (have hxc := hxc.below hbn (Nat.le_refl _))
                      have hbd := hbd.trans (hbn.mono hbd.size)
                      clear hnb hbn e0 e1 e2
                      generalize wd.alloc (.cells #[.int .i64 x] 2) = wy at *
                      obtain ⟨wd, rfl⟩ : ∃ x, x = wy := ⟨_, rfl⟩
                      have e0 := (hbd.cell (cell_lt c0)).trans c0
                      have e1 := (hbd.cell (cell_lt ce)).trans ce
                      have e2 := (hbd.cell (cell_lt cx)).trans cx
                      try dsimp only
                      refine hK.out _ _ ?h310 (fun hHeld => ?_)
                      case h310 => first | exact ⟨‹_›, ‹_›, ‹_›⟩ | (simp [*, go_sem])
                      clear hK K
                      try simp only [Act.put, List.setIfInBounds_toArray, List.set_cons_zero, List.set_cons_succ]
                      refine wpAnyH_ready (rs := [3]) (by kernel_rfl) (by simp) ?_
                      refine AllReadyH.cons (by simp only [List.getElem?_toArray, List.getElem?_cons_succ, List.getElem?_cons_zero]; exact rfl) (fun K hK => ?_) AllReadyH.nil
                      go_simp
                      refine (l1Copy_any _ _ _ (hd1.below hbd (Nat.le_refl _)) (by have := HA.out; omega)).mono ?_
                      rintro e wy ⟨xcp, rfl, hxc0, hb5⟩
                      rw [HA.out] at hxc0
                      have hxc := hxc0.weak hbd.size
                      try (have clit := (hb5.cell (cell_lt clit)).trans clit)
                      have hbd := hbd.trans (hb5.mono hbd.size)
                      clear hb5 e0 e1 e2 hxc0
                      obtain ⟨wd, rfl⟩ : ∃ x, x = wy := ⟨_, rfl⟩
                      have e0 := (hbd.cell (cell_lt c0)).trans c0
                      have e1 := (hbd.cell (cell_lt ce)).trans ce
                      have e2 := (hbd.cell (cell_lt cx)).trans cx
                      try dsimp only
                      refine hK.out _ _ ?h312 (fun hHeld => ?_)
                      case h312 => first | exact ⟨‹_›, ‹_›, ‹_›⟩ | (simp [*, go_sem])
                      clear hK K
                      try simp only [Act.put, List.setIfInBounds_toArray, List.set_cons_zero, List.set_cons_succ]
                      refine wpAnyH_ready (rs := [13]) (by kernel_rfl) (by simp) ?_
                      refine AllReadyH.cons (by simp only [List.getElem?_toArray, List.getElem?_cons_succ, List.getElem?_cons_zero]; exact rfl) (fun K hK => ?_) AllReadyH.nil
                      rw [if_pos (by rfl)]
                      refine opWp_append1E elI64 _ _ rfl hxc rfl rfl clit rfl (by omega) hbd.size ?_
                      intro v3 wy ho3 hk3 hm3
                      have hbd := hk3.below hbd hbd.size (fun b hb => hxc.ge b hb)
                      clear clit hk3 hm3 e0 e1 e2 hxc
                      obtain ⟨wd, rfl⟩ : ∃ x, x = wy := ⟨_, rfl⟩
                      have e0 := (hbd.cell (cell_lt c0)).trans c0
                      have e1 := (hbd.cell (cell_lt ce)).trans ce
                      have e2 := (hbd.cell (cell_lt cx)).trans cx
                      obtain ⟨v3a, v3c, rfl⟩ := ho3.isSlice
                      try dsimp only
                      refine hK.out _ _ ?h314 (fun hHeld => ?_)
                      case h314 => first | exact ⟨‹_›, ‹_›, ‹_›⟩ | (simp [*, go_sem])
                      clear hK K
                      try simp only [Act.put, List.setIfInBounds_toArray, List.set_cons_zero, List.set_cons_succ]
                      refine wpAnyH_take (i := 14) (v := ?v315) (by simp only [List.getElem?_toArray, List.getElem?_cons_succ, List.getElem?_cons_zero]; exact rfl) (by kernel_rfl) (by kernel_rfl) (by kernel_rfl) (by intro _ _ _ h; exact h) (Or.inl ⟨by rfl, ?y315⟩) hHeld ?_
                      case y315 => (intro w hSw; (try dsimp only at hSw); go_simp; try (with_reducible rfl))
                      try simp only [Act.put, List.setIfInBounds_toArray, List.set_cons_zero, List.set_cons_succ]
                      refine wpAnyH_done (by kernel_rfl) ?_ _
                      exact rest xcp v3a v3c nb wd ⟨hbd, ho3⟩
                  case rest =>
                    intro xcp v3a v3c nb wd ⟨hbd, ho3⟩
                    have hd3 := hd2.below hbd (Nat.le_refl _)
                    have hsum : k + 1 + C.length = k + 1 := by rw [HC.out]; omega
                    have HSUM := Lib.hid hsum
                    have hCl := HC.out
                    clear hd2 hd1 hsum htv
                    go_wp2_with (at_builtin; refine hold_in ?_)
                    unfold HoldP
                    refine wpList_appendI (ys := C) elI64 rfl _ _ rfl ho3 rfl rfl hd3 (by omega) hbd.size ?_
                    intro v4 wy ho4 hk4
                    rw [HSUM.out] at ho4
                    have hb4 : Below wq.heap.size wq wy := hk4.below hbd hbd.size (fun b hb => ho3.ge b hb)
                    obtain ⟨tb2, tc2, rfl⟩ := own_some ho4 (by omega)
                    have hXL : RowKit.Hid ((A ++ [x] ++ C).length = k + 1) := Lib.hid (by rw [List.length_append, List.length_append, HA.out]; exact HSUM.out)
                    have hT : Own wy wi.heap.size 2 1 (.slice (some ⟨tb2, 0, none⟩) (k + 1) tc2) (k + 1) ((A ++ [x] ++ C).map (.int .i64)) := by
                      rw [List.map_append, List.map_append]
                      exact ho4.weak hzw
                    have hDy := hD.below hb4 (Nat.le_refl _)
                    have hry := hrg.below hb4 (Nat.le_refl _)
                    have hzy := Nat.le_trans hzw hb4.size
                    clear hD hrg hzw hb4 ho4 hk4 ho3 hbd hd3 hCl
                    go_wp2
                    go_roundw
                    case rel => exact ⟨k + 1, A ++ [x] ++ C, tb2, tc2, by omega, rfl, by go_num, hXL.out, hT, hDy, hry, hzy⟩
                    case measure => (simp [RowKit.intOf] <;> omega)
              · have hj0 : decide ((0 : Int) < (k : Int)) = true := decide_eq_true (by omega)
                have hj1 : decide (0 < k) = true := decide_eq_true (by omega)
                have hbl := l1Below_any (n := (k : Int)) hD.mv.1 hl (by omega)
                go_wp2_with fail
                refine hbl.mono ?_
                rintro e wq ⟨j, rfl, hj, -, hmj⟩
                have hjk : j < k := by have := hj (by omega); omega
                have hD := hD.kept hmj
                have hrg := hrg.kept hmj hDlt (by omega)
                have hzw : wi.heap.size ≤ wq.heap.size := Nat.le_trans hzw hmj.size
                have htv := htv.keep (w' := wq) fun b hb => hmj.2.2.2.2.2 b (htv.lt b hb).2 (by have := (htv.lt b hb).1; simp; omega)
                obtain ⟨c0, c1, -, -⟩ := own_cell hD.bg
                have ce := hrg.cell
                obtain ⟨fk', fo', x', he', cx⟩ := hrg.elem hkm
                simp only [Option.some.injEq, Addr.mk.injEq, and_true] at he'
                obtain ⟨rfl, rfl⟩ := he'
                have hti := Own.ints (xs := xs) htv (by omega)
                obtain ⟨p, hp⟩ : ∃ p : Nat, (1 + (j : Int)) = (p : Int) := ⟨1 + j, by omega⟩
                have hpw : IntKind.i64.wrap (1 + (j : Int)) = (p : Int) := by rw [IntWalk.i64_in _ (by omega), hp]
                have hpk : p ≤ k := by omega
                clear hmj hj hjk hbl hp
                obtain ⟨x, rfl⟩ : ∃ y, y = x' := ⟨_, rfl⟩
                as_aux_lemma =>
                  have hd1 := hti.take (m := p) (by omega)
                  have hd2 := hti.dropE (m := p) (by omega)
                  simp only [Nat.zero_add] at hd2
                  obtain ⟨ad, had⟩ : ∃ ad, (if tc = p then some (⟨tb, 0, none⟩ : Addr) else some ⟨tb, p, none⟩) = ad := ⟨_, rfl⟩
                  rw [had] at hd2
                  try simp only [Nat.sub_self] at hd2
                  have hA : (xs.take p).length = p := by rw [List.length_take]; omega
                  have hC : (xs.drop p).length = k - p := by rw [List.length_drop]; omega
                  generalize xs.take p = A at *
                  generalize xs.drop p = C at *
                  have hpI : ((p : Nat) : Int) ≤ ((k : Nat) : Int) := by omega
                  have hpI2 : ((p : Nat) : Int) ≤ ((tc : Nat) : Int) := by omega
                  have hpN : p ≤ tc := by omega
                  have HC := Lib.hid hC
                  have HA := Lib.hid hA
                  have HXL := Lib.hid hxl
                  clear hC hxl hti hA
                  go_wp2_with fail
                  apply meetD1 (H := fun (xcp : Value) (v3a : Option Addr) (v3c nb : Nat) (wd : World) => Below wq.heap.size wq wd ∧ Own wd wq.heap.size 2 1 (.slice v3a (p + 1) v3c) (p + 1) ((A.map (.int .i64)) ++ [.int .i64 x]))
                  case orders =>
                    intro rest
                    refine wp_region_held_drew (S := (fun w' => w'.cell? ⟨gb, 0, none⟩ = some (.slice (some ⟨gk, go, none⟩) g.length uc) ∧ w'.cell? ⟨gk, go + v, none⟩ = some (.slice (some ⟨fk, fo, none⟩) row.length fc) ∧ w'.cell? ⟨fk, fo + k, none⟩ = some (.int .i64 x))) (by kernel_rfl) ?_ (fun hHeld => ?_)
                    · first | exact ⟨‹_›, ‹_›, ‹_›⟩ | (simp [*, go_sem])
                    have hbd : Below wq.heap.size wq wq.drew := ((Drawn.refl _).drew).below _
                    generalize wq.drew = wd at hbd hHeld ⊢
                    obtain ⟨e0, e1, e2⟩ := id hHeld
                    refine wpAnyH_take (i := 0) (v := ?v316) (by simp only [List.getElem?_toArray, List.getElem?_cons_zero]; exact rfl) (by kernel_rfl) (by kernel_rfl) (by kernel_rfl) (by intro _ _ _ h; exact h) (Or.inl ⟨by rfl, ?y316⟩) hHeld ?_
                    case y316 => (intro w hSw; (try dsimp only at hSw); go_simp; try (with_reducible rfl))
                    try simp only [Act.put, List.setIfInBounds_toArray, List.set_cons_zero, List.set_cons_succ]
                    refine wpAnyH_take (i := 1) (v := ?v317) (by simp only [List.getElem?_toArray, List.getElem?_cons_succ, List.getElem?_cons_zero]; exact rfl) (by kernel_rfl) (by kernel_rfl) (by kernel_rfl) (by intro _ _ _ h; exact h) (Or.inl ⟨by rfl, ?y317⟩) hHeld ?_
                    case y317 => (intro w hSw; (try dsimp only at hSw); go_simp; try (with_reducible rfl))
                    try simp only [Act.put, List.setIfInBounds_toArray, List.set_cons_zero, List.set_cons_succ]
                    refine wpAnyH_take (i := 2) (v := ?v318) (by simp only [List.getElem?_toArray, List.getElem?_cons_succ, List.getElem?_cons_zero]; exact rfl) (by kernel_rfl) (by kernel_rfl) (by kernel_rfl) (by intro _ _ _ h; exact h) (Or.inl ⟨by rfl, ?y318⟩) hHeld ?_
                    case y318 => (intro w hSw; (try dsimp only at hSw); go_simp; try (with_reducible rfl))
                    try simp only [Act.put, List.setIfInBounds_toArray, List.set_cons_zero, List.set_cons_succ]
                    refine wpAnyH_take (i := 4) (v := ?v319) (by simp only [List.getElem?_toArray, List.getElem?_cons_succ, List.getElem?_cons_zero]; exact rfl) (by kernel_rfl) (by kernel_rfl) (by kernel_rfl) (by intro _ _ _ h; exact h) (Or.inl ⟨by rfl, ?y319⟩) hHeld ?_
                    case y319 => (intro w hSw; (try dsimp only at hSw); go_simp; try (with_reducible rfl))
                    try simp only [Act.put, List.setIfInBounds_toArray, List.set_cons_zero, List.set_cons_succ]
                    refine wpAnyH_take (i := 5) (v := ?v320) (by simp only [List.getElem?_toArray, List.getElem?_cons_succ, List.getElem?_cons_zero]; exact rfl) (by kernel_rfl) (by kernel_rfl) (by kernel_rfl) (by intro _ _ _ h; exact h) (Or.inl ⟨by rfl, ?y320⟩) hHeld ?_
                    case y320 => (intro w hSw; (try dsimp only at hSw); go_simp; try (with_reducible rfl))
                    try simp only [Act.put, List.setIfInBounds_toArray, List.set_cons_zero, List.set_cons_succ]
                    refine wpAnyH_take (i := 6) (v := ?v321) (by simp only [List.getElem?_toArray, List.getElem?_cons_succ, List.getElem?_cons_zero]; exact rfl) (by kernel_rfl) (by kernel_rfl) (by kernel_rfl) (by intro _ _ _ h; exact h) (Or.inl ⟨by rfl, ?y321⟩) hHeld ?_
                    case y321 => (intro w hSw; (try dsimp only at hSw); go_simp; try (with_reducible rfl))
                    try simp only [Act.put, List.setIfInBounds_toArray, List.set_cons_zero, List.set_cons_succ]
                    refine wpAnyH_take (i := 7) (v := ?v322) (by simp only [List.getElem?_toArray, List.getElem?_cons_succ, List.getElem?_cons_zero]; exact rfl) (by kernel_rfl) (by kernel_rfl) (by kernel_rfl) (by intro _ _ _ h; exact h) (Or.inl ⟨by rfl, ?y322⟩) hHeld ?_
                    case y322 => (intro w hSw; (try dsimp only at hSw); go_simp; try (with_reducible rfl))
                    try simp only [Act.put, List.setIfInBounds_toArray, List.set_cons_zero, List.set_cons_succ]
                    refine wpAnyH_take (i := 8) (v := ?v323) (by simp only [List.getElem?_toArray, List.getElem?_cons_succ, List.getElem?_cons_zero]; exact rfl) (by kernel_rfl) (by kernel_rfl) (by kernel_rfl) (by intro _ _ _ h; exact h) (Or.inl ⟨by rfl, ?y323⟩) hHeld ?_
                    case y323 => (intro w hSw; (try dsimp only at hSw); go_simp; try (with_reducible rfl))
                    try simp only [Act.put, List.setIfInBounds_toArray, List.set_cons_zero, List.set_cons_succ]
                    refine wpAnyH_take (i := 9) (v := ?v324) (by simp only [List.getElem?_toArray, List.getElem?_cons_succ, List.getElem?_cons_zero]; exact rfl) (by kernel_rfl) (by kernel_rfl) (by kernel_rfl) (by intro _ _ _ h; exact h) (Or.inl ⟨by rfl, ?y324⟩) hHeld ?_
                    case y324 => (intro w hSw; (try dsimp only at hSw); go_simp; try (with_reducible rfl))
                    try simp only [Act.put, List.setIfInBounds_toArray, List.set_cons_zero, List.set_cons_succ]
                    refine wpAnyH_take (i := 10) (v := ?v325) (by simp only [List.getElem?_toArray, List.getElem?_cons_succ, List.getElem?_cons_zero]; exact rfl) (by kernel_rfl) (by kernel_rfl) (by kernel_rfl) (by intro _ _ _ h; exact h) (Or.inl ⟨by rfl, ?y325⟩) hHeld ?_
                    case y325 => (intro w hSw; (try dsimp only at hSw); go_simp; try (with_reducible rfl))
                    try simp only [Act.put, List.setIfInBounds_toArray, List.set_cons_zero, List.set_cons_succ]
                    refine wpAnyH_take (i := 11) (v := ?v326) (by simp only [List.getElem?_toArray, List.getElem?_cons_succ, List.getElem?_cons_zero]; exact rfl) (by kernel_rfl) (by kernel_rfl) (by kernel_rfl) (by intro _ _ _ h; exact h) (Or.inl ⟨by rfl, ?y326⟩) hHeld ?_
                    case y326 => (intro w hSw; (try dsimp only at hSw); go_simp; try (with_reducible rfl))
                    try simp only [Act.put, List.setIfInBounds_toArray, List.set_cons_zero, List.set_cons_succ]
                    refine wpAnyH_ready (rs := [3, 12]) (by kernel_rfl) (by simp) ?_
                    refine (AllReadyH.cons (by simp only [List.getElem?_toArray, List.getElem?_cons_succ, List.getElem?_cons_zero]; exact rfl) (fun K hK => ?b327_3) (AllReadyH.cons (by simp only [List.getElem?_toArray, List.getElem?_cons_succ, List.getElem?_cons_zero]; exact rfl) (fun K hK => ?b327_12) AllReadyH.nil))
                    case b327_3 =>
                      go_simp
                      refine (l1Copy_any _ _ _ (hd1.below hbd (Nat.le_refl _)) (by have := HA.out; omega)).mono ?_
                      rintro e wy ⟨xcp, rfl, hxc0, hb5⟩
                      rw [HA.out] at hxc0
                      have hxc := hxc0.weak hbd.size
                      try (have clit := (hb5.cell (cell_lt clit)).trans clit)
                      have hbd := hbd.trans (hb5.mono hbd.size)
                      clear hb5 e0 e1 e2 hxc0
                      obtain ⟨wd, rfl⟩ : ∃ x, x = wy := ⟨_, rfl⟩
                      have e0 := (hbd.cell (cell_lt c0)).trans c0
                      have e1 := (hbd.cell (cell_lt ce)).trans ce
                      have e2 := (hbd.cell (cell_lt cx)).trans cx
                      try dsimp only
                      refine hK.out _ _ ?h328 (fun hHeld => ?_)
                      case h328 => first | exact ⟨‹_›, ‹_›, ‹_›⟩ | (simp [*, go_sem])
                      clear hK K
                      try simp only [Act.put, List.setIfInBounds_toArray, List.set_cons_zero, List.set_cons_succ]
                      refine wpAnyH_ready (rs := [12]) (by kernel_rfl) (by simp) ?_
                      refine AllReadyH.cons (by simp only [List.getElem?_toArray, List.getElem?_cons_succ, List.getElem?_cons_zero]; exact rfl) (fun K hK => ?_) AllReadyH.nil
                      go_simp
                      obtain ⟨nb, hnb⟩ : ∃ nb, nb = wd.heap.size := ⟨_, rfl⟩
                      rw [← hnb]
                      have hbn : Below wd.heap.size wd (wd.alloc (.cells #[.int .i64 x] 2)) := (Below.refl _ _).alloc (Nat.le_refl _) _
                      have clit : (wd.alloc (.cells #[.int .i64 x] 2)).cell? ⟨nb, 0, none⟩ = some (.int .i64 x) := (by rw [hnb]; simp [go_sem])
                      try (have hxc := hxc.below hbn (Nat.le_refl _))
                      have hbd := hbd.trans (hbn.mono hbd.size)
                      clear hnb hbn e0 e1 e2
                      generalize wd.alloc (.cells #[.int .i64 x] 2) = wy at *
                      obtain ⟨wd, rfl⟩ : ∃ x, x = wy := ⟨_, rfl⟩
                      have e0 := (hbd.cell (cell_lt c0)).trans c0
                      have e1 := (hbd.cell (cell_lt ce)).trans ce
                      have e2 := (hbd.cell (cell_lt cx)).trans cx
                      try dsimp only
                      refine hK.out _ _ ?h330 (fun hHeld => ?_)
                      case h330 => first | exact ⟨‹_›, ‹_›, ‹_›⟩ | (simp [*, go_sem])
                      clear hK K
                      try simp only [Act.put, List.setIfInBounds_toArray, List.set_cons_zero, List.set_cons_succ]
                      refine wpAnyH_ready (rs := [13]) (by kernel_rfl) (by simp) ?_
                      refine AllReadyH.cons (by simp only [List.getElem?_toArray, List.getElem?_cons_succ, List.getElem?_cons_zero]; exact rfl) (fun K hK => ?_) AllReadyH.nil
                      rw [if_pos (by rfl)]
                      refine opWp_append1E elI64 _ _ rfl hxc rfl rfl clit rfl (by omega) hbd.size ?_
                      intro v3 wy ho3 hk3 hm3
                      have hbd := hk3.below hbd hbd.size (fun b hb => hxc.ge b hb)
                      clear clit hk3 hm3 e0 e1 e2 hxc
                      obtain ⟨wd, rfl⟩ : ∃ x, x = wy := ⟨_, rfl⟩
                      have e0 := (hbd.cell (cell_lt c0)).trans c0
                      have e1 := (hbd.cell (cell_lt ce)).trans ce
                      have e2 := (hbd.cell (cell_lt cx)).trans cx
                      obtain ⟨v3a, v3c, rfl⟩ := ho3.isSlice
                      try dsimp only
                      refine hK.out _ _ ?h332 (fun hHeld => ?_)
                      case h332 => first | exact ⟨‹_›, ‹_›, ‹_›⟩ | (simp [*, go_sem])
                      clear hK K
                      try simp only [Act.put, List.setIfInBounds_toArray, List.set_cons_zero, List.set_cons_succ]
                      refine wpAnyH_take (i := 14) (v := ?v333) (by simp only [List.getElem?_toArray, List.getElem?_cons_succ, List.getElem?_cons_zero]; exact rfl) (by kernel_rfl) (by kernel_rfl) (by kernel_rfl) (by intro _ _ _ h; exact h) (Or.inl ⟨by rfl, ?y333⟩) hHeld ?_
                      case y333 => (intro w hSw; (try dsimp only at hSw); go_simp; try (with_reducible rfl))
                      try simp only [Act.put, List.setIfInBounds_toArray, List.set_cons_zero, List.set_cons_succ]
                      refine wpAnyH_done (by kernel_rfl) ?_ _
                      exact rest xcp v3a v3c nb wd ⟨hbd, ho3⟩
                    case b327_12 =>
                      go_simp
                      obtain ⟨nb, hnb⟩ : ∃ nb, nb = wd.heap.size := ⟨_, rfl⟩
                      rw [← hnb]
                      have hbn : Below wd.heap.size wd (wd.alloc (.cells #[.int .i64 x] 2)) := (Below.refl _ _).alloc (Nat.le_refl _) _
                      have clit : (wd.alloc (.cells #[.int .i64 x] 2)).cell? ⟨nb, 0, none⟩ = some (.int .i64 x) := (by rw [hnb]; simp [go_sem])
                      try (have hxc := hxc.below hbn (Nat.le_refl _))
                      have hbd := hbd.trans (hbn.mono hbd.size)
                      clear hnb hbn e0 e1 e2
                      generalize wd.alloc (.cells #[.int .i64 x] 2) = wy at *
                      obtain ⟨wd, rfl⟩ : ∃ x, x = wy := ⟨_, rfl⟩
                      have e0 := (hbd.cell (cell_lt c0)).trans c0
                      have e1 := (hbd.cell (cell_lt ce)).trans ce
                      have e2 := (hbd.cell (cell_lt cx)).trans cx
                      try dsimp only
                      refine hK.out _ _ ?h334 (fun hHeld => ?_)
                      case h334 => first | exact ⟨‹_›, ‹_›, ‹_›⟩ | (simp [*, go_sem])
                      clear hK K
                      try simp only [Act.put, List.setIfInBounds_toArray, List.set_cons_zero, List.set_cons_succ]
                      refine wpAnyH_ready (rs := [3]) (by kernel_rfl) (by simp) ?_
                      refine AllReadyH.cons (by simp only [List.getElem?_toArray, List.getElem?_cons_succ, List.getElem?_cons_zero]; exact rfl) (fun K hK => ?_) AllReadyH.nil
                      go_simp
                      refine (l1Copy_any _ _ _ (hd1.below hbd (Nat.le_refl _)) (by have := HA.out; omega)).mono ?_
                      rintro e wy ⟨xcp, rfl, hxc0, hb5⟩
                      rw [HA.out] at hxc0
                      have hxc := hxc0.weak hbd.size
                      try (have clit := (hb5.cell (cell_lt clit)).trans clit)
                      have hbd := hbd.trans (hb5.mono hbd.size)
                      clear hb5 e0 e1 e2 hxc0
                      obtain ⟨wd, rfl⟩ : ∃ x, x = wy := ⟨_, rfl⟩
                      have e0 := (hbd.cell (cell_lt c0)).trans c0
                      have e1 := (hbd.cell (cell_lt ce)).trans ce
                      have e2 := (hbd.cell (cell_lt cx)).trans cx
                      try dsimp only
                      refine hK.out _ _ ?h336 (fun hHeld => ?_)
                      case h336 => first | exact ⟨‹_›, ‹_›, ‹_›⟩ | (simp [*, go_sem])
                      clear hK K
                      try simp only [Act.put, List.setIfInBounds_toArray, List.set_cons_zero, List.set_cons_succ]
                      refine wpAnyH_ready (rs := [13]) (by kernel_rfl) (by simp) ?_
                      refine AllReadyH.cons (by simp only [List.getElem?_toArray, List.getElem?_cons_succ, List.getElem?_cons_zero]; exact rfl) (fun K hK => ?_) AllReadyH.nil
                      rw [if_pos (by rfl)]
                      refine opWp_append1E elI64 _ _ rfl hxc rfl rfl clit rfl (by omega) hbd.size ?_
                      intro v3 wy ho3 hk3 hm3
                      have hbd := hk3.below hbd hbd.size (fun b hb => hxc.ge b hb)
                      clear clit hk3 hm3 e0 e1 e2 hxc
                      obtain ⟨wd, rfl⟩ : ∃ x, x = wy := ⟨_, rfl⟩
                      have e0 := (hbd.cell (cell_lt c0)).trans c0
                      have e1 := (hbd.cell (cell_lt ce)).trans ce
                      have e2 := (hbd.cell (cell_lt cx)).trans cx
                      obtain ⟨v3a, v3c, rfl⟩ := ho3.isSlice
                      try dsimp only
                      refine hK.out _ _ ?h338 (fun hHeld => ?_)
                      case h338 => first | exact ⟨‹_›, ‹_›, ‹_›⟩ | (simp [*, go_sem])
                      clear hK K
                      try simp only [Act.put, List.setIfInBounds_toArray, List.set_cons_zero, List.set_cons_succ]
                      refine wpAnyH_take (i := 14) (v := ?v339) (by simp only [List.getElem?_toArray, List.getElem?_cons_succ, List.getElem?_cons_zero]; exact rfl) (by kernel_rfl) (by kernel_rfl) (by kernel_rfl) (by intro _ _ _ h; exact h) (Or.inl ⟨by rfl, ?y339⟩) hHeld ?_
                      case y339 => (intro w hSw; (try dsimp only at hSw); go_simp; try (with_reducible rfl))
                      try simp only [Act.put, List.setIfInBounds_toArray, List.set_cons_zero, List.set_cons_succ]
                      refine wpAnyH_done (by kernel_rfl) ?_ _
                      exact rest xcp v3a v3c nb wd ⟨hbd, ho3⟩
                  case rest =>
                    intro xcp v3a v3c nb wd ⟨hbd, ho3⟩
                    have hd3 := hd2.below hbd (Nat.le_refl _)
                    have hsum : p + 1 + C.length = k + 1 := by rw [HC.out]; omega
                    have HSUM := Lib.hid hsum
                    have hCl := HC.out
                    clear hd2 hd1 hsum htv
                    go_wp2_with (at_builtin; refine hold_in ?_)
                    unfold HoldP
                    refine wpList_appendI (ys := C) elI64 rfl _ _ rfl ho3 rfl rfl hd3 (by omega) hbd.size ?_
                    intro v4 wy ho4 hk4
                    rw [HSUM.out] at ho4
                    have hb4 : Below wq.heap.size wq wy := hk4.below hbd hbd.size (fun b hb => ho3.ge b hb)
                    obtain ⟨tb2, tc2, rfl⟩ := own_some ho4 (by omega)
                    have hXL : RowKit.Hid ((A ++ [x] ++ C).length = k + 1) := Lib.hid (by rw [List.length_append, List.length_append, HA.out]; exact HSUM.out)
                    have hT : Own wy wi.heap.size 2 1 (.slice (some ⟨tb2, 0, none⟩) (k + 1) tc2) (k + 1) ((A ++ [x] ++ C).map (.int .i64)) := by
                      rw [List.map_append, List.map_append]
                      exact ho4.weak hzw
                    have hDy := hD.below hb4 (Nat.le_refl _)
                    have hry := hrg.below hb4 (Nat.le_refl _)
                    have hzy := Nat.le_trans hzw hb4.size
                    clear hD hrg hzw hb4 ho4 hk4 ho3 hbd hd3 hCl
                    go_wp2
                    go_roundw
                    case rel => exact ⟨k + 1, A ++ [x] ++ C, tb2, tc2, by omega, rfl, by go_num, hXL.out, hT, hDy, hry, hzy⟩
                    case measure => (simp [RowKit.intOf] <;> omega)
end Go.Proofs.YtdbanndcdbikmaaGreatDoor
