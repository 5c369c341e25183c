/- The law of faces: the draw and the law's walk. -/
import Derived.Test.YtdbanndcdbikmaaGreatDoorFacL
import Derived.Test.YtdbanndcdbikmaaGreatDoorDrw
import Derived.Test.YtdbanndcdbikmaaGreatDoorLike
import Derived.Test.YtdbanndcdbikmaaGreatDoorBig
namespace Go.Proofs.YtdbanndcdbikmaaGreatDoor
open Go.RowKit
theorem SlR.cellsL {S : Nat → Prop} {w : World} {a : Option Addr} {c : Nat} {G : List (List Int)} (h : SlR S w (.slice a G.length c) G) (h0 : 0 < G.length) :
    ∃ b o, a = some ⟨b, o, none⟩ ∧ ∀ k (hk : k < G.length) (W : World), Below w.heap.size w W → ∃ ra rc, W.cell? ⟨b, o + k, none⟩ = some (.slice ra G[k].length rc) ∧ SlI S W .i64 (.slice ra G[k].length rc) G[k] := by
  obtain ⟨a', b, o, cap, f, he, hl, ha, hc⟩ := h
  simp only [Value.slice.injEq] at he
  refine ⟨b, o, by rw [he.1]; exact (ha h0).1, fun k hk W hb => ?_⟩
  obtain ⟨h1, h2⟩ := hc k hk
  obtain ⟨ra, rc, e⟩ := h2.slice
  rw [e] at h1 h2
  exact ⟨ra, rc, (hb.cell (p := ⟨b, o + k, none⟩) (cell_lt h1)).trans h1, h2.below hb (Nat.le_refl _)⟩
theorem sum_take_succ (G : List (List Int)) (i : Nat) (hi : i < G.length) : ((G.take (i + 1)).map List.length).sum = ((G.take i).map List.length).sum + G[i].length := by
  rw [List.take_succ_eq_append_getElem hi, List.map_append, List.sum_append]; simp
theorem sum_take_le (G : List (List Int)) : ∀ i, ((G.take i).map List.length).sum ≤ (G.map List.length).sum := fun i => by
  conv => rhs; rw [← List.take_append_drop i G]
  rw [List.map_append, List.sum_append]; omega
set_option maxHeartbeats 4000000 in
theorem manyS_any {S : Nat → Prop} {v : Value} {g : List (List Int)} {w : World} (hg : GOk g) (hv : SlR S w v g) :
    Calls Tryz.prog 14 #[.agg #[v]] w fun e w' => e = .returned (.int .i64 ((edgesL g).length : Int)) ∧ Below w.heap.size w w' := by
  have hq0 : Below w.heap.size w (w.alloc (.cells #[v] 26)) := (Below.refl _ _).alloc (Nat.le_refl _) _
  have hgo := specGraphOk_any _ _ _ (hv.below hq0 (Nat.le_refl _))
  have HED := Lib.hid (fun (W : World) (hb : Below w.heap.size w W) => l1Edges_any hg (hv.below hb (Nat.le_refl _)))
  rw [gokB_true hg] at hgo
  obtain ⟨va, vc, rfl⟩ := hv.slice
  have c0 : (w.alloc (.cells #[.slice va g.length vc] 26)).cell? ⟨w.heap.size, 0, none⟩ = some (.slice va g.length vc) := by simp [go_sem]
  go_enter Tryz.func14, Tryz.ntmps14
  go_wp2_with fail
  refine hgo.mono ?_
  rintro e w1 ⟨rfl, hb1⟩
  have hq1 := hq0.trans (hb1.mono hq0.size)
  have c1 := (hb1.cell (cell_lt c0)).trans c0
  have hed := HED.out w1 hq1
  clear hgo hb1 c0
  go_wp2_with fail
  refine hed.mono ?_
  rintro e w2 ⟨u, rfl, hu, hb2⟩
  obtain ⟨ua, uc, rfl⟩ := hu.isSlice
  go_wp2
  go_ret
  exact ⟨rfl, hq1.trans (hb2.mono hq1.size)⟩
set_option maxHeartbeats 4000000 in
set_option maxRecDepth 100000 in
theorem drawFacesOf_any {S : Nat → Prop} {v : Value} {bs : List Int} {w : World} (hv : SlI S w .u8 v bs) (hr : ∀ x ∈ bs, 0 ≤ x ∧ x < 256) (hS : ∀ b, S b → b < w.heap.size) (hl : bs.length ≤ 4096) :
    Calls Tryz.prog 6 #[v] w fun e w' => ∃ u g x r, e = .returned (.tuple #[.agg #[u], .agg #[x]]) ∧ SlR (fun b => w.heap.size ≤ b ∧ b < w'.heap.size) w' u g ∧ g.length ≤ 17 ∧ SlR (fun b => w.heap.size ≤ b ∧ b < w'.heap.size) w' x r ∧ SmallR r 1048576 ∧ Below w.heap.size w w' := by
  have hb0 : Below w.heap.size w ((w.alloc (.cells #[.slice none 0 0] 26)).alloc (.cells #[.slice none 0 0] 28)) := ((Below.refl _ _).alloc (Nat.le_refl _) _).alloc (by simp) _
  have hr0 := (own_new w w.heap.size 26 (.slice none 0 0) (Nat.le_refl _)).alloc (.cells #[.slice none 0 0] 28)
  have hr1 := own_new (w.alloc (.cells #[.slice none 0 0] 26)) w.heap.size 28 (.slice none 0 0) (by simp)
  rw [show (w.alloc (.cells #[.slice none 0 0] 26)).heap.size = w.heap.size + 1 by simp] at hr1
  have hnw := l1New_any (hv.below hb0 (Nat.le_refl _)) hr (fun b hb => by have := hS b hb; simp; omega) hl
  have hd0 : w.heap.size + 2 = ((w.alloc (.cells #[.slice none 0 0] 26)).alloc (.cells #[.slice none 0 0] 28)).heap.size := by simp
  rw [← hd0] at hnw
  go_enter Tryz.func6, Tryz.ntmps6
  go_wp2_with fail
  refine hnw.mono ?_
  rintro e w1 ⟨rfl, hC, hb1⟩
  have hq1 := hb0.trans (hb1.mono (by omega))
  have hr0 := hr0.below hb1 (Nat.le_of_eq hd0.symm)
  have hr1 := hr1.below hb1 (Nat.le_of_eq hd0.symm)
  have hd1 := hC.lt
  have hdr := l22Draw_any hC hl
  clear hnw hb0 hd0
  go_wp2_with fail
  refine hdr.mono ?_
  rintro e w2 ⟨u, g, x, r, rfl, hg, hgl, hx, hrl, hrr, hm⟩
  have hms := hm.size
  have hr0 := own1_kept hr0 hm.2 (by first | (simp; done) | (simp; omega))
  have hr1 := own1_kept hr1 hm.2 (by first | (simp; done) | (simp; omega))
  have hq2 : Below w.heap.size w w2 := hm.2.below hq1 hq1.size (fun b hb => by simp at hb; omega)
  obtain ⟨ua, uc, rfl⟩ := hg.slice
  obtain ⟨xa, xc, rfl⟩ := hx.slice
  obtain ⟨p0, p1, -, -⟩ := own_cell hr0
  obtain ⟨q0, q1, -, -⟩ := own_cell hr1
  have hq0 : ∀ y : Value, (w2.setCell ⟨w.heap.size, 0, none⟩ y).cell? ⟨w.heap.size + 1, 0, none⟩ = some (.slice none 0 0) := fun y => (World.cell?_setCell_other _ _ _ _ (fun e => by have := congrArg Addr.block e; simp at this)).trans q0
  have f0 : ((w2.setCell ⟨w.heap.size, 0, none⟩ (.slice ua g.length uc)).setCell ⟨w.heap.size + 1, 0, none⟩ (.slice xa r.length xc)).cell? ⟨w.heap.size, 0, none⟩ = some (.slice ua g.length uc) := by
    rw [World.cell?_setCell_other _ _ _ _ (fun e => by have := congrArg Addr.block e; simp at this), World.cell?_setCell_same _ _ _ p0]
  have f1 : ((w2.setCell ⟨w.heap.size, 0, none⟩ (.slice ua g.length uc)).setCell ⟨w.heap.size + 1, 0, none⟩ (.slice xa r.length xc)).cell? ⟨w.heap.size + 1, 0, none⟩ = some (.slice xa r.length xc) := by
    rw [World.cell?_setCell_same _ _ _ (hq0 _)]
  have hk : ∀ b, w1.heap.size ≤ b → ((w2.setCell ⟨w.heap.size, 0, none⟩ (.slice ua g.length uc)).setCell ⟨w.heap.size + 1, 0, none⟩ (.slice xa r.length xc)).heap[b]? = w2.heap[b]? := fun b hb => (Below.heap_setCell _ _ _ _ (by simp; omega)).trans (Below.heap_setCell _ _ _ _ (by simp; omega))
  have hsz : ((w2.setCell ⟨w.heap.size, 0, none⟩ (.slice ua g.length uc)).setCell ⟨w.heap.size + 1, 0, none⟩ (.slice xa r.length xc)).heap.size = w2.heap.size := by simp
  have hg3 := (hg.keep fun b hb => hk b hb.1).weak (S' := fun b => w.heap.size ≤ b ∧ b < ((w2.setCell ⟨w.heap.size, 0, none⟩ (.slice ua g.length uc)).setCell ⟨w.heap.size + 1, 0, none⟩ (.slice xa r.length xc)).heap.size) fun b hb => ⟨by omega, by rw [hsz]; exact hb.2⟩
  have hx3 := (hx.keep fun b hb => hk b hb.1).weak (S' := fun b => w.heap.size ≤ b ∧ b < ((w2.setCell ⟨w.heap.size, 0, none⟩ (.slice ua g.length uc)).setCell ⟨w.heap.size + 1, 0, none⟩ (.slice xa r.length xc)).heap.size) fun b hb => ⟨by omega, by rw [hsz]; exact hb.2⟩
  have hq3 : Below w.heap.size w ((w2.setCell ⟨w.heap.size, 0, none⟩ (.slice ua g.length uc)).setCell ⟨w.heap.size + 1, 0, none⟩ (.slice xa r.length xc)) := (hq2.setCell (by simp) _).setCell (by simp) _
  have hsr : SmallR r 1048576 := ⟨by omega, fun i hi _ => by have := hrr r[i] (List.getElem_mem hi); omega⟩
  clear hdr hm hC hk hsz hg hx
  go_wp2
  exact bodyPost_ret (v := .tuple #[.agg #[.slice ua g.length uc], .agg #[.slice xa r.length xc]]) (by simp [results, Tryz.results6, go_sem, f0, f1]) rfl ⟨_, g, _, r, rfl, hg3, hgl, hx3, hsr, hq3⟩
set_option maxRecDepth 100000 in
set_option maxHeartbeats 16000000 in
theorem lawFaces_any {S : Nat → Prop} (v : Value) (bs : List Int) (w : World) (ht : Tab w) (hv0 : SlI S w .u8 v bs) (hr : ∀ x ∈ bs, 0 ≤ x ∧ x < 256) :
    Calls Tryz.prog 3 #[v] w fun e w' => e = .returned (.bool true) ∧ Below w.heap.size w w' := by
  have hv := hv0.lowS
  have hbg := big_any hv
  by_cases hl : bs.length ≤ 4096
  case neg =>
    rw [decide_eq_true (show 4096 < bs.length by omega)] at hbg
    go_enter Tryz.func3, Tryz.ntmps3
    go_wp2_with (go_at_call 5; refine hbg.mono ?_; rintro e w' ⟨rfl, rfl⟩)
    go_ret
    exact ⟨rfl, Below.refl _ _⟩
  rw [decide_eq_false (show ¬ 4096 < bs.length by omega)] at hbg
  have hdr := drawFacesOf_any hv hr (fun b hb => hb) hl
  have HT := Lib.hid (fun (W : World) (hb : Below w.heap.size w W) => ht.below hb (Nat.le_refl _))
  go_enter Tryz.func3, Tryz.ntmps3
  go_wp2_with (go_at_call 5; refine hbg.mono ?_; rintro e w' ⟨rfl, rfl⟩)
  refine hdr.mono ?_
  rintro e w2 ⟨u, g, x, r, rfl, hgv, hg17, hxv, hsr, hb2⟩
  clear hdr hbg
  obtain ⟨ua, uc, rfl⟩ := hgv.slice
  obtain ⟨xa, xc, rfl⟩ := hxv.slice
  have hb3 : Below w2.heap.size w2 ((w2.alloc (.cells #[.slice ua g.length uc] 26)).alloc (.cells #[.slice xa r.length xc] 28)) := ((Below.refl _ _).alloc (Nat.le_refl _) _).alloc (by simp) _
  have hq3 := hb2.trans (hb3.mono hb2.size)
  have hgv3 := hgv.below hb3 (Nat.le_refl _)
  have hxv3 := hxv.below hb3 (Nat.le_refl _)
  have HG := Lib.hid (fun (W : World) (hb : Below ((w2.alloc (.cells #[.slice ua g.length uc] 26)).alloc (.cells #[.slice xa r.length xc] 28)).heap.size ((w2.alloc (.cells #[.slice ua g.length uc] 26)).alloc (.cells #[.slice xa r.length xc] 28)) W) => hgv3.below hb (Nat.le_refl _))
  have HX := Lib.hid (fun (W : World) (hb : Below ((w2.alloc (.cells #[.slice ua g.length uc] 26)).alloc (.cells #[.slice xa r.length xc] 28)).heap.size ((w2.alloc (.cells #[.slice ua g.length uc] 26)).alloc (.cells #[.slice xa r.length xc] 28)) W) => hxv3.below hb (Nat.le_refl _))
  have cg3 : ((w2.alloc (.cells #[.slice ua g.length uc] 26)).alloc (.cells #[.slice xa r.length xc] 28)).cell? ⟨w2.heap.size, 0, none⟩ = some (.slice ua g.length uc) := by simp [go_sem]
  have cx3 : ((w2.alloc (.cells #[.slice ua g.length uc] 26)).alloc (.cells #[.slice xa r.length xc] 28)).cell? ⟨w2.heap.size + 1, 0, none⟩ = some (.slice xa r.length xc) := by simp [go_sem]
  have hfi := implFacesOf_any hgv3 hxv3 hsr
  have hz3 : ((w2.alloc (.cells #[.slice ua g.length uc] 26)).alloc (.cells #[.slice xa r.length xc] 28)).heap.size = w2.heap.size + 2 := by simp
  have HSR := Lib.hid hsr
  go_wp2_with fail
  generalize ((w2.alloc (.cells #[.slice ua g.length uc] 26)).alloc (.cells #[.slice xa r.length xc] 28)) = w3 at *
  obtain ⟨gb, hgb⟩ : ∃ gb, gb = w2.heap.size := ⟨_, rfl⟩
  rw [← hgb] at cg3 cx3 hz3 ⊢
  clear hgb hb2 hb3 hgv hxv
  refine hfi.mono ?_
  rintro e w4 ⟨fu, rfl, hfu, hb4⟩
  have hq4 := hq3.trans (hb4.mono hq3.size)
  have hF4 := hfu.rows (facesF_small g r)
  have cg4 := (hb4.cell (cell_lt cg3)).trans cg3
  have cx4 := (hb4.cell (cell_lt cx3)).trans cx3
  obtain ⟨fa, fc, rfl⟩ := hF4.slice
  have hfs := specFacesOf_any (HG.out w4 hb4) (HX.out w4 hb4)
  clear hfi hfu
  go_wp2_with fail
  refine hfs.mono ?_
  rintro e w5 ⟨su, rfl, hS5, hb5⟩
  have hq5 := hq4.trans (hb5.mono hq4.size)
  have h35 := hb4.trans (hb5.mono hb4.size)
  have cg5 := (hb5.cell (cell_lt cg4)).trans cg4
  have cx5 := (hb5.cell (cell_lt cx4)).trans cx4
  have hF5 := hF4.below hb5 (Nat.le_refl _)
  obtain ⟨sa, sc, rfl⟩ := hS5.slice
  have hgi := implGenusOf_any (HT.out w5 hq5) (HG.out w5 h35) (HX.out w5 h35) HSR.out
  clear hfs hF4 cg4 cx4 hb4 hb5
  go_wp2_with fail
  refine hgi.mono ?_
  rintro e w6 ⟨rfl, hb6⟩
  have hq6 := hq5.trans (hb6.mono hq5.size)
  have h36 := h35.trans (hb6.mono h35.size)
  have cg6 := (hb6.cell (cell_lt cg5)).trans cg5
  have cx6 := (hb6.cell (cell_lt cx5)).trans cx5
  have hF6 := hF5.below hb6 (Nat.le_refl _)
  have hS6 := hS5.below hb6 (Nat.le_refl _)
  have hmi := implMirrorOf_any (HG.out w6 h36) (HX.out w6 h36) HSR.out
  clear hgi hF5 hS5 cg5 cx5 hb6
  go_wp2_with fail
  refine hmi.mono ?_
  rintro e w7 ⟨mu, rfl, hmu, hb7⟩
  have hM7 := hmu.rows (mirF_small g r)
  obtain ⟨ma, mc, rfl⟩ := hM7.slice
  have hb8 : Below w7.heap.size w7 (w7.alloc (.cells #[.slice ma (mirF g r).length mc] 28)) := (Below.refl _ _).alloc (Nat.le_refl _) _
  have hb78 := hb7.trans (hb8.mono hb7.size)
  have hq8 := hq6.trans (hb78.mono hq6.size)
  have h38 := h36.trans (hb78.mono h36.size)
  have cg8 := (hb78.cell (cell_lt cg6)).trans cg6
  have cx8 := (hb78.cell (cell_lt cx6)).trans cx6
  have hF8 := hF6.below hb78 (Nat.le_refl _)
  have hS8 := hS6.below hb78 (Nat.le_refl _)
  have hM8 := hM7.below hb8 (Nat.le_refl _)
  have cm8 : (w7.alloc (.cells #[.slice ma (mirF g r).length mc] 28)).cell? ⟨w7.heap.size, 0, none⟩ = some (.slice ma (mirF g r).length mc) := by simp [go_sem]
  have hgs := specGenusOf_any (HG.out _ h38) (HX.out _ h38)
  have hne1 : ((facesF g r).length != (facesF g r).length) = false := by simp
  have hne2 : (((facesF g r).length : Int) != ((facesF g r).length : Int)) = false := by simp
  have hne3 : (genusI g r != genusI g r) = false := by simp
  clear hmi hF6 hS6 cg6 cx6 hb7 hb8 hb78 hmu hM7
  go_wp2_with fail
  generalize (w7.alloc (.cells #[.slice ma (mirF g r).length mc] 28)) = w8 at *
  generalize w7.heap.size = mb at *
  refine hgs.mono ?_
  rintro e w9 ⟨rfl, hb9⟩
  have hq9 := hq8.trans (hb9.mono hq8.size)
  have h39 := h38.trans (hb9.mono h38.size)
  have cg9 := (hb9.cell (cell_lt cg8)).trans cg8
  have cx9 := (hb9.cell (cell_lt cx8)).trans cx8
  have cm9 := (hb9.cell (cell_lt cm8)).trans cm8
  have hF9 := hF8.below hb9 (Nat.le_refl _)
  have hS9 := hS8.below hb9 (Nat.le_refl _)
  have hM9 := hM8.below hb9 (Nat.le_refl _)
  have hao := specAroundOk_any (HG.out w9 h39) (HX.out w9 h39)
  clear hgs hF8 hS8 hM8 cg8 cx8 cm8 hb9 hq8 h38
  go_wp2_with fail
  refine hao.mono ?_
  rintro e wa ⟨rfl, hba⟩
  have hqa := hq9.trans (hba.mono hq9.size)
  have h3a := h39.trans (hba.mono h39.size)
  have cga := (hba.cell (cell_lt cg9)).trans cg9
  have cxa := (hba.cell (cell_lt cx9)).trans cx9
  have cma := (hba.cell (cell_lt cm9)).trans cm9
  have hFa := hF9.below hba (Nat.le_refl _)
  have hSa := hS9.below hba (Nat.le_refl _)
  have hMa := hM9.below hba (Nat.le_refl _)
  clear hao hF9 hS9 hM9 cg9 cx9 cm9 hba hq9 h39 hne1 hne2 hne3
  by_cases hok : aroundB g r = true
  case neg =>
    have hok' : aroundB g r = false := by simpa using hok
    have e1 : genusI g r = -1 := by unfold genusI; rw [if_neg hok]
    have e2 : (mirF g r).length = 0 := by unfold mirF; rw [if_neg hok]; rfl
    rw [e2] at cma
    rw [hok', e1]
    clear hok hok' e1 e2 hMa
    go_wp2
    go_ret
    exact ⟨rfl, hqa⟩
  rw [hok]
  have hAP := around_iff.1 hok
  have hgok := hAP.gok
  have hrl := hAP.len
  have hglo := hgok.lo
  obtain ⟨ham, hfl, hpl, hbk, hsd⟩ := faceF_of hAP
  have hED := (edges_small hgok).1
  have HMY := Lib.hid (fun (W : World) (hb : Below w3.heap.size w3 W) => manyS_any hgok (HG.out W hb))
  have hFs := facesF_small g r
  have hFl : (facesF g r).length ≤ 1048576 := by have := hFs.1; omega
  have HAM := Lib.hid (around_true ham)
  have HPL := Lib.hid hpl
  have HFL := Lib.hid hfl
  have HBK := Lib.hid hbk
  have HMS := Lib.hid (mirF_small g r)
  have hr0 : 0 < r.length := by omega
  have hr17 : r.length ≤ 17 := by omega
  generalize genusI g r = gi at *
  generalize mirF g r = M at *
  generalize hFe : facesF g r = F at *
  have HSD := Lib.hid hsd
  have HFL2 := Lib.hid (show (facesF g M).length = F.length by rw [HFL.out])
  have hsmall : (F.map List.length).sum ≤ 3000000 := by rw [hsd]; omega
  have HED2 := Lib.hid hED
  clear hok hAP hrl ham hfl hpl hbk hsd hFs hFe HFL hED
  go_wp2
  go_loopw [9, 10] (fun sv iv wr => ∃ i : Nat, i ≤ F.length ∧ sv = .int .i64 ((((F.take i).map List.length).sum : Nat) : Int) ∧ iv = .int .i64 (i : Int) ∧ Below wa.heap.size wa wr) (fun _ iv _ => F.length - (RowKit.intOf iv).toNat)
  case atStart => exact ⟨0, Nat.zero_le _, by simp, rfl, Below.refl _ _⟩
  case round =>
    obtain ⟨i, hi, rfl, rfl, hbr⟩ := hrel
    obtain ⟨wb, rfl⟩ : ∃ x : World, x = wr := ⟨_, rfl⟩
    have hqb := hqa.trans (hbr.mono hqa.size)
    have h3b := h3a.trans (hbr.mono h3a.size)
    have cgb := (hbr.cell (cell_lt cga)).trans cga
    have cxb := (hbr.cell (cell_lt cxa)).trans cxa
    have cmb := (hbr.cell (cell_lt cma)).trans cma
    by_cases hiF : i < F.length
    case pos =>
      obtain ⟨fb, fo, rfl, hFc⟩ := hFa.cellsL (by omega)
      obtain ⟨sb, so, rfl, hSc⟩ := hSa.cellsL (by omega)
      obtain ⟨ra, rc, d1, r1⟩ := hFc i hiF wb hbr
      obtain ⟨ra2, rc2, d2, r2⟩ := hSc i hiF wb hbr
      have hlk := fun (W : World) (hd : Drawn wb W) => likeInts_any (r1.drawn hd) (r2.drawn hd)
      rw [decide_eq_true rfl] at hlk
      have hst := sum_take_succ F i hiF
      have hle := sum_take_le F (i + 1)
      have HST := Lib.hid hst
      rw [hst] at hle
      generalize F[i].length = m at *
      generalize ((F.take i).map List.length).sum = T at *
      have hiI : (i : Int) < (F.length : Int) := by omega
      have hiD : decide ((i : Int) < (F.length : Int)) = true := decide_eq_true hiI
      have hiD2 : decide (i < F.length) = true := decide_eq_true hiF
      clear hFc hSc r1 r2 hst
      go_wp2
      refine wp_region_held_drew (S := (fun w' => w'.cell? ⟨fb, fo + i, none⟩ = some (.slice ra m rc) ∧ w'.cell? ⟨sb, so + i, none⟩ = some (.slice ra2 m rc2))) (by kernel_rfl) ?_ (fun hHeld => ?_)
      · first | exact ⟨‹_›, ‹_›⟩ | (simp [*, go_sem])
      have hdw : Drawn wb wb.drew := (Drawn.refl _).drew
      generalize wb.drew = wd at hdw hHeld ⊢
      refine wpAnyH_take (i := 0) (v := ?v1) (by simp only [List.getElem?_toArray, List.getElem?_cons_zero]; exact rfl) (by kernel_rfl) (by kernel_rfl) (by kernel_rfl) (by intro _ _ _ h; exact h) (Or.inl ⟨by rfl, ?y1⟩) hHeld ?_
      case y1 => (intro w hSw; (try dsimp only at hSw); go_simp; try (with_reducible rfl))
      try simp only [Act.put, List.setIfInBounds_toArray, List.set_cons_zero, List.set_cons_succ]
      refine wpAnyH_take (i := 1) (v := ?v2) (by simp only [List.getElem?_toArray, List.getElem?_cons_succ, List.getElem?_cons_zero]; exact rfl) (by kernel_rfl) (by kernel_rfl) (by kernel_rfl) (by intro _ _ _ h; exact h) (Or.inl ⟨by rfl, ?y2⟩) hHeld ?_
      case y2 => (intro w hSw; (try dsimp only at hSw); go_simp; try (with_reducible rfl))
      try simp only [Act.put, List.setIfInBounds_toArray, List.set_cons_zero, List.set_cons_succ]
      refine wpAnyH_take (i := 2) (v := ?v3) (by simp only [List.getElem?_toArray, List.getElem?_cons_succ, List.getElem?_cons_zero]; exact rfl) (by kernel_rfl) (by kernel_rfl) (by kernel_rfl) (by intro _ _ _ h; exact h) (Or.inl ⟨by rfl, ?y3⟩) hHeld ?_
      case y3 => (intro w hSw; (try dsimp only at hSw); go_simp; try (with_reducible rfl))
      try simp only [Act.put, List.setIfInBounds_toArray, List.set_cons_zero, List.set_cons_succ]
      refine wpAnyH_take (i := 3) (v := ?v4) (by simp only [List.getElem?_toArray, List.getElem?_cons_succ, List.getElem?_cons_zero]; exact rfl) (by kernel_rfl) (by kernel_rfl) (by kernel_rfl) (by intro _ _ _ h; exact h) (Or.inl ⟨by rfl, ?y4⟩) hHeld ?_
      case y4 => (intro w hSw; (try dsimp only at hSw); go_simp; try (with_reducible rfl))
      try simp only [Act.put, List.setIfInBounds_toArray, List.set_cons_zero, List.set_cons_succ]
      refine wpAnyH_take (i := 4) (v := ?v5) (by simp only [List.getElem?_toArray, List.getElem?_cons_succ, List.getElem?_cons_zero]; exact rfl) (by kernel_rfl) (by kernel_rfl) (by kernel_rfl) (by intro _ _ _ h; exact h) (Or.inl ⟨by rfl, ?y5⟩) hHeld ?_
      case y5 => (intro w hSw; (try dsimp only at hSw); go_simp; try (with_reducible rfl))
      try simp only [Act.put, List.setIfInBounds_toArray, List.set_cons_zero, List.set_cons_succ]
      refine wpAnyH_take (i := 5) (v := ?v6) (by simp only [List.getElem?_toArray, List.getElem?_cons_succ, List.getElem?_cons_zero]; exact rfl) (by kernel_rfl) (by kernel_rfl) (by kernel_rfl) (by intro _ _ _ h; exact h) (Or.inl ⟨by rfl, ?y6⟩) hHeld ?_
      case y6 => (intro w hSw; (try dsimp only at hSw); go_simp; try (with_reducible rfl))
      try simp only [Act.put, List.setIfInBounds_toArray, List.set_cons_zero, List.set_cons_succ]
      refine wpAnyH_take (i := 6) (v := ?v7) (by simp only [List.getElem?_toArray, List.getElem?_cons_succ, List.getElem?_cons_zero]; exact rfl) (by kernel_rfl) (by kernel_rfl) (by kernel_rfl) (by intro _ _ _ h; exact h) (Or.inl ⟨by rfl, ?y7⟩) hHeld ?_
      case y7 => (intro w hSw; (try dsimp only at hSw); go_simp; try (with_reducible rfl))
      try simp only [Act.put, List.setIfInBounds_toArray, List.set_cons_zero, List.set_cons_succ]
      refine wpAnyH_take (i := 7) (v := ?v8) (by simp only [List.getElem?_toArray, List.getElem?_cons_succ, List.getElem?_cons_zero]; exact rfl) (by kernel_rfl) (by kernel_rfl) (by kernel_rfl) (by intro _ _ _ h; exact h) (Or.inl ⟨by rfl, ?y8⟩) hHeld ?_
      case y8 => (intro w hSw; (try dsimp only at hSw); go_simp; try (with_reducible rfl))
      try simp only [Act.put, List.setIfInBounds_toArray, List.set_cons_zero, List.set_cons_succ]
      refine wpAnyH_ready (rs := [8]) (by kernel_rfl) (by simp) ?_
      refine AllReadyH.cons (by simp only [List.getElem?_toArray, List.getElem?_cons_succ, List.getElem?_cons_zero]; exact rfl) (fun K hK => ?_) AllReadyH.nil
      go_simp
      refine (hlk wd hdw).mono ?_
      rintro e wy ⟨rfl, hd5⟩
      replace hHeld := And.intro ((hd5.cell _).trans hHeld.1) ((hd5.cell _).trans hHeld.2)
      have hdw := hdw.trans hd5
      try dsimp only
      refine hK.out _ _ ?h10 (fun hHeld => ?_)
      case h10 => first | exact ⟨‹_›, ‹_›⟩ | (simp [*, go_sem])
      clear hK K
      try simp only [Act.put, List.setIfInBounds_toArray, List.set_cons_zero, List.set_cons_succ]
      refine wpAnyH_take (i := 9) (v := ?v11) (by simp only [List.getElem?_toArray, List.getElem?_cons_succ, List.getElem?_cons_zero]; exact rfl) (by kernel_rfl) (by kernel_rfl) (by kernel_rfl) (by intro _ _ _ h; exact h) (Or.inl ⟨by rfl, ?y11⟩) hHeld ?_
      case y11 => (intro w hSw; (try dsimp only at hSw); go_simp; try (with_reducible rfl))
      try simp only [Act.put, List.setIfInBounds_toArray, List.set_cons_zero, List.set_cons_succ]
      refine wpAnyH_done (by kernel_rfl) ?_ _
      obtain ⟨d3, d4⟩ := hHeld
      go_wp2
      go_roundw
      case rel => exact ⟨i + 1, by omega, by rw [HST.out]; go_num, by go_num, hbr.trans ((hdw.below wb.heap.size).mono hbr.size)⟩
      case measure => (simp [RowKit.intOf] <;> omega)
    have hie : i = F.length := by omega
    have HS9 := Lib.hid (show ((((F.take i).map List.length).sum : Nat) : Int) = 2 * ((edgesL g).length : Int) by rw [hie, List.take_length, HSD.out]; omega)
    rw [HS9.out]
    have hiD : decide ((i : Int) < (F.length : Int)) = false := decide_eq_false (by omega)
    have hiD2 : decide (i < F.length) = false := decide_eq_false hiF
    have hmi := implMirrorOf_any (HG.out wb h3b) (hMa.below hbr (Nat.le_refl _)) HMS.out
    rw [HBK.out] at hmi
    have hMb := hMa.below hbr (Nat.le_refl _)
    clear hie HS9 hFa hSa HSD
    go_wp2_with fail
    refine hmi.mono ?_
    rintro e wc ⟨bu, rfl, hbu, hbc⟩
    have hB := hbu.rows HSR.out
    obtain ⟨ba, bc, rfl⟩ := hB.slice
    have hbl : Below wc.heap.size wc (wc.alloc (.cells #[.slice ba r.length bc] 28)) := (Below.refl _ _).alloc (Nat.le_refl _) _
    have hbd := hbc.trans (hbl.mono hbc.size)
    have hqd := hqb.trans (hbd.mono hqb.size)
    have h3d := h3b.trans (hbd.mono h3b.size)
    have cgd := (hbd.cell (cell_lt cgb)).trans cgb
    have cxd := (hbd.cell (cell_lt cxb)).trans cxb
    have cmd := (hbd.cell (cell_lt cmb)).trans cmb
    have hBd := hB.below hbl (Nat.le_refl _)
    have hMd := hMb.below hbd (Nat.le_refl _)
    have cbd : (wc.alloc (.cells #[.slice ba r.length bc] 28)).cell? ⟨wc.heap.size, 0, none⟩ = some (.slice ba r.length bc) := by simp [go_sem]
    generalize hEL : (edgesL g).length = E at *
    have hW2 : IntKind.i64.wrap (2 * (E : Int)) = 2 * (E : Int) := IntWalk.i64_in _ (by have := HED2.out; omega)
    have hN1 : ((2 * (E : Int)) != (2 * (E : Int))) = false := by simp
    have hN2 : ((F.length : Int) != (F.length : Int)) = false := by simp
    have hN3 : (F.length != F.length) = false := by simp
    have hN4 : (planB g r != planB g r) = false := by simp
    have hN5 : ((r.length : Int) != (r.length : Int)) = false := by simp
    have hN6 : (r.length != r.length) = false := by simp
    clear hEL hmi hbu hB hbc hbl hbr hMb cgb cxb cmb cga cxa cma hbd
    go_wp2
    generalize (wc.alloc (.cells #[.slice ba r.length bc] 28)) = we at *
    generalize wc.heap.size = bb at *
    have hMM := fun (W : World) (hb : Below we.heap.size we W) => hMd.below hb (Nat.le_refl _)
    have HMM := Lib.hid hMM
    obtain ⟨pb, hpbe⟩ : ∃ pb, pb = planB g r := ⟨_, rfl⟩
    rw [← hpbe] at hN4
    rw [hpbe.symm] at HPL
    have HPB := Lib.hid hpbe.symm
    clear hpbe
    refine wp_region_held_drew (S := (fun w' => w'.cell? ⟨gb, 0, none⟩ = some (.slice ua g.length uc) ∧ w'.cell? ⟨gb + 1, 0, none⟩ = some (.slice xa r.length xc) ∧ w'.cell? ⟨mb, 0, none⟩ = some (.slice ma M.length mc) ∧ w'.cell? ⟨bb, 0, none⟩ = some (.slice ba r.length bc))) (by kernel_rfl) ?_ (fun hHeld => ?_)
    · first | exact ⟨‹_›, ‹_›, ‹_›, ‹_›⟩ | (simp [*, go_sem])
    have hbw : Below we.heap.size we we.drew := ((Drawn.refl _).drew).below _
    generalize we.drew = wd at hbw hHeld ⊢
    obtain ⟨e0, e1, e2, e3⟩ := id hHeld
    refine wpAnyH_take (i := 0) (v := ?v12) (by simp only [List.getElem?_toArray, List.getElem?_cons_zero]; exact rfl) (by kernel_rfl) (by kernel_rfl) (by kernel_rfl) (by intro _ _ _ h; exact h) (Or.inl ⟨by rfl, ?y12⟩) hHeld ?_
    case y12 => (intro w hSw; (try dsimp only at hSw); go_simp; try (with_reducible rfl))
    try simp only [Act.put, List.setIfInBounds_toArray, List.set_cons_zero, List.set_cons_succ]
    refine wpAnyH_take (i := 1) (v := ?v13) (by simp only [List.getElem?_toArray, List.getElem?_cons_succ, List.getElem?_cons_zero]; exact rfl) (by kernel_rfl) (by kernel_rfl) (by kernel_rfl) (by intro _ _ _ h; exact h) (Or.inl ⟨by rfl, ?y13⟩) hHeld ?_
    case y13 => (intro w hSw; (try dsimp only at hSw); go_simp; try (with_reducible rfl))
    try simp only [Act.put, List.setIfInBounds_toArray, List.set_cons_zero, List.set_cons_succ]
    refine wpAnyH_ready (rs := [2]) (by kernel_rfl) (by simp) ?_
    refine AllReadyH.cons (by simp only [List.getElem?_toArray, List.getElem?_cons_succ, List.getElem?_cons_zero]; exact rfl) (fun K hK => ?_) AllReadyH.nil
    go_simp
    refine (HMY.out wd (h3d.trans (hbw.mono h3d.size))).mono ?_
    rintro e wy ⟨rfl, hb5⟩
    have hbw := hbw.trans (hb5.mono hbw.size)
    clear hb5 e0 e1 e2 e3
    obtain ⟨wd, rfl⟩ : ∃ x, x = wy := ⟨_, rfl⟩
    have e0 := (hbw.cell (cell_lt cgd)).trans cgd
    have e1 := (hbw.cell (cell_lt cxd)).trans cxd
    have e2 := (hbw.cell (cell_lt cmd)).trans cmd
    have e3 := (hbw.cell (cell_lt cbd)).trans cbd
    try dsimp only
    refine hK.out _ _ ?h15 (fun hHeld => ?_)
    case h15 => first | exact ⟨‹_›, ‹_›, ‹_›, ‹_›⟩ | (simp [*, go_sem])
    clear hK K
    try simp only [Act.put, List.setIfInBounds_toArray, List.set_cons_zero, List.set_cons_succ]
    refine wpAnyH_take (i := 3) (v := ?v16) (by simp only [List.getElem?_toArray, List.getElem?_cons_succ, List.getElem?_cons_zero]; exact rfl) (by kernel_rfl) (by kernel_rfl) (by kernel_rfl) (by intro _ _ _ h; exact h) (Or.inl ⟨by rfl, ?y16⟩) hHeld ?_
    case y16 => (intro w hSw; (try dsimp only at hSw); go_simp; try (with_reducible rfl))
    try simp only [Act.put, List.setIfInBounds_toArray, List.set_cons_zero, List.set_cons_succ]
    refine wpAnyH_take (i := 4) (v := ?v17) (by simp only [List.getElem?_toArray, List.getElem?_cons_succ, List.getElem?_cons_zero]; exact rfl) (by kernel_rfl) (by kernel_rfl) (by kernel_rfl) (by intro _ _ _ h; exact h) (Or.inl ⟨by rfl, ?y17⟩) hHeld ?_
    case y17 => (intro w hSw; (try dsimp only at hSw); go_simp; try (with_reducible rfl))
    try simp only [Act.put, List.setIfInBounds_toArray, List.set_cons_zero, List.set_cons_succ]
    refine wpAnyH_take (i := 5) (v := ?v18) (by simp only [List.getElem?_toArray, List.getElem?_cons_succ, List.getElem?_cons_zero]; exact rfl) (by kernel_rfl) (by kernel_rfl) (by kernel_rfl) (by intro _ _ _ h; exact h) (Or.inl ⟨by rfl, ?y18⟩) hHeld ?_
    case y18 => (intro w hSw; (try dsimp only at hSw); go_simp; try (with_reducible rfl))
    try simp only [Act.put, List.setIfInBounds_toArray, List.set_cons_zero, List.set_cons_succ]
    refine wpAnyH_take (i := 6) (v := ?v19) (by simp only [List.getElem?_toArray, List.getElem?_cons_succ, List.getElem?_cons_zero]; exact rfl) (by kernel_rfl) (by kernel_rfl) (by kernel_rfl) (by intro _ _ _ h; exact h) (Or.inl ⟨by rfl, ?y19⟩) hHeld ?_
    case y19 => (intro w hSw; (try dsimp only at hSw); go_simp; try (with_reducible rfl))
    try simp only [Act.put, List.setIfInBounds_toArray, List.set_cons_zero, List.set_cons_succ]
    refine wpAnyH_take (i := 7) (v := ?v20) (by simp only [List.getElem?_toArray, List.getElem?_cons_succ, List.getElem?_cons_zero]; exact rfl) (by kernel_rfl) (by kernel_rfl) (by kernel_rfl) (by intro _ _ _ h; exact h) (Or.inl ⟨by rfl, ?y20⟩) hHeld ?_
    case y20 => (intro w hSw; (try dsimp only at hSw); go_simp; try (with_reducible rfl))
    try simp only [Act.put, List.setIfInBounds_toArray, List.set_cons_zero, List.set_cons_succ]
    refine wpAnyH_ready (rs := [8]) (by kernel_rfl) (by simp) ?_
    refine AllReadyH.cons (by simp only [List.getElem?_toArray, List.getElem?_cons_succ, List.getElem?_cons_zero]; exact rfl) (fun K hK => ?_) AllReadyH.nil
    go_simp
    have hao := specAroundOk_any (HG.out wd (h3d.trans (hbw.mono h3d.size))) (HMM.out wd hbw)
    rw [HAM.out] at hao
    refine hao.mono ?_
    rintro e wy ⟨rfl, hb5⟩
    have hbw := hbw.trans (hb5.mono hbw.size)
    clear hb5 hao e0 e1 e2 e3
    obtain ⟨wd, rfl⟩ : ∃ x, x = wy := ⟨_, rfl⟩
    have e0 := (hbw.cell (cell_lt cgd)).trans cgd
    have e1 := (hbw.cell (cell_lt cxd)).trans cxd
    have e2 := (hbw.cell (cell_lt cmd)).trans cmd
    have e3 := (hbw.cell (cell_lt cbd)).trans cbd
    try dsimp only
    refine hK.out _ _ ?h22 (fun hHeld => ?_)
    case h22 => first | exact ⟨‹_›, ‹_›, ‹_›, ‹_›⟩ | (simp [*, go_sem])
    clear hK K
    try simp only [Act.put, List.setIfInBounds_toArray, List.set_cons_zero, List.set_cons_succ]
    refine wpAnyH_take (i := 9) (v := ?v23) (by simp only [List.getElem?_toArray, List.getElem?_cons_succ, List.getElem?_cons_zero]; exact rfl) (by kernel_rfl) (by kernel_rfl) (by kernel_rfl) (by intro _ _ _ h; exact h) (Or.inl ⟨by rfl, ?y23⟩) hHeld ?_
    case y23 => (intro w hSw; (try dsimp only at hSw); go_simp; try (with_reducible rfl))
    try simp only [Act.put, List.setIfInBounds_toArray, List.set_cons_zero, List.set_cons_succ]
    refine wpAnyH_take (i := 10) (v := ?v24) (by simp only [List.getElem?_toArray, List.getElem?_cons_succ, List.getElem?_cons_zero]; exact rfl) (by kernel_rfl) (by kernel_rfl) (by kernel_rfl) (by intro _ _ _ h; exact h) (Or.inl ⟨by rfl, ?y24⟩) hHeld ?_
    case y24 => (intro w hSw; (try dsimp only at hSw); go_simp; try (with_reducible rfl))
    try simp only [Act.put, List.setIfInBounds_toArray, List.set_cons_zero, List.set_cons_succ]
    refine wpAnyH_take (i := 11) (v := ?v25) (by simp only [List.getElem?_toArray, List.getElem?_cons_succ, List.getElem?_cons_zero]; exact rfl) (by kernel_rfl) (by kernel_rfl) (by kernel_rfl) (by intro _ _ _ h; exact h) (Or.inl ⟨by rfl, ?y25⟩) hHeld ?_
    case y25 => (intro w hSw; (try dsimp only at hSw); go_simp; try (with_reducible rfl))
    try simp only [Act.put, List.setIfInBounds_toArray, List.set_cons_zero, List.set_cons_succ]
    refine wpAnyH_take (i := 12) (v := ?v26) (by simp only [List.getElem?_toArray, List.getElem?_cons_succ, List.getElem?_cons_zero]; exact rfl) (by kernel_rfl) (by kernel_rfl) (by kernel_rfl) (by intro _ _ _ h; exact h) (Or.inl ⟨by rfl, ?y26⟩) hHeld ?_
    case y26 => (intro w hSw; (try dsimp only at hSw); go_simp; try (with_reducible rfl))
    try simp only [Act.put, List.setIfInBounds_toArray, List.set_cons_zero, List.set_cons_succ]
    refine wpAnyH_take (i := 13) (v := ?v27) (by simp only [List.getElem?_toArray, List.getElem?_cons_succ, List.getElem?_cons_zero]; exact rfl) (by kernel_rfl) (by kernel_rfl) (by kernel_rfl) (by intro _ _ _ h; exact h) (Or.inl ⟨by rfl, ?y27⟩) hHeld ?_
    case y27 => (intro w hSw; (try dsimp only at hSw); go_simp; try (with_reducible rfl))
    try simp only [Act.put, List.setIfInBounds_toArray, List.set_cons_zero, List.set_cons_succ]
    refine wpAnyH_take (i := 16) (v := ?v28) (by simp only [List.getElem?_toArray, List.getElem?_cons_succ, List.getElem?_cons_zero]; exact rfl) (by kernel_rfl) (by kernel_rfl) (by kernel_rfl) (by intro _ _ _ h; exact h) (Or.inl ⟨by rfl, ?y28⟩) hHeld ?_
    case y28 => (intro w hSw; (try dsimp only at hSw); go_simp; try (with_reducible rfl))
    try simp only [Act.put, List.setIfInBounds_toArray, List.set_cons_zero, List.set_cons_succ]
    refine wpAnyH_take (i := 17) (v := ?v29) (by simp only [List.getElem?_toArray, List.getElem?_cons_succ, List.getElem?_cons_zero]; exact rfl) (by kernel_rfl) (by kernel_rfl) (by kernel_rfl) (by intro _ _ _ h; exact h) (Or.inl ⟨by rfl, ?y29⟩) hHeld ?_
    case y29 => (intro w hSw; (try dsimp only at hSw); go_simp; try (with_reducible rfl))
    try simp only [Act.put, List.setIfInBounds_toArray, List.set_cons_zero, List.set_cons_succ]
    refine wpAnyH_ready (rs := [14]) (by kernel_rfl) (by simp) ?_
    refine AllReadyH.cons (by simp only [List.getElem?_toArray, List.getElem?_cons_succ, List.getElem?_cons_zero]; exact rfl) (fun K hK => ?_) AllReadyH.nil
    go_simp
    refine (implFacesOf_any (HG.out wd (h3d.trans (hbw.mono h3d.size))) (HMM.out wd hbw) HMS.out).mono ?_
    rintro e wy ⟨fu2, rfl, hfu2, hb5⟩
    obtain ⟨fa2, fc2, rfl⟩ := hfu2.isSlice
    rw [HFL2.out]
    have hbw := hbw.trans (hb5.mono hbw.size)
    clear hb5 hfu2 e0 e1 e2 e3
    obtain ⟨wd, rfl⟩ : ∃ x, x = wy := ⟨_, rfl⟩
    have e0 := (hbw.cell (cell_lt cgd)).trans cgd
    have e1 := (hbw.cell (cell_lt cxd)).trans cxd
    have e2 := (hbw.cell (cell_lt cmd)).trans cmd
    have e3 := (hbw.cell (cell_lt cbd)).trans cbd
    try dsimp only
    refine hK.out _ _ ?h31 (fun hHeld => ?_)
    case h31 => first | exact ⟨‹_›, ‹_›, ‹_›, ‹_›⟩ | (simp [*, go_sem])
    clear hK K
    try simp only [Act.put, List.setIfInBounds_toArray, List.set_cons_zero, List.set_cons_succ]
    refine wpAnyH_take (i := 15) (v := ?v32) (by simp only [List.getElem?_toArray, List.getElem?_cons_succ, List.getElem?_cons_zero]; exact rfl) (by kernel_rfl) (by kernel_rfl) (by kernel_rfl) (by intro _ _ _ h; exact h) (Or.inl ⟨by rfl, ?y32⟩) hHeld ?_
    case y32 => (intro w hSw; (try dsimp only at hSw); go_simp; try (with_reducible rfl))
    try simp only [Act.put, List.setIfInBounds_toArray, List.set_cons_zero, List.set_cons_succ]
    refine wpAnyH_take (i := 18) (v := ?v33) (by simp only [List.getElem?_toArray, List.getElem?_cons_succ, List.getElem?_cons_zero]; exact rfl) (by kernel_rfl) (by kernel_rfl) (by kernel_rfl) (by intro _ _ _ h; exact h) (Or.inl ⟨by rfl, ?y33⟩) hHeld ?_
    case y33 => (intro w hSw; (try dsimp only at hSw); go_simp; try (with_reducible rfl))
    try simp only [Act.put, List.setIfInBounds_toArray, List.set_cons_zero, List.set_cons_succ]
    refine wpAnyH_take (i := 19) (v := ?v34) (by simp only [List.getElem?_toArray, List.getElem?_cons_succ, List.getElem?_cons_zero]; exact rfl) (by kernel_rfl) (by kernel_rfl) (by kernel_rfl) (by intro _ _ _ h; exact h) (Or.inl ⟨by rfl, ?y34⟩) hHeld ?_
    case y34 => (intro w hSw; (try dsimp only at hSw); go_simp; try (with_reducible rfl))
    try simp only [Act.put, List.setIfInBounds_toArray, List.set_cons_zero, List.set_cons_succ]
    refine wpAnyH_take (i := 20) (v := ?v35) (by simp only [List.getElem?_toArray, List.getElem?_cons_succ, List.getElem?_cons_zero]; exact rfl) (by kernel_rfl) (by kernel_rfl) (by kernel_rfl) (by intro _ _ _ h; exact h) (Or.inl ⟨by rfl, ?y35⟩) hHeld ?_
    case y35 => (intro w hSw; (try dsimp only at hSw); go_simp; try (with_reducible rfl))
    try simp only [Act.put, List.setIfInBounds_toArray, List.set_cons_zero, List.set_cons_succ]
    refine wpAnyH_take (i := 21) (v := ?v36) (by simp only [List.getElem?_toArray, List.getElem?_cons_succ, List.getElem?_cons_zero]; exact rfl) (by kernel_rfl) (by kernel_rfl) (by kernel_rfl) (by intro _ _ _ h; exact h) (Or.inl ⟨by rfl, ?y36⟩) hHeld ?_
    case y36 => (intro w hSw; (try dsimp only at hSw); go_simp; try (with_reducible rfl))
    try simp only [Act.put, List.setIfInBounds_toArray, List.set_cons_zero, List.set_cons_succ]
    refine wpAnyH_take (i := 22) (v := ?v37) (by simp only [List.getElem?_toArray, List.getElem?_cons_succ, List.getElem?_cons_zero]; exact rfl) (by kernel_rfl) (by kernel_rfl) (by kernel_rfl) (by intro _ _ _ h; exact h) (Or.inl ⟨by rfl, ?y37⟩) hHeld ?_
    case y37 => (intro w hSw; (try dsimp only at hSw); go_simp; try (with_reducible rfl))
    try simp only [Act.put, List.setIfInBounds_toArray, List.set_cons_zero, List.set_cons_succ]
    refine wpAnyH_take (i := 24) (v := ?v38) (by simp only [List.getElem?_toArray, List.getElem?_cons_succ, List.getElem?_cons_zero]; exact rfl) (by kernel_rfl) (by kernel_rfl) (by kernel_rfl) (by intro _ _ _ h; exact h) (Or.inl ⟨by rfl, ?y38⟩) hHeld ?_
    case y38 => (intro w hSw; (try dsimp only at hSw); go_simp; try (with_reducible rfl))
    try simp only [Act.put, List.setIfInBounds_toArray, List.set_cons_zero, List.set_cons_succ]
    refine wpAnyH_take (i := 25) (v := ?v39) (by simp only [List.getElem?_toArray, List.getElem?_cons_succ, List.getElem?_cons_zero]; exact rfl) (by kernel_rfl) (by kernel_rfl) (by kernel_rfl) (by intro _ _ _ h; exact h) (Or.inl ⟨by rfl, ?y39⟩) hHeld ?_
    case y39 => (intro w hSw; (try dsimp only at hSw); go_simp; try (with_reducible rfl))
    try simp only [Act.put, List.setIfInBounds_toArray, List.set_cons_zero, List.set_cons_succ]
    refine wpAnyH_ready (rs := [23]) (by kernel_rfl) (by simp) ?_
    refine AllReadyH.cons (by simp only [List.getElem?_toArray, List.getElem?_cons_succ, List.getElem?_cons_zero]; exact rfl) (fun K hK => ?_) AllReadyH.nil
    go_simp
    have hpb := implPlanarBy_any (HT.out wd (hqd.trans (hbw.mono hqd.size))) (HG.out wd (h3d.trans (hbw.mono h3d.size))) (HMM.out wd hbw) HMS.out
    rw [HPL.out] at hpb
    refine hpb.mono ?_
    rintro e wy ⟨rfl, hb5⟩
    have hbw := hbw.trans (hb5.mono hbw.size)
    clear hb5 hpb e0 e1 e2 e3
    obtain ⟨wd, rfl⟩ : ∃ x, x = wy := ⟨_, rfl⟩
    have e0 := (hbw.cell (cell_lt cgd)).trans cgd
    have e1 := (hbw.cell (cell_lt cxd)).trans cxd
    have e2 := (hbw.cell (cell_lt cmd)).trans cmd
    have e3 := (hbw.cell (cell_lt cbd)).trans cbd
    try dsimp only
    refine hK.out _ _ ?h41 (fun hHeld => ?_)
    case h41 => first | exact ⟨‹_›, ‹_›, ‹_›, ‹_›⟩ | (simp [*, go_sem])
    clear hK K
    try simp only [Act.put, List.setIfInBounds_toArray, List.set_cons_zero, List.set_cons_succ]
    refine wpAnyH_ready (rs := [26]) (by kernel_rfl) (by simp) ?_
    refine AllReadyH.cons (by simp only [List.getElem?_toArray, List.getElem?_cons_succ, List.getElem?_cons_zero]; exact rfl) (fun K hK => ?_) AllReadyH.nil
    go_simp
    have hpb := implPlanarBy_any (HT.out wd (hqd.trans (hbw.mono hqd.size))) (HG.out wd (h3d.trans (hbw.mono h3d.size))) (HX.out wd (h3d.trans (hbw.mono h3d.size))) HSR.out
    rw [HPB.out] at hpb
    refine hpb.mono ?_
    rintro e wy ⟨rfl, hb5⟩
    have hbw := hbw.trans (hb5.mono hbw.size)
    clear hb5 hpb e0 e1 e2 e3
    obtain ⟨wd, rfl⟩ : ∃ x, x = wy := ⟨_, rfl⟩
    have e0 := (hbw.cell (cell_lt cgd)).trans cgd
    have e1 := (hbw.cell (cell_lt cxd)).trans cxd
    have e2 := (hbw.cell (cell_lt cmd)).trans cmd
    have e3 := (hbw.cell (cell_lt cbd)).trans cbd
    try dsimp only
    refine hK.out _ _ ?h43 (fun hHeld => ?_)
    case h43 => first | exact ⟨‹_›, ‹_›, ‹_›, ‹_›⟩ | (simp [*, go_sem])
    clear hK K
    try simp only [Act.put, List.setIfInBounds_toArray, List.set_cons_zero, List.set_cons_succ]
    refine wpAnyH_take (i := 27) (v := ?v44) (by simp only [List.getElem?_toArray, List.getElem?_cons_succ, List.getElem?_cons_zero]; exact rfl) (by kernel_rfl) (by kernel_rfl) (by kernel_rfl) (by intro _ _ _ h; exact h) (Or.inl ⟨by rfl, ?y44⟩) hHeld ?_
    case y44 => (intro w hSw; (try dsimp only at hSw); go_simp; try (with_reducible rfl))
    try simp only [Act.put, List.setIfInBounds_toArray, List.set_cons_zero, List.set_cons_succ]
    refine wpAnyH_take (i := 28) (v := ?v45) (by simp only [List.getElem?_toArray, List.getElem?_cons_succ, List.getElem?_cons_zero]; exact rfl) (by kernel_rfl) (by kernel_rfl) (by kernel_rfl) (by intro _ _ _ h; exact h) (Or.inl ⟨by rfl, ?y45⟩) hHeld ?_
    case y45 => (intro w hSw; (try dsimp only at hSw); go_simp; try (with_reducible rfl))
    try simp only [Act.put, List.setIfInBounds_toArray, List.set_cons_zero, List.set_cons_succ]
    refine wpAnyH_take (i := 29) (v := ?v46) (by simp only [List.getElem?_toArray, List.getElem?_cons_succ, List.getElem?_cons_zero]; exact rfl) (by kernel_rfl) (by kernel_rfl) (by kernel_rfl) (by intro _ _ _ h; exact h) (Or.inl ⟨by rfl, ?y46⟩) hHeld ?_
    case y46 => (intro w hSw; (try dsimp only at hSw); go_simp; try (with_reducible rfl))
    try simp only [Act.put, List.setIfInBounds_toArray, List.set_cons_zero, List.set_cons_succ]
    refine wpAnyH_take (i := 30) (v := ?v47) (by simp only [List.getElem?_toArray, List.getElem?_cons_succ, List.getElem?_cons_zero]; exact rfl) (by kernel_rfl) (by kernel_rfl) (by kernel_rfl) (by intro _ _ _ h; exact h) (Or.inl ⟨by rfl, ?y47⟩) hHeld ?_
    case y47 => (intro w hSw; (try dsimp only at hSw); go_simp; try (with_reducible rfl))
    try simp only [Act.put, List.setIfInBounds_toArray, List.set_cons_zero, List.set_cons_succ]
    refine wpAnyH_take (i := 31) (v := ?v48) (by simp only [List.getElem?_toArray, List.getElem?_cons_succ, List.getElem?_cons_zero]; exact rfl) (by kernel_rfl) (by kernel_rfl) (by kernel_rfl) (by intro _ _ _ h; exact h) (Or.inl ⟨by rfl, ?y48⟩) hHeld ?_
    case y48 => (intro w hSw; (try dsimp only at hSw); go_simp; try (with_reducible rfl))
    try simp only [Act.put, List.setIfInBounds_toArray, List.set_cons_zero, List.set_cons_succ]
    refine wpAnyH_take (i := 32) (v := ?v49) (by simp only [List.getElem?_toArray, List.getElem?_cons_succ, List.getElem?_cons_zero]; exact rfl) (by kernel_rfl) (by kernel_rfl) (by kernel_rfl) (by intro _ _ _ h; exact h) (Or.inl ⟨by rfl, ?y49⟩) hHeld ?_
    case y49 => (intro w hSw; (try dsimp only at hSw); go_simp; try (with_reducible rfl))
    try simp only [Act.put, List.setIfInBounds_toArray, List.set_cons_zero, List.set_cons_succ]
    refine wpAnyH_take (i := 33) (v := ?v50) (by simp only [List.getElem?_toArray, List.getElem?_cons_succ, List.getElem?_cons_zero]; exact rfl) (by kernel_rfl) (by kernel_rfl) (by kernel_rfl) (by intro _ _ _ h; exact h) (Or.inl ⟨by rfl, ?y50⟩) hHeld ?_
    case y50 => (intro w hSw; (try dsimp only at hSw); go_simp; try (with_reducible rfl))
    try simp only [Act.put, List.setIfInBounds_toArray, List.set_cons_zero, List.set_cons_succ]
    refine wpAnyH_take (i := 34) (v := ?v51) (by simp only [List.getElem?_toArray, List.getElem?_cons_succ, List.getElem?_cons_zero]; exact rfl) (by kernel_rfl) (by kernel_rfl) (by kernel_rfl) (by intro _ _ _ h; exact h) (Or.inl ⟨by rfl, ?y51⟩) hHeld ?_
    case y51 => (intro w hSw; (try dsimp only at hSw); go_simp; try (with_reducible rfl))
    try simp only [Act.put, List.setIfInBounds_toArray, List.set_cons_zero, List.set_cons_succ]
    refine wpAnyH_take (i := 35) (v := ?v52) (by simp only [List.getElem?_toArray, List.getElem?_cons_succ, List.getElem?_cons_zero]; exact rfl) (by kernel_rfl) (by kernel_rfl) (by kernel_rfl) (by intro _ _ _ h; exact h) (Or.inl ⟨by rfl, ?y52⟩) hHeld ?_
    case y52 => (intro w hSw; (try dsimp only at hSw); go_simp; try (with_reducible rfl))
    try simp only [Act.put, List.setIfInBounds_toArray, List.set_cons_zero, List.set_cons_succ]
    refine wpAnyH_take (i := 36) (v := ?v53) (by simp only [List.getElem?_toArray, List.getElem?_cons_succ, List.getElem?_cons_zero]; exact rfl) (by kernel_rfl) (by kernel_rfl) (by kernel_rfl) (by intro _ _ _ h; exact h) (Or.inl ⟨by rfl, ?y53⟩) hHeld ?_
    case y53 => (intro w hSw; (try dsimp only at hSw); go_simp; try (with_reducible rfl))
    try simp only [Act.put, List.setIfInBounds_toArray, List.set_cons_zero, List.set_cons_succ]
    refine wpAnyH_take (i := 37) (v := ?v54) (by simp only [List.getElem?_toArray, List.getElem?_cons_succ, List.getElem?_cons_zero]; exact rfl) (by kernel_rfl) (by kernel_rfl) (by kernel_rfl) (by intro _ _ _ h; exact h) (Or.inl ⟨by rfl, ?y54⟩) hHeld ?_
    case y54 => (intro w hSw; (try dsimp only at hSw); go_simp; try (with_reducible rfl))
    try simp only [Act.put, List.setIfInBounds_toArray, List.set_cons_zero, List.set_cons_succ]
    refine wpAnyH_done (by kernel_rfl) ?_ _
    clear hHeld
    have hXr := HX.out wd (h3d.trans (hbw.mono h3d.size))
    have hBr := hBd.below hbw (Nat.le_refl _)
    obtain ⟨x1, xo, rfl, hXc⟩ := hXr.cellsL hr0
    obtain ⟨b1, bo, rfl, hBc⟩ := hBr.cellsL hr0
    have hqw := hqd.trans (hbw.mono hqd.size)
    clear hXr hBr hBd hMd hMM cgd cxd cmd cbd hN1 hN2 hN3 hN4 hN5 hN6 hW2 e0 e2
    go_wp2
    go_loopw [12] (fun iv wr => ∃ i : Nat, i ≤ r.length ∧ iv = .int .i64 (i : Int) ∧ Below wd.heap.size wd wr) (fun iv _ => r.length - (RowKit.intOf iv).toNat)
    case atStart => exact ⟨0, Nat.zero_le _, rfl, Below.refl _ _⟩
    case round =>
      obtain ⟨k, hk, rfl, hbk⟩ := hrel
      obtain ⟨wf, rfl⟩ : ∃ x : World, x = wr := ⟨_, rfl⟩
      have e1 := (hbk.cell (cell_lt e1)).trans e1
      have e3 := (hbk.cell (cell_lt e3)).trans e3
      by_cases hkr : k < r.length
      case neg =>
        have hiD : decide ((k : Int) < (r.length : Int)) = false := decide_eq_false (by omega)
        have hiD2 : decide (k < r.length) = false := decide_eq_false hkr
        go_wp2
        go_ret
        exact ⟨rfl, hqw.trans (hbk.mono hqw.size)⟩
      obtain ⟨ra, rc, d1, r1⟩ := hBc k hkr wf hbk
      obtain ⟨ra2, rc2, d2, r2⟩ := hXc k hkr wf hbk
      have hlk := fun (W : World) (hd : Drawn wf W) => likeInts_any (r1.drawn hd) (r2.drawn hd)
      rw [decide_eq_true rfl] at hlk
      generalize r[k].length = m at *
      have hiI : (k : Int) < (r.length : Int) := by omega
      have hiD : decide ((k : Int) < (r.length : Int)) = true := decide_eq_true hiI
      have hiD2 : decide (k < r.length) = true := decide_eq_true hkr
      clear r1 r2 hXc hBc
      go_wp2
      refine wp_region_held_drew (S := (fun w' => w'.cell? ⟨bb, 0, none⟩ = some (.slice (some ⟨b1, bo, none⟩) r.length bc) ∧ w'.cell? ⟨gb + 1, 0, none⟩ = some (.slice (some ⟨x1, xo, none⟩) r.length xc) ∧ w'.cell? ⟨b1, bo + k, none⟩ = some (.slice ra m rc) ∧ w'.cell? ⟨x1, xo + k, none⟩ = some (.slice ra2 m rc2))) (by kernel_rfl) ?_ (fun hHeld => ?_)
      · first | exact ⟨‹_›, ‹_›, ‹_›, ‹_›⟩ | (simp [*, go_sem])
      have hdw : Drawn wf wf.drew := (Drawn.refl _).drew
      generalize wf.drew = wg at hdw hHeld ⊢
      refine wpAnyH_take (i := 0) (v := ?v55) (by simp only [List.getElem?_toArray, List.getElem?_cons_zero]; exact rfl) (by kernel_rfl) (by kernel_rfl) (by kernel_rfl) (by intro _ _ _ h; exact h) (Or.inl ⟨by rfl, ?y55⟩) hHeld ?_
      case y55 => (intro w hSw; (try dsimp only at hSw); go_simp; try (with_reducible rfl))
      try simp only [Act.put, List.setIfInBounds_toArray, List.set_cons_zero, List.set_cons_succ]
      refine wpAnyH_take (i := 1) (v := ?v56) (by simp only [List.getElem?_toArray, List.getElem?_cons_succ, List.getElem?_cons_zero]; exact rfl) (by kernel_rfl) (by kernel_rfl) (by kernel_rfl) (by intro _ _ _ h; exact h) (Or.inl ⟨by rfl, ?y56⟩) hHeld ?_
      case y56 => (intro w hSw; (try dsimp only at hSw); go_simp; try (with_reducible rfl))
      try simp only [Act.put, List.setIfInBounds_toArray, List.set_cons_zero, List.set_cons_succ]
      refine wpAnyH_take (i := 2) (v := ?v57) (by simp only [List.getElem?_toArray, List.getElem?_cons_succ, List.getElem?_cons_zero]; exact rfl) (by kernel_rfl) (by kernel_rfl) (by kernel_rfl) (by intro _ _ _ h; exact h) (Or.inl ⟨by rfl, ?y57⟩) hHeld ?_
      case y57 => (intro w hSw; (try dsimp only at hSw); go_simp; try (with_reducible rfl))
      try simp only [Act.put, List.setIfInBounds_toArray, List.set_cons_zero, List.set_cons_succ]
      refine wpAnyH_take (i := 3) (v := ?v58) (by simp only [List.getElem?_toArray, List.getElem?_cons_succ, List.getElem?_cons_zero]; exact rfl) (by kernel_rfl) (by kernel_rfl) (by kernel_rfl) (by intro _ _ _ h; exact h) (Or.inl ⟨by rfl, ?y58⟩) hHeld ?_
      case y58 => (intro w hSw; (try dsimp only at hSw); go_simp; try (with_reducible rfl))
      try simp only [Act.put, List.setIfInBounds_toArray, List.set_cons_zero, List.set_cons_succ]
      refine wpAnyH_take (i := 4) (v := ?v59) (by simp only [List.getElem?_toArray, List.getElem?_cons_succ, List.getElem?_cons_zero]; exact rfl) (by kernel_rfl) (by kernel_rfl) (by kernel_rfl) (by intro _ _ _ h; exact h) (Or.inl ⟨by rfl, ?y59⟩) hHeld ?_
      case y59 => (intro w hSw; (try dsimp only at hSw); go_simp; try (with_reducible rfl))
      try simp only [Act.put, List.setIfInBounds_toArray, List.set_cons_zero, List.set_cons_succ]
      refine wpAnyH_take (i := 5) (v := ?v60) (by simp only [List.getElem?_toArray, List.getElem?_cons_succ, List.getElem?_cons_zero]; exact rfl) (by kernel_rfl) (by kernel_rfl) (by kernel_rfl) (by intro _ _ _ h; exact h) (Or.inl ⟨by rfl, ?y60⟩) hHeld ?_
      case y60 => (intro w hSw; (try dsimp only at hSw); go_simp; try (with_reducible rfl))
      try simp only [Act.put, List.setIfInBounds_toArray, List.set_cons_zero, List.set_cons_succ]
      refine wpAnyH_take (i := 6) (v := ?v61) (by simp only [List.getElem?_toArray, List.getElem?_cons_succ, List.getElem?_cons_zero]; exact rfl) (by kernel_rfl) (by kernel_rfl) (by kernel_rfl) (by intro _ _ _ h; exact h) (Or.inl ⟨by rfl, ?y61⟩) hHeld ?_
      case y61 => (intro w hSw; (try dsimp only at hSw); go_simp; try (with_reducible rfl))
      try simp only [Act.put, List.setIfInBounds_toArray, List.set_cons_zero, List.set_cons_succ]
      refine wpAnyH_take (i := 7) (v := ?v62) (by simp only [List.getElem?_toArray, List.getElem?_cons_succ, List.getElem?_cons_zero]; exact rfl) (by kernel_rfl) (by kernel_rfl) (by kernel_rfl) (by intro _ _ _ h; exact h) (Or.inl ⟨by rfl, ?y62⟩) hHeld ?_
      case y62 => (intro w hSw; (try dsimp only at hSw); go_simp; try (with_reducible rfl))
      try simp only [Act.put, List.setIfInBounds_toArray, List.set_cons_zero, List.set_cons_succ]
      refine wpAnyH_take (i := 8) (v := ?v63) (by simp only [List.getElem?_toArray, List.getElem?_cons_succ, List.getElem?_cons_zero]; exact rfl) (by kernel_rfl) (by kernel_rfl) (by kernel_rfl) (by intro _ _ _ h; exact h) (Or.inl ⟨by rfl, ?y63⟩) hHeld ?_
      case y63 => (intro w hSw; (try dsimp only at hSw); go_simp; try (with_reducible rfl))
      try simp only [Act.put, List.setIfInBounds_toArray, List.set_cons_zero, List.set_cons_succ]
      refine wpAnyH_take (i := 9) (v := ?v64) (by simp only [List.getElem?_toArray, List.getElem?_cons_succ, List.getElem?_cons_zero]; exact rfl) (by kernel_rfl) (by kernel_rfl) (by kernel_rfl) (by intro _ _ _ h; exact h) (Or.inl ⟨by rfl, ?y64⟩) hHeld ?_
      case y64 => (intro w hSw; (try dsimp only at hSw); go_simp; try (with_reducible rfl))
      try simp only [Act.put, List.setIfInBounds_toArray, List.set_cons_zero, List.set_cons_succ]
      refine wpAnyH_ready (rs := [10]) (by kernel_rfl) (by simp) ?_
      refine AllReadyH.cons (by simp only [List.getElem?_toArray, List.getElem?_cons_succ, List.getElem?_cons_zero]; exact rfl) (fun K hK => ?_) AllReadyH.nil
      go_simp
      refine (hlk wg hdw).mono ?_
      rintro e wy ⟨rfl, hd5⟩
      replace hHeld := And.intro ((hd5.cell _).trans hHeld.1) (And.intro ((hd5.cell _).trans hHeld.2.1) (And.intro ((hd5.cell _).trans hHeld.2.2.1) ((hd5.cell _).trans hHeld.2.2.2)))
      have hdw := hdw.trans hd5
      try dsimp only
      refine hK.out _ _ ?h66 (fun hHeld => ?_)
      case h66 => first | exact ⟨‹_›, ‹_›, ‹_›, ‹_›⟩ | (simp [*, go_sem])
      clear hK K
      try simp only [Act.put, List.setIfInBounds_toArray, List.set_cons_zero, List.set_cons_succ]
      refine wpAnyH_take (i := 11) (v := ?v67) (by simp only [List.getElem?_toArray, List.getElem?_cons_succ, List.getElem?_cons_zero]; exact rfl) (by kernel_rfl) (by kernel_rfl) (by kernel_rfl) (by intro _ _ _ h; exact h) (Or.inl ⟨by rfl, ?y67⟩) hHeld ?_
      case y67 => (intro w hSw; (try dsimp only at hSw); go_simp; try (with_reducible rfl))
      try simp only [Act.put, List.setIfInBounds_toArray, List.set_cons_zero, List.set_cons_succ]
      refine wpAnyH_done (by kernel_rfl) ?_ _
      go_wp2
      go_roundw
      case rel => exact ⟨k + 1, by omega, by go_num, hbk.trans ((hdw.below wf.heap.size).mono hbk.size)⟩
      case measure => (simp [RowKit.intOf] <;> omega)
end Go.Proofs.YtdbanndcdbikmaaGreatDoor
