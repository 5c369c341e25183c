/- TurnedTree of the reference. -/
import Derived.Test.YtfccpencgengaaaDoorTurn5
namespace Go.Proofs.YtfccpencgengaaaDoor
open Go.RowKit
set_option maxRecDepth 100000 in
set_option maxHeartbeats 8000000 in
theorem specTurnedTree_any {S : Nat → Prop} {v : Value} {t : List PNode} {w : World} (hv : SlP S w v t) (hs : SmallP t 1048576) :
    Calls Tryd.prog 38 #[v] w fun e w' => ∃ u0, e = .returned u0 ∧ OwnP w' w.heap.size w'.heap.size 106 2 u0 (turnL t) ∧ Below w.heap.size w w' := by
  have hgl : t.length ≤ 1048576 := by have := hs.1; omega
  have hq0 : Below w.heap.size w (w.alloc (.cells #[] 106)) := (Below.refl _ _).alloc (Nat.le_refl _) _
  have hco := specCoTreeOk_any (hv.below hq0 (Nat.le_refl _)) hgl
  obtain ⟨a, b, off, cap, f, rfl, hl, ha, hc0⟩ := hv
  have ho0 : Own (w.alloc (.cells #[] 106)) w.heap.size 106 3 (.slice (some ⟨w.heap.size, 0, none⟩) 0 0) 0 [] := by
    have := World.ownsRow_lit (base := w.heap.size) (e := 106) (size := 3) w #[] 0 (Nat.le_refl _) (by unfold maxLen; omega) rfl
    simpa [Own] using this
  have hP0 : OwnP (w.alloc (.cells #[] 106)) w.heap.size (w.alloc (.cells #[] 106)).heap.size 106 2 (.slice (some ⟨w.heap.size, 0, none⟩) 0 0) [] := ⟨[], [], CellsP.nil, ho0, fun b hb => (ho0.lt b hb).2, ApartL.nil, fun i hi => by simp at hi⟩
  have HC := Lib.hid hc0
  clear hc0 ho0
  by_cases hg : coB t = true
  case neg =>
    have hg' : coB t = false := by simpa using hg
    rw [hg'] at hco
    have HE := Lib.hid (show turnL t = [] by simp [turnL, hg'])
    clear hg hg'
    go_enter Tryd.func38, Tryd.ntmps38
    go_wp2_with fail
    refine hco.mono ?_
    rintro e w1 ⟨rfl, hb1⟩
    have hP1 := (hP0.below hb1 (Nat.le_refl _)).weak (Nat.le_refl _) hb1.size
    have hq1 := hq0.trans (hb1.mono hq0.size)
    go_wp2
    go_ret
    exact ⟨_, rfl, by rw [HE.out]; exact hP1, hq1⟩
  rw [hg] at hco
  have HE := Lib.hid (show turnL t = t.map turnP by simp [turnL, hg])
  have HG := Lib.hid (coB_iff.1 hg)
  clear hg
  go_enter Tryd.func38, Tryd.ntmps38
  go_wp2_with fail
  refine hco.mono ?_
  rintro e w1 ⟨rfl, hb1⟩
  have hP1 : OwnP w1 w.heap.size w1.heap.size 106 2 (.slice (some ⟨w.heap.size, 0, none⟩) 0 0) ((t.take 0).map turnP) := (hP0.below hb1 (Nat.le_refl _)).weak (Nat.le_refl _) hb1.size
  have hq1 := hq0.trans (hb1.mono hq0.size)
  clear hco hP0 hq0 hb1
  go_wp2
  go_loopw [3, 4] (fun o i wr => ∃ (k gb gc : Nat), k ≤ t.length ∧ i = .int .i64 k ∧ o = .slice (some ⟨gb, 0, none⟩) k gc ∧ OwnP wr w.heap.size wr.heap.size 106 2 (.slice (some ⟨gb, 0, none⟩) k gc) ((t.take k).map turnP) ∧ Below w.heap.size w wr) (fun _ i _ => t.length - (intOf i).toNat)
  case atStart => exact ⟨0, w.heap.size, 0, Nat.zero_le _, rfl, rfl, hP1, hq1⟩
  case round =>
    clear hP1 hq1
    obtain ⟨k, gb, gc, hk, rfl, rfl, hP, hq⟩ := hrel
    by_cases hlt : k < t.length
    case neg =>
      obtain rfl : k = t.length := by omega
      rw [List.take_length] at hP
      go_wp2
      go_ret
      exact ⟨_, rfl, by rw [HE.out]; exact hP, hq⟩
    obtain ⟨c1, c2, c3, hrow⟩ := (HC.out.below hq (Nat.le_refl _)) k hlt
    obtain ⟨rfl, -⟩ := ha (by omega)
    have hsm : t[k].kids.length ≤ 1048576 := by have := hs.2 k hlt hlt; omega
    have hkg := good_kind HG.out hlt
    have HTK := Lib.hid (show (t.take (k + 1)).map turnP = (t.take k).map turnP ++ [turnP t[k]] by rw [List.take_succ_eq_append_getElem hlt, List.map_append]; rfl)
    have htl : ((t.take k).map turnP).length = k := by simp; omega
    have HTL := Lib.hid htl
    obtain ⟨fa, fc, hfe⟩ := hrow.slice
    rw [hfe] at c3 hrow
    generalize t[k] = p at *
    obtain ⟨pk, px, pl⟩ := p
    simp only at c1 c2 c3 hrow hsm hfe hkg
    clear htl hfe
    have hbr : b < wr.heap.size := cell_lt c1
    go_wp2
    apply meet4 (H := fun (nb : Nat) (wn : World) (ua : Option Addr) (uc : Nat) => Below wr.heap.size wr wn ∧ wr.heap.size ≤ nb ∧ nb < wn.heap.size ∧ wn.cell? ⟨nb, 0, none⟩ = some (.int .i64 pk) ∧ wn.cell? ⟨nb, 1, none⟩ = some (.int .i64 px) ∧ wn.cell? ⟨nb, 2, none⟩ = some (.slice ua pl.length uc) ∧ wn.frozen? ⟨nb, 0, none⟩ = false ∧ Own wn wr.heap.size 2 1 (.slice ua pl.length uc) pl.length (pl.map (.int .i64)) ∧ (∀ c, (Value.slice ua pl.length uc).ownBlock = some c → c ≠ nb))
    case orders =>
      intro rest
      refine wp_region_held_drew (S := (fun w' => w'.cell? ⟨b, off + k * 3, none⟩ = some (.int .i64 pk) ∧ w'.cell? ⟨b, off + k * 3 + 1, none⟩ = some (.int .i64 px) ∧ w'.cell? ⟨b, off + k * 3 + 2, none⟩ = some (.slice fa pl.length fc))) (by kernel_rfl) ?_ (fun hHeld => ?_)
      · first | exact ⟨c1, c2, c3⟩ | exact ⟨h1, h2, h3⟩
      have hd : Below wr.heap.size wr wr.drew := (Below.refl _ _).drew
      generalize wr.drew = wd at hd hHeld ⊢
      obtain ⟨c1, c2, c3⟩ := hHeld
      have hHeld : (fun w' => w'.cell? ⟨b, off + k * 3, none⟩ = some (.int .i64 pk) ∧ w'.cell? ⟨b, off + k * 3 + 1, none⟩ = some (.int .i64 px) ∧ w'.cell? ⟨b, off + k * 3 + 2, none⟩ = some (.slice fa pl.length fc)) wd := ⟨c1, c2, c3⟩
      refine wpAnyH_take (i := 0) (v := ?v1) (by simp only [List.getElem?_toArray, List.getElem?_cons_zero]; exact rfl) (by kernel_rfl) (by kernel_rfl) (by kernel_rfl) (by intro _ _ _ h; exact h) (Or.inl ⟨by rfl, ?y1⟩) hHeld ?_
      case y1 => (intro w hSw; (try dsimp only at hSw); go_simp; try (with_reducible rfl))
      try simp only [Act.put, List.setIfInBounds_toArray, List.set_cons_zero, List.set_cons_succ]
      refine wpAnyH_take (i := 1) (v := ?v2) (by simp only [List.getElem?_toArray, List.getElem?_cons_succ, List.getElem?_cons_zero]; exact rfl) (by kernel_rfl) (by kernel_rfl) (by kernel_rfl) (by intro _ _ _ h; exact h) (Or.inl ⟨by rfl, ?y2⟩) hHeld ?_
      case y2 => (intro w hSw; (try dsimp only at hSw); go_simp; try (with_reducible rfl))
      try simp only [Act.put, List.setIfInBounds_toArray, List.set_cons_zero, List.set_cons_succ]
      refine wpAnyH_take (i := 2) (v := ?v3) (by simp only [List.getElem?_toArray, List.getElem?_cons_succ, List.getElem?_cons_zero]; exact rfl) (by kernel_rfl) (by kernel_rfl) (by kernel_rfl) (by intro _ _ _ h; exact h) (Or.inl ⟨by rfl, ?y3⟩) hHeld ?_
      case y3 => (intro w hSw; (try dsimp only at hSw); go_simp; try (with_reducible rfl))
      try simp only [Act.put, List.setIfInBounds_toArray, List.set_cons_zero, List.set_cons_succ]
      refine wpAnyH_take (i := 3) (v := ?v4) (by simp only [List.getElem?_toArray, List.getElem?_cons_succ, List.getElem?_cons_zero]; exact rfl) (by kernel_rfl) (by kernel_rfl) (by kernel_rfl) (by intro _ _ _ h; exact h) (Or.inl ⟨by rfl, ?y4⟩) hHeld ?_
      case y4 => (intro w hSw; (try dsimp only at hSw); go_simp; try (with_reducible rfl))
      try simp only [Act.put, List.setIfInBounds_toArray, List.set_cons_zero, List.set_cons_succ]
      refine wpAnyH_take (i := 4) (v := ?v5) (by simp only [List.getElem?_toArray, List.getElem?_cons_succ, List.getElem?_cons_zero]; exact rfl) (by kernel_rfl) (by kernel_rfl) (by kernel_rfl) (by intro _ _ _ h; exact h) (Or.inl ⟨by rfl, ?y5⟩) hHeld ?_
      case y5 => (intro w hSw; (try dsimp only at hSw); go_simp; try (with_reducible rfl))
      try simp only [Act.put, List.setIfInBounds_toArray, List.set_cons_zero, List.set_cons_succ]
      refine wpAnyH_take (i := 5) (v := ?v6) (by simp only [List.getElem?_toArray, List.getElem?_cons_succ, List.getElem?_cons_zero]; exact rfl) (by kernel_rfl) (by kernel_rfl) (by kernel_rfl) (by intro _ _ _ h; exact h) (Or.inl ⟨by rfl, ?y6⟩) hHeld ?_
      case y6 => (intro w hSw; (try dsimp only at hSw); go_simp; try (with_reducible rfl))
      try simp only [Act.put, List.setIfInBounds_toArray, List.set_cons_zero, List.set_cons_succ]
      refine wpAnyH_take (i := 6) (v := ?v7) (by simp only [List.getElem?_toArray, List.getElem?_cons_succ, List.getElem?_cons_zero]; exact rfl) (by kernel_rfl) (by kernel_rfl) (by kernel_rfl) (by intro _ _ _ h; exact h) (Or.inl ⟨by rfl, ?y7⟩) hHeld ?_
      case y7 => (intro w hSw; (try dsimp only at hSw); go_simp; try (with_reducible rfl))
      try simp only [Act.put, List.setIfInBounds_toArray, List.set_cons_zero, List.set_cons_succ]
      refine wpAnyH_take (i := 7) (v := ?v8) (by simp only [List.getElem?_toArray, List.getElem?_cons_succ, List.getElem?_cons_zero]; exact rfl) (by kernel_rfl) (by kernel_rfl) (by kernel_rfl) (by intro _ _ _ h; exact h) (Or.inl ⟨by rfl, ?y8⟩) hHeld ?_
      case y8 => (intro w hSw; (try dsimp only at hSw); go_simp; try (with_reducible rfl))
      try simp only [Act.put, List.setIfInBounds_toArray, List.set_cons_zero, List.set_cons_succ]
      refine wpAnyH_take (i := 8) (v := ?v9) (by simp only [List.getElem?_toArray, List.getElem?_cons_succ, List.getElem?_cons_zero]; exact rfl) (by kernel_rfl) (by kernel_rfl) (by kernel_rfl) (by intro _ _ _ h; exact h) (Or.inl ⟨by rfl, ?y9⟩) hHeld ?_
      case y9 => (intro w hSw; (try dsimp only at hSw); go_simp; try (with_reducible rfl))
      try simp only [Act.put, List.setIfInBounds_toArray, List.set_cons_zero, List.set_cons_succ]
      refine wpAnyH_take (i := 9) (v := ?v10) (by simp only [List.getElem?_toArray, List.getElem?_cons_succ, List.getElem?_cons_zero]; exact rfl) (by kernel_rfl) (by kernel_rfl) (by kernel_rfl) (by intro _ _ _ h; exact h) (Or.inl ⟨by rfl, ?y10⟩) hHeld ?_
      case y10 => (intro w hSw; (try dsimp only at hSw); go_simp; try (with_reducible rfl))
      try simp only [Act.put, List.setIfInBounds_toArray, List.set_cons_zero, List.set_cons_succ]
      refine wpAnyH_take (i := 10) (v := ?v11) (by simp only [List.getElem?_toArray, List.getElem?_cons_succ, List.getElem?_cons_zero]; exact rfl) (by kernel_rfl) (by kernel_rfl) (by kernel_rfl) (by intro _ _ _ h; exact h) (Or.inl ⟨by rfl, ?y11⟩) hHeld ?_
      case y11 => (intro w hSw; (try dsimp only at hSw); go_simp; try (with_reducible rfl))
      try simp only [Act.put, List.setIfInBounds_toArray, List.set_cons_zero, List.set_cons_succ]
      refine wpAnyH_take (i := 11) (v := ?v12) (by simp only [List.getElem?_toArray, List.getElem?_cons_succ, List.getElem?_cons_zero]; exact rfl) (by kernel_rfl) (by kernel_rfl) (by kernel_rfl) (by intro _ _ _ h; exact h) (Or.inl ⟨by rfl, ?y12⟩) hHeld ?_
      case y12 => (intro w hSw; (try dsimp only at hSw); go_simp; try (with_reducible rfl))
      try simp only [Act.put, List.setIfInBounds_toArray, List.set_cons_zero, List.set_cons_succ]
      refine wpAnyH_take (i := 12) (v := ?v13) (by simp only [List.getElem?_toArray, List.getElem?_cons_succ, List.getElem?_cons_zero]; exact rfl) (by kernel_rfl) (by kernel_rfl) (by kernel_rfl) (by intro _ _ _ h; exact h) (Or.inl ⟨by rfl, ?y13⟩) hHeld ?_
      case y13 => (intro w hSw; (try dsimp only at hSw); go_simp; try (with_reducible rfl))
      try simp only [Act.put, List.setIfInBounds_toArray, List.set_cons_zero, List.set_cons_succ]
      refine wpAnyH_take (i := 13) (v := ?v14) (by simp only [List.getElem?_toArray, List.getElem?_cons_succ, List.getElem?_cons_zero]; exact rfl) (by kernel_rfl) (by kernel_rfl) (by kernel_rfl) (by intro _ _ _ h; exact h) (Or.inl ⟨by rfl, ?y14⟩) hHeld ?_
      case y14 => (intro w hSw; (try dsimp only at hSw); go_simp; try (with_reducible rfl))
      try simp only [Act.put, List.setIfInBounds_toArray, List.set_cons_zero, List.set_cons_succ]
      refine wpAnyH_take (i := 14) (v := ?v15) (by simp only [List.getElem?_toArray, List.getElem?_cons_succ, List.getElem?_cons_zero]; exact rfl) (by kernel_rfl) (by kernel_rfl) (by kernel_rfl) (by intro _ _ _ h; exact h) (Or.inl ⟨by rfl, ?y15⟩) hHeld ?_
      case y15 => (intro w hSw; (try dsimp only at hSw); go_simp; try (with_reducible rfl))
      try simp only [Act.put, List.setIfInBounds_toArray, List.set_cons_zero, List.set_cons_succ]
      refine wpAnyH_ready (rs := [15, 17]) (by kernel_rfl) (by simp) ?_
      refine (AllReadyH.cons (by simp only [List.getElem?_toArray, List.getElem?_cons_succ, List.getElem?_cons_zero]; exact rfl) (fun K hK => ?b16_15) (AllReadyH.cons (by simp only [List.getElem?_toArray, List.getElem?_cons_succ, List.getElem?_cons_zero]; exact rfl) (fun K hK => ?b16_17) AllReadyH.nil))
      case b16_15 =>
        go_simp
        refine (l1Copy_any _ _ _ (hrow.below hd (Nat.le_refl _)) hsm).mono ?_
        rintro e wn ⟨ux, rfl, hux, hbn⟩
        obtain ⟨ua, uc, rfl⟩ := hux.isSlice
        try (have hne := fun (c : Nat) (hc : (Value.slice ua pl.length uc).ownBlock = some c) => (Nat.ne_of_gt (Nat.lt_of_lt_of_le hnl (hux.lt c hc).1)))
        have hux := hux.weak hd.size
        try (have n0 := (hbn.cell (cell_lt n0)).trans n0)
        try (have g0 := (hbn.frozen (p := ⟨nb, 0, none⟩) hnl).trans g0)
        try (have n1 := (hbn.cell (cell_lt n1)).trans n1)
        try (have g1 := (hbn.frozen (p := ⟨nb, 1, none⟩) hnl).trans g1)
        try (have n2 := (hbn.cell (cell_lt n2)).trans n2)
        try (have g2 := (hbn.frozen (p := ⟨nb, 2, none⟩) hnl).trans g2)
        try (have hnl := Nat.lt_of_lt_of_le hnl hbn.size)
        have c1 := (hbn.cell (cell_lt c1)).trans c1
        have c2 := (hbn.cell (cell_lt c2)).trans c2
        have c3 := (hbn.cell (cell_lt c3)).trans c3
        have hd := hd.trans (hbn.mono hd.size)
        obtain ⟨wd, rfl⟩ : ∃ wx : World, wx = wn := ⟨_, rfl⟩
        try dsimp only
        refine hK.out _ _ ?h17 (fun hHeld => ?_)
        case h17 => first | exact ⟨c1, c2, c3⟩ | exact ⟨h1, h2, h3⟩
        clear hK K
        try simp only [Act.put, List.setIfInBounds_toArray, List.set_cons_zero, List.set_cons_succ]
        refine wpAnyH_take (i := 16) (v := ?v18) (by simp only [List.getElem?_toArray, List.getElem?_cons_succ, List.getElem?_cons_zero]; exact rfl) (by kernel_rfl) (by kernel_rfl) (by kernel_rfl) (by intro _ _ _ h; exact h) (Or.inl ⟨by rfl, ?y18⟩) hHeld ?_
        case y18 => (intro w hSw; (try dsimp only at hSw); go_simp; try (with_reducible rfl))
        try simp only [Act.put, List.setIfInBounds_toArray, List.set_cons_zero, List.set_cons_succ]
        refine wpAnyH_ready (rs := [17]) (by kernel_rfl) (by simp) ?_
        refine AllReadyH.cons (by simp only [List.getElem?_toArray, List.getElem?_cons_succ, List.getElem?_cons_zero]; exact rfl) (fun K hK => ?_) AllReadyH.nil
        go_simp
        have hbn : Below wd.heap.size wd (wd.alloc (.cells #[.int .i64 0, .int .i64 0, .slice none 0 0] 106)) := (Below.refl _ _).alloc (Nat.le_refl _) _
        have n0 : (wd.alloc (.cells #[.int .i64 0, .int .i64 0, .slice none 0 0] 106)).cell? ⟨wd.heap.size, 0, none⟩ = some (.int .i64 0) := (by simp [go_sem])
        have g0 : (wd.alloc (.cells #[.int .i64 0, .int .i64 0, .slice none 0 0] 106)).frozen? ⟨wd.heap.size, 0, none⟩ = false := (by simp [go_sem])
        have n1 : (wd.alloc (.cells #[.int .i64 0, .int .i64 0, .slice none 0 0] 106)).cell? ⟨wd.heap.size, 1, none⟩ = some (.int .i64 0) := (by simp [go_sem])
        have g1 : (wd.alloc (.cells #[.int .i64 0, .int .i64 0, .slice none 0 0] 106)).frozen? ⟨wd.heap.size, 1, none⟩ = false := (by simp [go_sem])
        have n2 : (wd.alloc (.cells #[.int .i64 0, .int .i64 0, .slice none 0 0] 106)).cell? ⟨wd.heap.size, 2, none⟩ = some (.slice none 0 0) := (by simp [go_sem])
        have g2 : (wd.alloc (.cells #[.int .i64 0, .int .i64 0, .slice none 0 0] 106)).frozen? ⟨wd.heap.size, 2, none⟩ = false := (by simp [go_sem])
        have hnl : wd.heap.size < (wd.alloc (.cells #[.int .i64 0, .int .i64 0, .slice none 0 0] 106)).heap.size := (by simp)
        have hnb : wr.heap.size ≤ wd.heap.size := hd.size
        try (have hne := fun (c : Nat) (hc : (Value.slice ua pl.length uc).ownBlock = some c) => Nat.ne_of_lt (hux.lt c hc).2)
        try (have hux := hux.below hbn (Nat.le_refl _))
        have c1 := (hbn.cell (cell_lt c1)).trans c1
        have c2 := (hbn.cell (cell_lt c2)).trans c2
        have c3 := (hbn.cell (cell_lt c3)).trans c3
        have hd := hd.trans (hbn.mono hd.size)
        generalize (wd.alloc (.cells #[.int .i64 0, .int .i64 0, .slice none 0 0] 106)) = wn at *
        first | (generalize wd.heap.size = nb at n0 n1 n2 g0 g1 g2 hnl hnb hne ⊢) | (generalize wd.heap.size = nb at n0 n1 n2 g0 g1 g2 hnl hnb ⊢)
        obtain ⟨wd, rfl⟩ : ∃ wx : World, wx = wn := ⟨_, rfl⟩
        try dsimp only
        refine hK.out _ _ ?h20 (fun hHeld => ?_)
        case h20 => first | exact ⟨c1, c2, c3⟩ | exact ⟨h1, h2, h3⟩
        clear hK K
        try simp only [Act.put, List.setIfInBounds_toArray, List.set_cons_zero, List.set_cons_succ]
        refine wpAnyH_ready (rs := [18]) (by kernel_rfl) (by simp) ?_
        refine AllReadyH.cons (by simp only [List.getElem?_toArray, List.getElem?_cons_succ, List.getElem?_cons_zero]; exact rfl) (fun K hK => ?_) AllReadyH.nil
        go_simp
        have hlb : b < wr.heap.size := hbr
        have h1 : (((wd.setCell ⟨nb, 0, none⟩ (.int .i64 pk)).setCell ⟨nb, 1, none⟩ (.int .i64 px)).setCell ⟨nb, 2, none⟩ (.slice ua pl.length uc)).cell? ⟨b, off + k * 3, none⟩ = some (.int .i64 pk) := (World.cell?_of_block (a := ⟨b, off + k * 3, none⟩) ((Below.heap_setCell _ _ _ _ (by simp; omega)).trans ((Below.heap_setCell _ _ _ _ (by simp; omega)).trans (Below.heap_setCell _ _ _ _ (by simp; omega))))).trans c1
        have h2 : (((wd.setCell ⟨nb, 0, none⟩ (.int .i64 pk)).setCell ⟨nb, 1, none⟩ (.int .i64 px)).setCell ⟨nb, 2, none⟩ (.slice ua pl.length uc)).cell? ⟨b, off + k * 3 + 1, none⟩ = some (.int .i64 px) := (World.cell?_of_block (a := ⟨b, off + k * 3 + 1, none⟩) ((Below.heap_setCell _ _ _ _ (by simp; omega)).trans ((Below.heap_setCell _ _ _ _ (by simp; omega)).trans (Below.heap_setCell _ _ _ _ (by simp; omega))))).trans c2
        have h3 : (((wd.setCell ⟨nb, 0, none⟩ (.int .i64 pk)).setCell ⟨nb, 1, none⟩ (.int .i64 px)).setCell ⟨nb, 2, none⟩ (.slice ua pl.length uc)).cell? ⟨b, off + k * 3 + 2, none⟩ = some (.slice fa pl.length fc) := (World.cell?_of_block (a := ⟨b, off + k * 3 + 2, none⟩) ((Below.heap_setCell _ _ _ _ (by simp; omega)).trans ((Below.heap_setCell _ _ _ _ (by simp; omega)).trans (Below.heap_setCell _ _ _ _ (by simp; omega))))).trans c3
        try dsimp only
        refine hK.out _ _ ?h22 (fun hHeld => ?_)
        case h22 => first | exact ⟨c1, c2, c3⟩ | exact ⟨h1, h2, h3⟩
        clear hK K
        try simp only [Act.put, List.setIfInBounds_toArray, List.set_cons_zero, List.set_cons_succ]
        refine wpAnyH_done (by kernel_rfl) ?_ _
        have xh : Below wr.heap.size wr (((wd.setCell ⟨nb, 0, none⟩ (.int .i64 pk)).setCell ⟨nb, 1, none⟩ (.int .i64 px)).setCell ⟨nb, 2, none⟩ (.slice ua pl.length uc)) := ((hd.setCell hnb _).setCell hnb _).setCell hnb _
        have xl : nb < (((wd.setCell ⟨nb, 0, none⟩ (.int .i64 pk)).setCell ⟨nb, 1, none⟩ (.int .i64 px)).setCell ⟨nb, 2, none⟩ (.slice ua pl.length uc)).heap.size := (by simpa using hnl)
        have x0 : (((wd.setCell ⟨nb, 0, none⟩ (.int .i64 pk)).setCell ⟨nb, 1, none⟩ (.int .i64 px)).setCell ⟨nb, 2, none⟩ (.slice ua pl.length uc)).cell? ⟨nb, 0, none⟩ = some (.int .i64 pk) := (by simp [go_sem, n0, n1, n2])
        have x1 : (((wd.setCell ⟨nb, 0, none⟩ (.int .i64 pk)).setCell ⟨nb, 1, none⟩ (.int .i64 px)).setCell ⟨nb, 2, none⟩ (.slice ua pl.length uc)).cell? ⟨nb, 1, none⟩ = some (.int .i64 px) := (by simp [go_sem, n0, n1, n2])
        have x2 : (((wd.setCell ⟨nb, 0, none⟩ (.int .i64 pk)).setCell ⟨nb, 1, none⟩ (.int .i64 px)).setCell ⟨nb, 2, none⟩ (.slice ua pl.length uc)).cell? ⟨nb, 2, none⟩ = some (.slice ua pl.length uc) := (by simp [go_sem, n0, n1, n2])
        have xg : (((wd.setCell ⟨nb, 0, none⟩ (.int .i64 pk)).setCell ⟨nb, 1, none⟩ (.int .i64 px)).setCell ⟨nb, 2, none⟩ (.slice ua pl.length uc)).frozen? ⟨nb, 0, none⟩ = false := (by simp [go_sem, g0])
        have xu : Own (((wd.setCell ⟨nb, 0, none⟩ (.int .i64 pk)).setCell ⟨nb, 1, none⟩ (.int .i64 px)).setCell ⟨nb, 2, none⟩ (.slice ua pl.length uc)) wr.heap.size 2 1 (.slice ua pl.length uc) pl.length (pl.map (.int .i64)) := ((hux.keep (fun c hc => Below.heap_setCell _ _ _ _ (hne c hc))).keep (fun c hc => Below.heap_setCell _ _ _ _ (hne c hc))).keep (fun c hc => Below.heap_setCell _ _ _ _ (hne c hc))
        generalize (((wd.setCell ⟨nb, 0, none⟩ (.int .i64 pk)).setCell ⟨nb, 1, none⟩ (.int .i64 px)).setCell ⟨nb, 2, none⟩ (.slice ua pl.length uc)) = wz at xh xl x0 x1 x2 xg xu ⊢
        exact rest nb wz ua uc ⟨xh, hnb, xl, x0, x1, x2, xg, xu, hne⟩
      case b16_17 =>
        go_simp
        have hbn : Below wd.heap.size wd (wd.alloc (.cells #[.int .i64 0, .int .i64 0, .slice none 0 0] 106)) := (Below.refl _ _).alloc (Nat.le_refl _) _
        have n0 : (wd.alloc (.cells #[.int .i64 0, .int .i64 0, .slice none 0 0] 106)).cell? ⟨wd.heap.size, 0, none⟩ = some (.int .i64 0) := (by simp [go_sem])
        have g0 : (wd.alloc (.cells #[.int .i64 0, .int .i64 0, .slice none 0 0] 106)).frozen? ⟨wd.heap.size, 0, none⟩ = false := (by simp [go_sem])
        have n1 : (wd.alloc (.cells #[.int .i64 0, .int .i64 0, .slice none 0 0] 106)).cell? ⟨wd.heap.size, 1, none⟩ = some (.int .i64 0) := (by simp [go_sem])
        have g1 : (wd.alloc (.cells #[.int .i64 0, .int .i64 0, .slice none 0 0] 106)).frozen? ⟨wd.heap.size, 1, none⟩ = false := (by simp [go_sem])
        have n2 : (wd.alloc (.cells #[.int .i64 0, .int .i64 0, .slice none 0 0] 106)).cell? ⟨wd.heap.size, 2, none⟩ = some (.slice none 0 0) := (by simp [go_sem])
        have g2 : (wd.alloc (.cells #[.int .i64 0, .int .i64 0, .slice none 0 0] 106)).frozen? ⟨wd.heap.size, 2, none⟩ = false := (by simp [go_sem])
        have hnl : wd.heap.size < (wd.alloc (.cells #[.int .i64 0, .int .i64 0, .slice none 0 0] 106)).heap.size := (by simp)
        have hnb : wr.heap.size ≤ wd.heap.size := hd.size
        try (have hne := fun (c : Nat) (hc : (Value.slice ua pl.length uc).ownBlock = some c) => Nat.ne_of_lt (hux.lt c hc).2)
        try (have hux := hux.below hbn (Nat.le_refl _))
        have c1 := (hbn.cell (cell_lt c1)).trans c1
        have c2 := (hbn.cell (cell_lt c2)).trans c2
        have c3 := (hbn.cell (cell_lt c3)).trans c3
        have hd := hd.trans (hbn.mono hd.size)
        generalize (wd.alloc (.cells #[.int .i64 0, .int .i64 0, .slice none 0 0] 106)) = wn at *
        first | (generalize wd.heap.size = nb at n0 n1 n2 g0 g1 g2 hnl hnb hne ⊢) | (generalize wd.heap.size = nb at n0 n1 n2 g0 g1 g2 hnl hnb ⊢)
        obtain ⟨wd, rfl⟩ : ∃ wx : World, wx = wn := ⟨_, rfl⟩
        try dsimp only
        refine hK.out _ _ ?h23 (fun hHeld => ?_)
        case h23 => first | exact ⟨c1, c2, c3⟩ | exact ⟨h1, h2, h3⟩
        clear hK K
        try simp only [Act.put, List.setIfInBounds_toArray, List.set_cons_zero, List.set_cons_succ]
        refine wpAnyH_ready (rs := [15]) (by kernel_rfl) (by simp) ?_
        refine AllReadyH.cons (by simp only [List.getElem?_toArray, List.getElem?_cons_succ, List.getElem?_cons_zero]; exact rfl) (fun K hK => ?_) AllReadyH.nil
        go_simp
        refine (l1Copy_any _ _ _ (hrow.below hd (Nat.le_refl _)) hsm).mono ?_
        rintro e wn ⟨ux, rfl, hux, hbn⟩
        obtain ⟨ua, uc, rfl⟩ := hux.isSlice
        try (have hne := fun (c : Nat) (hc : (Value.slice ua pl.length uc).ownBlock = some c) => (Nat.ne_of_gt (Nat.lt_of_lt_of_le hnl (hux.lt c hc).1)))
        have hux := hux.weak hd.size
        try (have n0 := (hbn.cell (cell_lt n0)).trans n0)
        try (have g0 := (hbn.frozen (p := ⟨nb, 0, none⟩) hnl).trans g0)
        try (have n1 := (hbn.cell (cell_lt n1)).trans n1)
        try (have g1 := (hbn.frozen (p := ⟨nb, 1, none⟩) hnl).trans g1)
        try (have n2 := (hbn.cell (cell_lt n2)).trans n2)
        try (have g2 := (hbn.frozen (p := ⟨nb, 2, none⟩) hnl).trans g2)
        try (have hnl := Nat.lt_of_lt_of_le hnl hbn.size)
        have c1 := (hbn.cell (cell_lt c1)).trans c1
        have c2 := (hbn.cell (cell_lt c2)).trans c2
        have c3 := (hbn.cell (cell_lt c3)).trans c3
        have hd := hd.trans (hbn.mono hd.size)
        obtain ⟨wd, rfl⟩ : ∃ wx : World, wx = wn := ⟨_, rfl⟩
        try dsimp only
        refine hK.out _ _ ?h25 (fun hHeld => ?_)
        case h25 => first | exact ⟨c1, c2, c3⟩ | exact ⟨h1, h2, h3⟩
        clear hK K
        try simp only [Act.put, List.setIfInBounds_toArray, List.set_cons_zero, List.set_cons_succ]
        refine wpAnyH_take (i := 16) (v := ?v26) (by simp only [List.getElem?_toArray, List.getElem?_cons_succ, List.getElem?_cons_zero]; exact rfl) (by kernel_rfl) (by kernel_rfl) (by kernel_rfl) (by intro _ _ _ h; exact h) (Or.inl ⟨by rfl, ?y26⟩) hHeld ?_
        case y26 => (intro w hSw; (try dsimp only at hSw); go_simp; try (with_reducible rfl))
        try simp only [Act.put, List.setIfInBounds_toArray, List.set_cons_zero, List.set_cons_succ]
        refine wpAnyH_ready (rs := [18]) (by kernel_rfl) (by simp) ?_
        refine AllReadyH.cons (by simp only [List.getElem?_toArray, List.getElem?_cons_succ, List.getElem?_cons_zero]; exact rfl) (fun K hK => ?_) AllReadyH.nil
        go_simp
        have hlb : b < wr.heap.size := hbr
        have h1 : (((wd.setCell ⟨nb, 0, none⟩ (.int .i64 pk)).setCell ⟨nb, 1, none⟩ (.int .i64 px)).setCell ⟨nb, 2, none⟩ (.slice ua pl.length uc)).cell? ⟨b, off + k * 3, none⟩ = some (.int .i64 pk) := (World.cell?_of_block (a := ⟨b, off + k * 3, none⟩) ((Below.heap_setCell _ _ _ _ (by simp; omega)).trans ((Below.heap_setCell _ _ _ _ (by simp; omega)).trans (Below.heap_setCell _ _ _ _ (by simp; omega))))).trans c1
        have h2 : (((wd.setCell ⟨nb, 0, none⟩ (.int .i64 pk)).setCell ⟨nb, 1, none⟩ (.int .i64 px)).setCell ⟨nb, 2, none⟩ (.slice ua pl.length uc)).cell? ⟨b, off + k * 3 + 1, none⟩ = some (.int .i64 px) := (World.cell?_of_block (a := ⟨b, off + k * 3 + 1, none⟩) ((Below.heap_setCell _ _ _ _ (by simp; omega)).trans ((Below.heap_setCell _ _ _ _ (by simp; omega)).trans (Below.heap_setCell _ _ _ _ (by simp; omega))))).trans c2
        have h3 : (((wd.setCell ⟨nb, 0, none⟩ (.int .i64 pk)).setCell ⟨nb, 1, none⟩ (.int .i64 px)).setCell ⟨nb, 2, none⟩ (.slice ua pl.length uc)).cell? ⟨b, off + k * 3 + 2, none⟩ = some (.slice fa pl.length fc) := (World.cell?_of_block (a := ⟨b, off + k * 3 + 2, none⟩) ((Below.heap_setCell _ _ _ _ (by simp; omega)).trans ((Below.heap_setCell _ _ _ _ (by simp; omega)).trans (Below.heap_setCell _ _ _ _ (by simp; omega))))).trans c3
        try dsimp only
        refine hK.out _ _ ?h28 (fun hHeld => ?_)
        case h28 => first | exact ⟨c1, c2, c3⟩ | exact ⟨h1, h2, h3⟩
        clear hK K
        try simp only [Act.put, List.setIfInBounds_toArray, List.set_cons_zero, List.set_cons_succ]
        refine wpAnyH_done (by kernel_rfl) ?_ _
        have xh : Below wr.heap.size wr (((wd.setCell ⟨nb, 0, none⟩ (.int .i64 pk)).setCell ⟨nb, 1, none⟩ (.int .i64 px)).setCell ⟨nb, 2, none⟩ (.slice ua pl.length uc)) := ((hd.setCell hnb _).setCell hnb _).setCell hnb _
        have xl : nb < (((wd.setCell ⟨nb, 0, none⟩ (.int .i64 pk)).setCell ⟨nb, 1, none⟩ (.int .i64 px)).setCell ⟨nb, 2, none⟩ (.slice ua pl.length uc)).heap.size := (by simpa using hnl)
        have x0 : (((wd.setCell ⟨nb, 0, none⟩ (.int .i64 pk)).setCell ⟨nb, 1, none⟩ (.int .i64 px)).setCell ⟨nb, 2, none⟩ (.slice ua pl.length uc)).cell? ⟨nb, 0, none⟩ = some (.int .i64 pk) := (by simp [go_sem, n0, n1, n2])
        have x1 : (((wd.setCell ⟨nb, 0, none⟩ (.int .i64 pk)).setCell ⟨nb, 1, none⟩ (.int .i64 px)).setCell ⟨nb, 2, none⟩ (.slice ua pl.length uc)).cell? ⟨nb, 1, none⟩ = some (.int .i64 px) := (by simp [go_sem, n0, n1, n2])
        have x2 : (((wd.setCell ⟨nb, 0, none⟩ (.int .i64 pk)).setCell ⟨nb, 1, none⟩ (.int .i64 px)).setCell ⟨nb, 2, none⟩ (.slice ua pl.length uc)).cell? ⟨nb, 2, none⟩ = some (.slice ua pl.length uc) := (by simp [go_sem, n0, n1, n2])
        have xg : (((wd.setCell ⟨nb, 0, none⟩ (.int .i64 pk)).setCell ⟨nb, 1, none⟩ (.int .i64 px)).setCell ⟨nb, 2, none⟩ (.slice ua pl.length uc)).frozen? ⟨nb, 0, none⟩ = false := (by simp [go_sem, g0])
        have xu : Own (((wd.setCell ⟨nb, 0, none⟩ (.int .i64 pk)).setCell ⟨nb, 1, none⟩ (.int .i64 px)).setCell ⟨nb, 2, none⟩ (.slice ua pl.length uc)) wr.heap.size 2 1 (.slice ua pl.length uc) pl.length (pl.map (.int .i64)) := ((hux.keep (fun c hc => Below.heap_setCell _ _ _ _ (hne c hc))).keep (fun c hc => Below.heap_setCell _ _ _ _ (hne c hc))).keep (fun c hc => Below.heap_setCell _ _ _ _ (hne c hc))
        generalize (((wd.setCell ⟨nb, 0, none⟩ (.int .i64 pk)).setCell ⟨nb, 1, none⟩ (.int .i64 px)).setCell ⟨nb, 2, none⟩ (.slice ua pl.length uc)) = wz at xh xl x0 x1 x2 xg xu ⊢
        exact rest nb wz ua uc ⟨xh, hnb, xl, x0, x1, x2, xg, xu, hne⟩
    case rest =>
      intro nb wn ua uc ⟨hd, hnb, hnl, n0, n1, n2, g0, hux, hne⟩
      obtain ⟨xs, vs, hcs, hown, hbC, hap, hkd⟩ := hP
      rw [HTL.out] at hown
      rcases hkg with rfl | rfl | rfl
      · have hd4 := hd
        have hu4 := hux.weak hq.size
        have hown4 := hown.below hd4 (Nat.le_refl _)
        have hkd4 : KidsP wn w.heap.size wr.heap.size 2 (.slice (some ⟨gb, 0, none⟩) k gc) ((t.take k).map turnP) vs := fun i hi hi2 => ⟨(hkd i hi hi2).1.below hd4 (Nat.le_refl _), (hkd i hi hi2).2⟩
        have hs4 := hd4.size
        have hq4 := hq.trans (hd4.mono hq.size)
        have hge := fun c hc => (hux.lt c hc).1
        clear hkd hown hux hd
        go_wp2_with (at_builtin; refine wpList_append1m elParts rfl _ _ rfl hown4 rfl (by first | rfl | simp) rfl rfl (by simp [Value.oneCell']) (by omega) (by have := hq4.size; omega) ?_; intro o5 w5 hown5 hkept hmv)
        have hP5 : OwnP w5 w.heap.size w5.heap.size 106 2 o5 ((t.take (k + 1)).map turnP) := by
          rw [HTK.out, show turnP ⟨1, px, pl⟩ = ⟨1, px, pl⟩ from rfl]
          refine ownP_snoc (p := ⟨1, px, pl⟩) (v := .slice ua pl.length uc) hcs hs4 hbC hap hkd4 (by rw [HTL.out]; simpa using hown5) hu4 hge hkept ?_
          rcases hmv with h | h
          · exact .inl h
          · exact .inr ⟨_, h, by simp⟩
        have hq5 := hkept.below hq4 hq4.size (fun b hb => by have := (hown4.lt b hb).1; omega)
        obtain ⟨g5, c5, rfl⟩ := own_some hown5 (by omega)
        go_roundw
        case rel => exact ⟨k + 1, g5, c5, by omega, by go_num, rfl, hP5, hq5⟩
        case measure => simp [intOf]; omega
      · have hd4 : Below wr.heap.size wr (wn.setCell ⟨nb, 0, none⟩ (.int .i64 3)) := hd.setCell hnb _
        have hu4 : Own (wn.setCell ⟨nb, 0, none⟩ (.int .i64 3)) w.heap.size 2 1 (.slice ua pl.length uc) pl.length (pl.map (.int .i64)) := (hux.keep (fun c hc => Below.heap_setCell _ _ _ _ (hne c hc))).weak hq.size
        have hown4 := hown.below hd4 (Nat.le_refl _)
        have hkd4 : KidsP (wn.setCell ⟨nb, 0, none⟩ (.int .i64 3)) w.heap.size wr.heap.size 2 (.slice (some ⟨gb, 0, none⟩) k gc) ((t.take k).map turnP) vs := fun i hi hi2 => ⟨(hkd i hi hi2).1.below hd4 (Nat.le_refl _), (hkd i hi hi2).2⟩
        have hs4 := hd4.size
        have hq4 := hq.trans (hd4.mono hq.size)
        have hge := fun c hc => (hux.lt c hc).1
        clear hkd hown hux hd
        go_wp2_with (at_builtin; refine wpList_append1m elParts rfl _ _ rfl hown4 rfl (by first | rfl | simp) rfl rfl (by simp [Value.oneCell']) (by omega) (by have := hq4.size; omega) ?_; intro o5 w5 hown5 hkept hmv)
        have hP5 : OwnP w5 w.heap.size w5.heap.size 106 2 o5 ((t.take (k + 1)).map turnP) := by
          rw [HTK.out, show turnP ⟨2, px, pl⟩ = ⟨3, px, pl⟩ from rfl]
          refine ownP_snoc (p := ⟨3, px, pl⟩) (v := .slice ua pl.length uc) hcs hs4 hbC hap hkd4 (by rw [HTL.out]; simpa using hown5) hu4 hge hkept ?_
          rcases hmv with h | h
          · exact .inl h
          · exact .inr ⟨_, h, by simp⟩
        have hq5 := hkept.below hq4 hq4.size (fun b hb => by have := (hown4.lt b hb).1; omega)
        obtain ⟨g5, c5, rfl⟩ := own_some hown5 (by omega)
        go_roundw
        case rel => exact ⟨k + 1, g5, c5, by omega, by go_num, rfl, hP5, hq5⟩
        case measure => simp [intOf]; omega
      · have hd4 : Below wr.heap.size wr (wn.setCell ⟨nb, 0, none⟩ (.int .i64 2)) := hd.setCell hnb _
        have hu4 : Own (wn.setCell ⟨nb, 0, none⟩ (.int .i64 2)) w.heap.size 2 1 (.slice ua pl.length uc) pl.length (pl.map (.int .i64)) := (hux.keep (fun c hc => Below.heap_setCell _ _ _ _ (hne c hc))).weak hq.size
        have hown4 := hown.below hd4 (Nat.le_refl _)
        have hkd4 : KidsP (wn.setCell ⟨nb, 0, none⟩ (.int .i64 2)) w.heap.size wr.heap.size 2 (.slice (some ⟨gb, 0, none⟩) k gc) ((t.take k).map turnP) vs := fun i hi hi2 => ⟨(hkd i hi hi2).1.below hd4 (Nat.le_refl _), (hkd i hi hi2).2⟩
        have hs4 := hd4.size
        have hq4 := hq.trans (hd4.mono hq.size)
        have hge := fun c hc => (hux.lt c hc).1
        clear hkd hown hux hd
        go_wp2_with (at_builtin; refine wpList_append1m elParts rfl _ _ rfl hown4 rfl (by first | rfl | simp) rfl rfl (by simp [Value.oneCell']) (by omega) (by have := hq4.size; omega) ?_; intro o5 w5 hown5 hkept hmv)
        have hP5 : OwnP w5 w.heap.size w5.heap.size 106 2 o5 ((t.take (k + 1)).map turnP) := by
          rw [HTK.out, show turnP ⟨3, px, pl⟩ = ⟨2, px, pl⟩ from rfl]
          refine ownP_snoc (p := ⟨2, px, pl⟩) (v := .slice ua pl.length uc) hcs hs4 hbC hap hkd4 (by rw [HTL.out]; simpa using hown5) hu4 hge hkept ?_
          rcases hmv with h | h
          · exact .inl h
          · exact .inr ⟨_, h, by simp⟩
        have hq5 := hkept.below hq4 hq4.size (fun b hb => by have := (hown4.lt b hb).1; omega)
        obtain ⟨g5, c5, rfl⟩ := own_some hown5 (by omega)
        go_roundw
        case rel => exact ⟨k + 1, g5, c5, by omega, by go_num, rfl, hP5, hq5⟩
        case measure => simp [intOf]; omega
end Go.Proofs.YtfccpencgengaaaDoor
