/- All foldings, by the reference; SeriesIn; the law. -/
import Derived.Test.YtfccpencgengaaaDoorFold4
import Derived.Test.YtfccpencgengaaaDoorFold2c
namespace Go.Proofs.YtfccpencgengaaaDoor
open Go.RowKit
set_option maxRecDepth 100000 in
set_option maxHeartbeats 16000000 in
theorem l20All_any {S S' : Nat → Prop} {v u : Value} {a : List Nat} {left n : Nat} {w : World} (hI : FoldI a left n) (hv : SlR S w v (rowsN a left n)) (hu : SlI S' w .i64 u (bitsI left)) :
    Calls Tryd.prog 65 #[.agg #[v], u] w fun e w' => ∃ fv lv ga gn gc, e = .returned (.tuple #[fv, lv, .agg #[.slice ga gn gc]]) ∧ SlI (fun _ => True) w' .i64 lv (bitsI (foldsF 33 a left).2) ∧ Below w.heap.size w w' := by
  have h16 := hI.le
  have hq0 : Below w.heap.size w (((w.alloc (.cells #[v] 27)).alloc (.cells #[.slice none 0 0] 27)).alloc (.cells #[] 86)) := (((Below.refl _ _).alloc (Nat.le_refl _) _).alloc (by simp) _).alloc (by simp; omega) _
  have hbx0 : Own (((w.alloc (.cells #[v] 27)).alloc (.cells #[.slice none 0 0] 27)).alloc (.cells #[] 86)) w.heap.size 27 1 (.slice (some ⟨w.heap.size, 0, none⟩) 1 1) 1 [v] := by
    have := World.ownsRow_lit (base := w.heap.size) (e := 27) (size := 1) w #[v] 1 (Nat.le_refl _) (by unfold maxLen; omega) rfl
    exact ((by simpa [Own] using this : Own _ _ _ _ _ _ _).alloc _).alloc _
  have hres0 : Own (((w.alloc (.cells #[v] 27)).alloc (.cells #[.slice none 0 0] 27)).alloc (.cells #[] 86)) (w.heap.size + 1) 27 1 (.slice (some ⟨w.heap.size + 1, 0, none⟩) 1 1) 1 [.slice none 0 0] := by
    have := World.ownsRow_lit (base := w.heap.size + 1) (e := 27) (size := 1) (w.alloc (.cells #[v] 27)) #[.slice none 0 0] 1 (by simp) (by unfold maxLen; omega) rfl
    exact (by simpa [Own] using this : Own _ _ _ _ _ _ _).alloc _
  have hout0 : Own (((w.alloc (.cells #[v] 27)).alloc (.cells #[.slice none 0 0] 27)).alloc (.cells #[] 86)) (w.heap.size + 2) 86 3 (.slice (some ⟨w.heap.size + 1 + 1, 0, none⟩) 0 0) 0 [] := by
    have := World.ownsRow_lit (base := w.heap.size + 2) (e := 86) (size := 3) ((w.alloc (.cells #[v] 27)).alloc (.cells #[.slice none 0 0] 27)) #[] 0 (by simp) (by unfold maxLen; omega) rfl
    simpa [Own] using this
  have hv0 : SlR (Off (((w.alloc (.cells #[v] 27)).alloc (.cells #[.slice none 0 0] 27)).alloc (.cells #[] 86)) w.heap.size (.slice (some ⟨w.heap.size + 1 + 1, 0, none⟩) 0 0)) (((w.alloc (.cells #[v] 27)).alloc (.cells #[.slice none 0 0] 27)).alloc (.cells #[] 86)) v (rowsN a left n) :=
    (hv.low3.below hq0 (Nat.le_refl _)).weak (fun b hb => ⟨Nat.lt_of_lt_of_le hb.2 hq0.size, ⟨by omega, by omega⟩, by simp [Value.ownBlock]; omega⟩)
  have hu0 : SlI (Off (((w.alloc (.cells #[v] 27)).alloc (.cells #[.slice none 0 0] 27)).alloc (.cells #[] 86)) w.heap.size (.slice (some ⟨w.heap.size + 1 + 1, 0, none⟩) 0 0)) (((w.alloc (.cells #[v] 27)).alloc (.cells #[.slice none 0 0] 27)).alloc (.cells #[] 86)) .i64 u (bitsI left) :=
    (hu.low3.below hq0 (Nat.le_refl _)).weak (fun b hb => ⟨Nat.lt_of_lt_of_le hb.2 hq0.size, ⟨by omega, by omega⟩, by simp [Value.ownBlock]; omega⟩)
  obtain ⟨va, vc, rfl⟩ := hv.slice
  obtain ⟨ua, uc, rfl⟩ := hu.slice
  go_enter Tryd.func65, Tryd.ntmps65
  go_wp2
  go_loopw [1, 7, 8] (fun l o i wr => ∃ (a' : List Nat) (left' fuel k m : Nat) (gv : Value) (xs : List Value), i = .int .i64 k ∧ FoldI a' left' n ∧ k ≤ (bitsN left').length ∧ (∀ j (hj : j < (bitsN left').length), j < k → foldF a' left' (bitsN left')[j] = none) ∧ popN left' < fuel ∧ foldsF fuel a' left' = foldsF 33 a left ∧
      Own wr w.heap.size 27 1 (.slice (some ⟨w.heap.size, 0, none⟩) 1 1) 1 [gv] ∧ Own wr (w.heap.size + 1) 27 1 (.slice (some ⟨w.heap.size + 1, 0, none⟩) 1 1) 1 [.slice none 0 0] ∧ Own wr (w.heap.size + 2) 86 3 o m xs ∧ m + popN left' ≤ 32 ∧
      SlR (Off wr w.heap.size o) wr gv (rowsN a' left' n) ∧ SlI (Off wr w.heap.size o) wr .i64 l (bitsI left') ∧ Below w.heap.size w wr) (fun l _ i _ => 64 * lenV l + (lenV l - (intOf i).toNat))
  case atStart => exact ⟨a, left, 33, 0, 0, _, [], rfl, hI, Nat.zero_le _, (fun j _ h => by omega), by have := popN_32 left; omega, rfl, hbx0, hres0, hout0, by have := popN_32 left; omega, hv0, hu0, hq0⟩
  case round =>
    clear hbx0 hres0 hout0 hv0 hu0 hq0
    obtain ⟨a', left', fuel, k, m, gv, xs, rfl, hJ, hk, hno, hfu, hff, hbx, hres, hout, hml, hgv, hlv, hq⟩ := hrel
    have HFF := Lib.hid hff; clear hff
    have hl32 := hJ.left32
    have hp32 := popN_32 left'
    have hpn : popN left' = (bitsN left').length := rfl
    obtain ⟨gva, gvc, rfl⟩ := hgv.slice
    obtain ⟨lb, lo, lcap, hle, hlc⟩ := hlv.at_
    obtain ⟨la, lc, rfl⟩ := hlv.slice
    have cG := (World.ownsRow.cellAt hbx 0 (by omega)).trans (show _ = some (Value.slice gva (rowsN a' left' n).length gvc) from rfl)
    have hbl := bitsI_lenN left'
    have HNO := Lib.hid hno; clear hno
    rw [hbl] at hle hlv ⊢
    have HBL := Lib.hid hbl
    by_cases hlt : k < (bitsN left').length
    case neg =>
      have hst := foldV_none.2 (fun z hz => by
        obtain ⟨j, hj, rfl⟩ := List.getElem_of_mem hz
        exact HNO.out j hj (by omega))
      obtain ⟨fu, rfl⟩ : ∃ fu, fuel = fu + 1 := ⟨fuel - 1, by omega⟩
      have hs := HFF.out
      rw [foldsF_stop hst] at hs
      have HS := Lib.hid hs; clear hs hst HFF HNO hpn hbl
      have cR := (World.ownsRow.cellAt hres 0 (by omega)).trans (show _ = some (.slice none 0 0) from rfl)
      have fR := World.ownsRow.frozenAt hres 0
      have hlf := hlv.drew
      obtain ⟨oa, oc, rfl⟩ := hout.isSlice
      go_wp2
      refine wp_region_held_drew (S := (fun w' => w'.cell? ⟨w.heap.size, 0, none⟩ = some (Value.slice gva (rowsN a' left' n).length gvc))) (by kernel_rfl) ?_ (fun hHeld => ?_)
      · first | exact ‹_› | (simp [*, go_sem])
      have hqc := hq.drew
      have cR : wr.drew.cell? ⟨w.heap.size + 1, 0, none⟩ = some (.slice none 0 0) := cR
      have fR : wr.drew.frozen? ⟨w.heap.size + 1, 0, none⟩ = false := fR
      generalize wr.drew = wd at hqc hlf cR fR hHeld ⊢
      refine wpAnyH_take (i := 0) (v := ?v1) (by simp only [List.getElem?_toArray, List.getElem?_cons_zero]; exact rfl) (by kernel_rfl) (by kernel_rfl) (by kernel_rfl) (by intro _ _ _ h; exact h) (Or.inl ⟨by rfl, ?y1⟩) hHeld ?_
      case y1 => (intro w hSw; (try dsimp only at hSw); go_simp; try (with_reducible rfl))
      try simp only [Act.put, List.setIfInBounds_toArray, List.set_cons_zero, List.set_cons_succ]
      refine wpAnyH_take (i := 1) (v := ?v2) (by simp only [List.getElem?_toArray, List.getElem?_cons_succ, List.getElem?_cons_zero]; exact rfl) (by kernel_rfl) (by kernel_rfl) (by kernel_rfl) (by intro _ _ _ h; exact h) (Or.inl ⟨by rfl, ?y2⟩) hHeld ?_
      case y2 => (intro w hSw; (try dsimp only at hSw); go_simp; try (with_reducible rfl))
      try simp only [Act.put, List.setIfInBounds_toArray, List.set_cons_zero, List.set_cons_succ]
      refine wpAnyH_take (i := 2) (v := ?v3) (by simp only [List.getElem?_toArray, List.getElem?_cons_succ, List.getElem?_cons_zero]; exact rfl) (by kernel_rfl) (by kernel_rfl) (by kernel_rfl) (by intro _ _ _ h; exact h) (Or.inl ⟨by rfl, ?y3⟩) hHeld ?_
      case y3 => (intro w hSw; (try dsimp only at hSw); go_simp; try (with_reducible rfl))
      try simp only [Act.put, List.setIfInBounds_toArray, List.set_cons_zero, List.set_cons_succ]
      refine wpAnyH_take (i := 3) (v := ?v4) (by simp only [List.getElem?_toArray, List.getElem?_cons_succ, List.getElem?_cons_zero]; exact rfl) (by kernel_rfl) (by kernel_rfl) (by kernel_rfl) (by intro _ _ _ h; exact h) (Or.inl ⟨by rfl, ?y4⟩) hHeld ?_
      case y4 => (intro w hSw; (try dsimp only at hSw); go_simp; try (with_reducible rfl))
      try simp only [Act.put, List.setIfInBounds_toArray, List.set_cons_zero, List.set_cons_succ]
      refine wpAnyH_take (i := 4) (v := ?v5) (by simp only [List.getElem?_toArray, List.getElem?_cons_succ, List.getElem?_cons_zero]; exact rfl) (by kernel_rfl) (by kernel_rfl) (by kernel_rfl) (by intro _ _ _ h; exact h) (Or.inl ⟨by rfl, ?y5⟩) hHeld ?_
      case y5 => (intro w hSw; (try dsimp only at hSw); go_simp; try (with_reducible rfl))
      try simp only [Act.put, List.setIfInBounds_toArray, List.set_cons_zero, List.set_cons_succ]
      refine wpAnyH_ready (rs := [5]) (by kernel_rfl) (by simp) ?_
      refine AllReadyH.cons (by simp only [List.getElem?_toArray, List.getElem?_cons_succ, List.getElem?_cons_zero]; exact rfl) (fun K hK => ?_) AllReadyH.nil
      go_simp
      have hcg : (wd.setCell ⟨w.heap.size + 1, 0, none⟩ (Value.slice gva (rowsN a' left' n).length gvc)).cell? ⟨w.heap.size, 0, none⟩ = some (Value.slice gva (rowsN a' left' n).length gvc) := (World.cell?_of_block (a := ⟨w.heap.size, 0, none⟩) (Below.heap_setCell _ _ _ _ (by simp))).trans hHeld
      try dsimp only
      refine hK.out _ _ ?h7 (fun hHeld => ?_)
      case h7 => first | exact ‹_› | (simp [*, go_sem])
      clear hK K
      try simp only [Act.put, List.setIfInBounds_toArray, List.set_cons_zero, List.set_cons_succ]
      refine wpAnyH_done (by kernel_rfl) ?_ _
      go_wp2
      refine bodyPost_ret (v := .tuple #[.slice oa m oc, .slice la (bitsN left').length lc, .agg #[Value.slice gva (rowsN a' left' n).length gvc]]) (by simp [results, Tryd.results65, go_sem, cR]) rfl ⟨_, _, _, _, _, rfl, ?_, hqc.setCell (by simp) _⟩
      rw [← HS.out]
      exact (hlf.keep fun b hb => Below.heap_setCell _ _ _ _ (by have := hb.2.1.2; simp; omega)).weak fun _ _ => trivial
    have hyk : (bitsI left')[k]'(by omega) = (((bitsN left')[k] : Nat) : Int) := bitsI_get _
    have hxl := (mem_bitsN hl32).1 (List.getElem_mem hlt)
    have hxn := bit_lt_of hJ.left hxl
    have hcell := hlc k (by omega)
    rw [hyk] at hcell
    have hle2 := hle (by omega)
    simp only [Value.slice.injEq] at hle2
    obtain ⟨rfl, -, rfl⟩ := hle2
    have hnx : ∀ (h : foldF a' left' (bitsN left')[k] = none) j (hj : j < (bitsN left').length), j < k + 1 → foldF a' left' (bitsN left')[j] = none := fun h j hj hjk => by
      by_cases e : j = k
      · subst e; exact h
      · exact HNO.out j hj (by omega)
    have hsm := fun f => foldV_some (a := a') (left := left') (k := k) (f := f) hlt HNO.out
    have HNX := Lib.hid hnx; clear hnx hyk hbl hle hlc HNO
    have HPN := Lib.hid hpn; clear hpn
    generalize (bitsN left')[k] = x at *
    have hrow : (rowsN a' left' n)[x]'(by rw [rowsN_len]; exact hxn) = natsI (nearN a' left' x) := by rw [rowsN_get, if_pos hxl]; rfl
    have hnl : (nearN a' left' x).length ≤ 32 := by unfold nearN; exact bitsN_len _
    have hat := fun (w1 : World) (hd : Below wr.heap.size wr w1) => l20At_any (hgv.below hd (Nat.le_refl _)) (by rw [rowsN_len]; exact hxn) hrow hnl
    have hfr : rowF x (nearN a' left' x) = foldF a' left' x := rfl
    rw [hfr] at hat
    clear hrow hnl hfr
    unfold TriP at hat
    have hwz : w.heap.size + 1 < wr.heap.size := (hres.lt _ rfl).2
    have HHL := Lib.hid hwz
    have hlb2 : lb < wr.heap.size := cell_lt hcell
    have hb32 : (bitsN left').length ≤ 32 := bitsN_len _
    cases hf : foldF a' left' x with
    | none =>
      rw [hf] at hat
      simp only [Option.getD_none, Option.isSome_none, triV] at hat
      have HX := Lib.hid (HNX.out hf); clear hf hsm HNX
      go_wp2
      apply meet2 (H := fun (nb : Nat) (wn : World) => Below wr.heap.size wr wn ∧ wr.heap.size ≤ nb ∧ wn.cell? ⟨nb, 0, none⟩ = some (.int .i64 0) ∧ wn.cell? ⟨nb, 1, none⟩ = some (.int .i64 0) ∧ wn.cell? ⟨nb, 2, none⟩ = some (.int .i64 0))
      case orders =>
        intro rest
        refine wp_region_held_drew (S := (fun w' => w'.cell? ⟨w.heap.size, 0, none⟩ = some (Value.slice gva (rowsN a' left' n).length gvc) ∧ w'.cell? ⟨lb, lo + k, none⟩ = some (.int .i64 (x : Int)))) (by kernel_rfl) ?_ (fun hHeld => ?_)
        · first | exact ⟨cG, hcell⟩ | exact ⟨cg, cl⟩ | exact ⟨hcg, hcl⟩
        have hd : Below wr.heap.size wr wr.drew := (Below.refl _ _).drew
        generalize wr.drew = wd at hd hHeld ⊢
        obtain ⟨cg, cl⟩ := hHeld
        have hHeld : (fun w' => w'.cell? ⟨w.heap.size, 0, none⟩ = some (Value.slice gva (rowsN a' left' n).length gvc) ∧ w'.cell? ⟨lb, lo + k, none⟩ = some (.int .i64 (x : Int))) wd := ⟨cg, cl⟩
        refine wpAnyH_take (i := 0) (v := ?v8) (by simp only [List.getElem?_toArray, List.getElem?_cons_zero]; exact rfl) (by kernel_rfl) (by kernel_rfl) (by kernel_rfl) (by intro _ _ _ h; exact h) (Or.inl ⟨by rfl, ?y8⟩) hHeld ?_
        case y8 => (intro w hSw; (try dsimp only at hSw); go_simp; try (with_reducible rfl))
        try simp only [Act.put, List.setIfInBounds_toArray, List.set_cons_zero, List.set_cons_succ]
        refine wpAnyH_take (i := 1) (v := ?v9) (by simp only [List.getElem?_toArray, List.getElem?_cons_succ, List.getElem?_cons_zero]; exact rfl) (by kernel_rfl) (by kernel_rfl) (by kernel_rfl) (by intro _ _ _ h; exact h) (Or.inl ⟨by rfl, ?y9⟩) hHeld ?_
        case y9 => (intro w hSw; (try dsimp only at hSw); go_simp; try (with_reducible rfl))
        try simp only [Act.put, List.setIfInBounds_toArray, List.set_cons_zero, List.set_cons_succ]
        refine wpAnyH_take (i := 2) (v := ?v10) (by simp only [List.getElem?_toArray, List.getElem?_cons_succ, List.getElem?_cons_zero]; exact rfl) (by kernel_rfl) (by kernel_rfl) (by kernel_rfl) (by intro _ _ _ h; exact h) (Or.inl ⟨by rfl, ?y10⟩) hHeld ?_
        case y10 => (intro w hSw; (try dsimp only at hSw); go_simp; try (with_reducible rfl))
        try simp only [Act.put, List.setIfInBounds_toArray, List.set_cons_zero, List.set_cons_succ]
        refine wpAnyH_take (i := 3) (v := ?v11) (by simp only [List.getElem?_toArray, List.getElem?_cons_succ, List.getElem?_cons_zero]; exact rfl) (by kernel_rfl) (by kernel_rfl) (by kernel_rfl) (by intro _ _ _ h; exact h) (Or.inl ⟨by rfl, ?y11⟩) hHeld ?_
        case y11 => (intro w hSw; (try dsimp only at hSw); go_simp; try (with_reducible rfl))
        try simp only [Act.put, List.setIfInBounds_toArray, List.set_cons_zero, List.set_cons_succ]
        refine wpAnyH_take (i := 4) (v := ?v12) (by simp only [List.getElem?_toArray, List.getElem?_cons_succ, List.getElem?_cons_zero]; exact rfl) (by kernel_rfl) (by kernel_rfl) (by kernel_rfl) (by intro _ _ _ h; exact h) (Or.inl ⟨by rfl, ?y12⟩) hHeld ?_
        case y12 => (intro w hSw; (try dsimp only at hSw); go_simp; try (with_reducible rfl))
        try simp only [Act.put, List.setIfInBounds_toArray, List.set_cons_zero, List.set_cons_succ]
        refine wpAnyH_ready (rs := [5, 9]) (by kernel_rfl) (by simp) ?_
        refine (AllReadyH.cons (by simp only [List.getElem?_toArray, List.getElem?_cons_succ, List.getElem?_cons_zero]; exact rfl) (fun K hK => ?b13_5) (AllReadyH.cons (by simp only [List.getElem?_toArray, List.getElem?_cons_succ, List.getElem?_cons_zero]; exact rfl) (fun K hK => ?b13_9) AllReadyH.nil))
        case b13_5 =>
          go_simp
          refine (hat wd hd).mono ?_
          rintro e wn ⟨rfl, hbn⟩
          try (have n0 := (hbn.cell (cell_lt n0)).trans n0)
          try (have n1 := (hbn.cell (cell_lt n1)).trans n1)
          try (have n2 := (hbn.cell (cell_lt n2)).trans n2)
          try (have g0 := (hbn.frozen (p := ⟨nb, 0, none⟩) hnl).trans g0)
          try (have g1 := (hbn.frozen (p := ⟨nb, 1, none⟩) hnl).trans g1)
          try (have g2 := (hbn.frozen (p := ⟨nb, 2, none⟩) hnl).trans g2)
          try (have hnl := Nat.lt_of_lt_of_le hnl hbn.size)
          have cg := (hbn.cell (cell_lt cg)).trans cg
          have cl := (hbn.cell (cell_lt cl)).trans cl
          have hd := hd.trans (hbn.mono hd.size)
          obtain ⟨wd, rfl⟩ : ∃ wx : World, wx = wn := ⟨_, rfl⟩
          try dsimp only
          refine hK.out _ _ ?h14 (fun hHeld => ?_)
          case h14 => first | exact ⟨cG, hcell⟩ | exact ⟨cg, cl⟩ | exact ⟨hcg, hcl⟩
          clear hK K
          try simp only [Act.put, List.setIfInBounds_toArray, List.set_cons_zero, List.set_cons_succ]
          refine wpAnyH_take (i := 6) (v := ?v15) (by simp only [List.getElem?_toArray, List.getElem?_cons_succ, List.getElem?_cons_zero]; exact rfl) (by kernel_rfl) (by kernel_rfl) (by kernel_rfl) (by intro _ _ _ h; exact h) (Or.inl ⟨by rfl, ?y15⟩) hHeld ?_
          case y15 => (intro w hSw; (try dsimp only at hSw); go_simp; try (with_reducible rfl))
          try simp only [Act.put, List.setIfInBounds_toArray, List.set_cons_zero, List.set_cons_succ]
          refine wpAnyH_take (i := 7) (v := ?v16) (by simp only [List.getElem?_toArray, List.getElem?_cons_succ, List.getElem?_cons_zero]; exact rfl) (by kernel_rfl) (by kernel_rfl) (by kernel_rfl) (by intro _ _ _ h; exact h) (Or.inl ⟨by rfl, ?y16⟩) hHeld ?_
          case y16 => (intro w hSw; (try dsimp only at hSw); go_simp; try (with_reducible rfl))
          try simp only [Act.put, List.setIfInBounds_toArray, List.set_cons_zero, List.set_cons_succ]
          refine wpAnyH_take (i := 8) (v := ?v17) (by simp only [List.getElem?_toArray, List.getElem?_cons_succ, List.getElem?_cons_zero]; exact rfl) (by kernel_rfl) (by kernel_rfl) (by kernel_rfl) (by intro _ _ _ h; exact h) (Or.inl ⟨by rfl, ?y17⟩) hHeld ?_
          case y17 => (intro w hSw; (try dsimp only at hSw); go_simp; try (with_reducible rfl))
          try simp only [Act.put, List.setIfInBounds_toArray, List.set_cons_zero, List.set_cons_succ]
          refine wpAnyH_ready (rs := [9]) (by kernel_rfl) (by simp) ?_
          refine AllReadyH.cons (by simp only [List.getElem?_toArray, List.getElem?_cons_succ, List.getElem?_cons_zero]; exact rfl) (fun K hK => ?_) AllReadyH.nil
          go_simp
          have hbn : Below wd.heap.size wd (wd.alloc (.cells #[.int .i64 0, .int .i64 0, .int .i64 0] 86)) := (Below.refl _ _).alloc (Nat.le_refl _) _
          have n0 : (wd.alloc (.cells #[.int .i64 0, .int .i64 0, .int .i64 0] 86)).cell? ⟨wd.heap.size, 0, none⟩ = some (.int .i64 0) := (by simp [go_sem])
          have n1 : (wd.alloc (.cells #[.int .i64 0, .int .i64 0, .int .i64 0] 86)).cell? ⟨wd.heap.size, 1, none⟩ = some (.int .i64 0) := (by simp [go_sem])
          have n2 : (wd.alloc (.cells #[.int .i64 0, .int .i64 0, .int .i64 0] 86)).cell? ⟨wd.heap.size, 2, none⟩ = some (.int .i64 0) := (by simp [go_sem])
          have g0 : (wd.alloc (.cells #[.int .i64 0, .int .i64 0, .int .i64 0] 86)).frozen? ⟨wd.heap.size, 0, none⟩ = false := (by simp [go_sem])
          have g1 : (wd.alloc (.cells #[.int .i64 0, .int .i64 0, .int .i64 0] 86)).frozen? ⟨wd.heap.size, 1, none⟩ = false := (by simp [go_sem])
          have g2 : (wd.alloc (.cells #[.int .i64 0, .int .i64 0, .int .i64 0] 86)).frozen? ⟨wd.heap.size, 2, none⟩ = false := (by simp [go_sem])
          have hnl : wd.heap.size < (wd.alloc (.cells #[.int .i64 0, .int .i64 0, .int .i64 0] 86)).heap.size := (by simp)
          have hnb : wr.heap.size ≤ wd.heap.size := hd.size
          have cg := (hbn.cell (cell_lt cg)).trans cg
          have cl := (hbn.cell (cell_lt cl)).trans cl
          have hd := hd.trans (hbn.mono hd.size)
          generalize (wd.alloc (.cells #[.int .i64 0, .int .i64 0, .int .i64 0] 86)) = wn at *
          generalize wd.heap.size = nb at n0 n1 n2 g0 g1 g2 hnl hnb ⊢
          obtain ⟨wd, rfl⟩ : ∃ wx : World, wx = wn := ⟨_, rfl⟩
          try dsimp only
          refine hK.out _ _ ?h19 (fun hHeld => ?_)
          case h19 => first | exact ⟨cG, hcell⟩ | exact ⟨cg, cl⟩ | exact ⟨hcg, hcl⟩
          clear hK K
          try simp only [Act.put, List.setIfInBounds_toArray, List.set_cons_zero, List.set_cons_succ]
          refine wpAnyH_ready (rs := [10]) (by kernel_rfl) (by simp) ?_
          refine AllReadyH.cons (by simp only [List.getElem?_toArray, List.getElem?_cons_succ, List.getElem?_cons_zero]; exact rfl) (fun K hK => ?_) AllReadyH.nil
          go_simp
          have hcg : (((wd.setCell ⟨nb, 0, none⟩ (.int .i64 0)).setCell ⟨nb, 1, none⟩ (.int .i64 0)).setCell ⟨nb, 2, none⟩ (.int .i64 0)).cell? ⟨w.heap.size, 0, none⟩ = some (Value.slice gva (rowsN a' left' n).length gvc) := (World.cell?_of_block (a := ⟨w.heap.size, 0, none⟩) ((Below.heap_setCell _ _ _ _ (by simp; omega)).trans ((Below.heap_setCell _ _ _ _ (by simp; omega)).trans (Below.heap_setCell _ _ _ _ (by simp; omega))))).trans cg
          have hcl : (((wd.setCell ⟨nb, 0, none⟩ (.int .i64 0)).setCell ⟨nb, 1, none⟩ (.int .i64 0)).setCell ⟨nb, 2, none⟩ (.int .i64 0)).cell? ⟨lb, lo + k, none⟩ = some (.int .i64 (x : Int)) := (World.cell?_of_block (a := ⟨lb, lo + k, none⟩) ((Below.heap_setCell _ _ _ _ (by simp; omega)).trans ((Below.heap_setCell _ _ _ _ (by simp; omega)).trans (Below.heap_setCell _ _ _ _ (by simp; omega))))).trans cl
          try dsimp only
          refine hK.out _ _ ?h21 (fun hHeld => ?_)
          case h21 => first | exact ⟨cG, hcell⟩ | exact ⟨cg, cl⟩ | exact ⟨hcg, hcl⟩
          clear hK K
          try simp only [Act.put, List.setIfInBounds_toArray, List.set_cons_zero, List.set_cons_succ]
          refine wpAnyH_take (i := 11) (v := ?v22) (by simp only [List.getElem?_toArray, List.getElem?_cons_succ, List.getElem?_cons_zero]; exact rfl) (by kernel_rfl) (by kernel_rfl) (by kernel_rfl) (by intro _ _ _ h; exact h) (Or.inl ⟨by rfl, ?y22⟩) hHeld ?_
          case y22 => (intro w hSw; (try dsimp only at hSw); go_simp; try (with_reducible rfl))
          try simp only [Act.put, List.setIfInBounds_toArray, List.set_cons_zero, List.set_cons_succ]
          refine wpAnyH_done (by kernel_rfl) ?_ _
          exact rest nb _ ⟨((hd.setCell hnb _).setCell hnb _).setCell hnb _, hnb, by (simp [go_sem, n0, n1, n2]), by (simp [go_sem, n0, n1, n2]), by (simp [go_sem, n0, n1, n2])⟩
        case b13_9 =>
          go_simp
          have hbn : Below wd.heap.size wd (wd.alloc (.cells #[.int .i64 0, .int .i64 0, .int .i64 0] 86)) := (Below.refl _ _).alloc (Nat.le_refl _) _
          have n0 : (wd.alloc (.cells #[.int .i64 0, .int .i64 0, .int .i64 0] 86)).cell? ⟨wd.heap.size, 0, none⟩ = some (.int .i64 0) := (by simp [go_sem])
          have n1 : (wd.alloc (.cells #[.int .i64 0, .int .i64 0, .int .i64 0] 86)).cell? ⟨wd.heap.size, 1, none⟩ = some (.int .i64 0) := (by simp [go_sem])
          have n2 : (wd.alloc (.cells #[.int .i64 0, .int .i64 0, .int .i64 0] 86)).cell? ⟨wd.heap.size, 2, none⟩ = some (.int .i64 0) := (by simp [go_sem])
          have g0 : (wd.alloc (.cells #[.int .i64 0, .int .i64 0, .int .i64 0] 86)).frozen? ⟨wd.heap.size, 0, none⟩ = false := (by simp [go_sem])
          have g1 : (wd.alloc (.cells #[.int .i64 0, .int .i64 0, .int .i64 0] 86)).frozen? ⟨wd.heap.size, 1, none⟩ = false := (by simp [go_sem])
          have g2 : (wd.alloc (.cells #[.int .i64 0, .int .i64 0, .int .i64 0] 86)).frozen? ⟨wd.heap.size, 2, none⟩ = false := (by simp [go_sem])
          have hnl : wd.heap.size < (wd.alloc (.cells #[.int .i64 0, .int .i64 0, .int .i64 0] 86)).heap.size := (by simp)
          have hnb : wr.heap.size ≤ wd.heap.size := hd.size
          have cg := (hbn.cell (cell_lt cg)).trans cg
          have cl := (hbn.cell (cell_lt cl)).trans cl
          have hd := hd.trans (hbn.mono hd.size)
          generalize (wd.alloc (.cells #[.int .i64 0, .int .i64 0, .int .i64 0] 86)) = wn at *
          generalize wd.heap.size = nb at n0 n1 n2 g0 g1 g2 hnl hnb ⊢
          obtain ⟨wd, rfl⟩ : ∃ wx : World, wx = wn := ⟨_, rfl⟩
          try dsimp only
          refine hK.out _ _ ?h23 (fun hHeld => ?_)
          case h23 => first | exact ⟨cG, hcell⟩ | exact ⟨cg, cl⟩ | exact ⟨hcg, hcl⟩
          clear hK K
          try simp only [Act.put, List.setIfInBounds_toArray, List.set_cons_zero, List.set_cons_succ]
          refine wpAnyH_ready (rs := [5]) (by kernel_rfl) (by simp) ?_
          refine AllReadyH.cons (by simp only [List.getElem?_toArray, List.getElem?_cons_succ, List.getElem?_cons_zero]; exact rfl) (fun K hK => ?_) AllReadyH.nil
          go_simp
          refine (hat wd hd).mono ?_
          rintro e wn ⟨rfl, hbn⟩
          try (have n0 := (hbn.cell (cell_lt n0)).trans n0)
          try (have n1 := (hbn.cell (cell_lt n1)).trans n1)
          try (have n2 := (hbn.cell (cell_lt n2)).trans n2)
          try (have g0 := (hbn.frozen (p := ⟨nb, 0, none⟩) hnl).trans g0)
          try (have g1 := (hbn.frozen (p := ⟨nb, 1, none⟩) hnl).trans g1)
          try (have g2 := (hbn.frozen (p := ⟨nb, 2, none⟩) hnl).trans g2)
          try (have hnl := Nat.lt_of_lt_of_le hnl hbn.size)
          have cg := (hbn.cell (cell_lt cg)).trans cg
          have cl := (hbn.cell (cell_lt cl)).trans cl
          have hd := hd.trans (hbn.mono hd.size)
          obtain ⟨wd, rfl⟩ : ∃ wx : World, wx = wn := ⟨_, rfl⟩
          try dsimp only
          refine hK.out _ _ ?h25 (fun hHeld => ?_)
          case h25 => first | exact ⟨cG, hcell⟩ | exact ⟨cg, cl⟩ | exact ⟨hcg, hcl⟩
          clear hK K
          try simp only [Act.put, List.setIfInBounds_toArray, List.set_cons_zero, List.set_cons_succ]
          refine wpAnyH_take (i := 6) (v := ?v26) (by simp only [List.getElem?_toArray, List.getElem?_cons_succ, List.getElem?_cons_zero]; exact rfl) (by kernel_rfl) (by kernel_rfl) (by kernel_rfl) (by intro _ _ _ h; exact h) (Or.inl ⟨by rfl, ?y26⟩) hHeld ?_
          case y26 => (intro w hSw; (try dsimp only at hSw); go_simp; try (with_reducible rfl))
          try simp only [Act.put, List.setIfInBounds_toArray, List.set_cons_zero, List.set_cons_succ]
          refine wpAnyH_take (i := 7) (v := ?v27) (by simp only [List.getElem?_toArray, List.getElem?_cons_succ, List.getElem?_cons_zero]; exact rfl) (by kernel_rfl) (by kernel_rfl) (by kernel_rfl) (by intro _ _ _ h; exact h) (Or.inl ⟨by rfl, ?y27⟩) hHeld ?_
          case y27 => (intro w hSw; (try dsimp only at hSw); go_simp; try (with_reducible rfl))
          try simp only [Act.put, List.setIfInBounds_toArray, List.set_cons_zero, List.set_cons_succ]
          refine wpAnyH_take (i := 8) (v := ?v28) (by simp only [List.getElem?_toArray, List.getElem?_cons_succ, List.getElem?_cons_zero]; exact rfl) (by kernel_rfl) (by kernel_rfl) (by kernel_rfl) (by intro _ _ _ h; exact h) (Or.inl ⟨by rfl, ?y28⟩) hHeld ?_
          case y28 => (intro w hSw; (try dsimp only at hSw); go_simp; try (with_reducible rfl))
          try simp only [Act.put, List.setIfInBounds_toArray, List.set_cons_zero, List.set_cons_succ]
          refine wpAnyH_ready (rs := [10]) (by kernel_rfl) (by simp) ?_
          refine AllReadyH.cons (by simp only [List.getElem?_toArray, List.getElem?_cons_succ, List.getElem?_cons_zero]; exact rfl) (fun K hK => ?_) AllReadyH.nil
          go_simp
          have hcg : (((wd.setCell ⟨nb, 0, none⟩ (.int .i64 0)).setCell ⟨nb, 1, none⟩ (.int .i64 0)).setCell ⟨nb, 2, none⟩ (.int .i64 0)).cell? ⟨w.heap.size, 0, none⟩ = some (Value.slice gva (rowsN a' left' n).length gvc) := (World.cell?_of_block (a := ⟨w.heap.size, 0, none⟩) ((Below.heap_setCell _ _ _ _ (by simp; omega)).trans ((Below.heap_setCell _ _ _ _ (by simp; omega)).trans (Below.heap_setCell _ _ _ _ (by simp; omega))))).trans cg
          have hcl : (((wd.setCell ⟨nb, 0, none⟩ (.int .i64 0)).setCell ⟨nb, 1, none⟩ (.int .i64 0)).setCell ⟨nb, 2, none⟩ (.int .i64 0)).cell? ⟨lb, lo + k, none⟩ = some (.int .i64 (x : Int)) := (World.cell?_of_block (a := ⟨lb, lo + k, none⟩) ((Below.heap_setCell _ _ _ _ (by simp; omega)).trans ((Below.heap_setCell _ _ _ _ (by simp; omega)).trans (Below.heap_setCell _ _ _ _ (by simp; omega))))).trans cl
          try dsimp only
          refine hK.out _ _ ?h30 (fun hHeld => ?_)
          case h30 => first | exact ⟨cG, hcell⟩ | exact ⟨cg, cl⟩ | exact ⟨hcg, hcl⟩
          clear hK K
          try simp only [Act.put, List.setIfInBounds_toArray, List.set_cons_zero, List.set_cons_succ]
          refine wpAnyH_take (i := 11) (v := ?v31) (by simp only [List.getElem?_toArray, List.getElem?_cons_succ, List.getElem?_cons_zero]; exact rfl) (by kernel_rfl) (by kernel_rfl) (by kernel_rfl) (by intro _ _ _ h; exact h) (Or.inl ⟨by rfl, ?y31⟩) hHeld ?_
          case y31 => (intro w hSw; (try dsimp only at hSw); go_simp; try (with_reducible rfl))
          try simp only [Act.put, List.setIfInBounds_toArray, List.set_cons_zero, List.set_cons_succ]
          refine wpAnyH_done (by kernel_rfl) ?_ _
          exact rest nb _ ⟨((hd.setCell hnb _).setCell hnb _).setCell hnb _, hnb, by (simp [go_sem, n0, n1, n2]), by (simp [go_sem, n0, n1, n2]), by (simp [go_sem, n0, n1, n2])⟩
      case rest =>
        intro nb wn ⟨hd, hnb, n0, n1, n2⟩
        go_wp2
        go_roundw
        case rel => exact ⟨a', left', fuel, k + 1, m, _, xs, by go_num, hJ, by omega, HX.out, hfu, HFF.out, hbx.below hd (Nat.le_refl _), hres.below hd (Nat.le_refl _), hout.below hd (Nat.le_refl _), hml, hgv.off (OffTo.below hd), hlv.off (OffTo.below hd), hq.trans (hd.mono hq.size)⟩
        case measure => simp only [lenV, intOf, HBL.out]; omega
    | some f =>
      rw [hf] at hat
      have hsv := hsm f hf
      obtain ⟨fu, rfl⟩ : ∃ fu, fuel = fu + 1 := ⟨fuel - 1, by omega⟩
      have hs := HFF.out
      rw [foldsF_step hsv hf] at hs
      have hJ2 := hJ.next hxn hf
      have hpl := pop_less hl32 hxl
      have hfa := (fold_names hJ hf).1
      have HF := Lib.hid hf
      have hfo := fun (w5 : World) (S2 : Nat → Prop) (gv : Value) (h : SlR S2 w5 gv (rowsN a' left' n)) => l20Fold_any hJ hxn HF.out h
      obtain ⟨fa, fb, fc⟩ := f
      simp only at hfa
      subst hfa
      simp only [Option.getD_some, Option.isSome_some, triV] at hat hfo
      have HS := Lib.hid hs; clear hf hsm HNX HFF hs hsv
      go_wp2
      apply meet2 (H := fun (nb : Nat) (wn : World) => Below wr.heap.size wr wn ∧ wr.heap.size ≤ nb ∧ wn.cell? ⟨nb, 0, none⟩ = some (.int .i64 (x : Int)) ∧ wn.cell? ⟨nb, 1, none⟩ = some (.int .i64 fb) ∧ wn.cell? ⟨nb, 2, none⟩ = some (.int .i64 fc))
      case orders =>
        intro rest
        refine wp_region_held_drew (S := (fun w' => w'.cell? ⟨w.heap.size, 0, none⟩ = some (Value.slice gva (rowsN a' left' n).length gvc) ∧ w'.cell? ⟨lb, lo + k, none⟩ = some (.int .i64 (x : Int)))) (by kernel_rfl) ?_ (fun hHeld => ?_)
        · first | exact ⟨cG, hcell⟩ | exact ⟨cg, cl⟩ | exact ⟨hcg, hcl⟩
        have hd : Below wr.heap.size wr wr.drew := (Below.refl _ _).drew
        generalize wr.drew = wd at hd hHeld ⊢
        obtain ⟨cg, cl⟩ := hHeld
        have hHeld : (fun w' => w'.cell? ⟨w.heap.size, 0, none⟩ = some (Value.slice gva (rowsN a' left' n).length gvc) ∧ w'.cell? ⟨lb, lo + k, none⟩ = some (.int .i64 (x : Int))) wd := ⟨cg, cl⟩
        refine wpAnyH_take (i := 0) (v := ?v32) (by simp only [List.getElem?_toArray, List.getElem?_cons_zero]; exact rfl) (by kernel_rfl) (by kernel_rfl) (by kernel_rfl) (by intro _ _ _ h; exact h) (Or.inl ⟨by rfl, ?y32⟩) hHeld ?_
        case y32 => (intro w hSw; (try dsimp only at hSw); go_simp; try (with_reducible rfl))
        try simp only [Act.put, List.setIfInBounds_toArray, List.set_cons_zero, List.set_cons_succ]
        refine wpAnyH_take (i := 1) (v := ?v33) (by simp only [List.getElem?_toArray, List.getElem?_cons_succ, List.getElem?_cons_zero]; exact rfl) (by kernel_rfl) (by kernel_rfl) (by kernel_rfl) (by intro _ _ _ h; exact h) (Or.inl ⟨by rfl, ?y33⟩) hHeld ?_
        case y33 => (intro w hSw; (try dsimp only at hSw); go_simp; try (with_reducible rfl))
        try simp only [Act.put, List.setIfInBounds_toArray, List.set_cons_zero, List.set_cons_succ]
        refine wpAnyH_take (i := 2) (v := ?v34) (by simp only [List.getElem?_toArray, List.getElem?_cons_succ, List.getElem?_cons_zero]; exact rfl) (by kernel_rfl) (by kernel_rfl) (by kernel_rfl) (by intro _ _ _ h; exact h) (Or.inl ⟨by rfl, ?y34⟩) hHeld ?_
        case y34 => (intro w hSw; (try dsimp only at hSw); go_simp; try (with_reducible rfl))
        try simp only [Act.put, List.setIfInBounds_toArray, List.set_cons_zero, List.set_cons_succ]
        refine wpAnyH_take (i := 3) (v := ?v35) (by simp only [List.getElem?_toArray, List.getElem?_cons_succ, List.getElem?_cons_zero]; exact rfl) (by kernel_rfl) (by kernel_rfl) (by kernel_rfl) (by intro _ _ _ h; exact h) (Or.inl ⟨by rfl, ?y35⟩) hHeld ?_
        case y35 => (intro w hSw; (try dsimp only at hSw); go_simp; try (with_reducible rfl))
        try simp only [Act.put, List.setIfInBounds_toArray, List.set_cons_zero, List.set_cons_succ]
        refine wpAnyH_take (i := 4) (v := ?v36) (by simp only [List.getElem?_toArray, List.getElem?_cons_succ, List.getElem?_cons_zero]; exact rfl) (by kernel_rfl) (by kernel_rfl) (by kernel_rfl) (by intro _ _ _ h; exact h) (Or.inl ⟨by rfl, ?y36⟩) hHeld ?_
        case y36 => (intro w hSw; (try dsimp only at hSw); go_simp; try (with_reducible rfl))
        try simp only [Act.put, List.setIfInBounds_toArray, List.set_cons_zero, List.set_cons_succ]
        refine wpAnyH_ready (rs := [5, 9]) (by kernel_rfl) (by simp) ?_
        refine (AllReadyH.cons (by simp only [List.getElem?_toArray, List.getElem?_cons_succ, List.getElem?_cons_zero]; exact rfl) (fun K hK => ?b37_5) (AllReadyH.cons (by simp only [List.getElem?_toArray, List.getElem?_cons_succ, List.getElem?_cons_zero]; exact rfl) (fun K hK => ?b37_9) AllReadyH.nil))
        case b37_5 =>
          go_simp
          refine (hat wd hd).mono ?_
          rintro e wn ⟨rfl, hbn⟩
          try (have n0 := (hbn.cell (cell_lt n0)).trans n0)
          try (have n1 := (hbn.cell (cell_lt n1)).trans n1)
          try (have n2 := (hbn.cell (cell_lt n2)).trans n2)
          try (have g0 := (hbn.frozen (p := ⟨nb, 0, none⟩) hnl).trans g0)
          try (have g1 := (hbn.frozen (p := ⟨nb, 1, none⟩) hnl).trans g1)
          try (have g2 := (hbn.frozen (p := ⟨nb, 2, none⟩) hnl).trans g2)
          try (have hnl := Nat.lt_of_lt_of_le hnl hbn.size)
          have cg := (hbn.cell (cell_lt cg)).trans cg
          have cl := (hbn.cell (cell_lt cl)).trans cl
          have hd := hd.trans (hbn.mono hd.size)
          obtain ⟨wd, rfl⟩ : ∃ wx : World, wx = wn := ⟨_, rfl⟩
          try dsimp only
          refine hK.out _ _ ?h38 (fun hHeld => ?_)
          case h38 => first | exact ⟨cG, hcell⟩ | exact ⟨cg, cl⟩ | exact ⟨hcg, hcl⟩
          clear hK K
          try simp only [Act.put, List.setIfInBounds_toArray, List.set_cons_zero, List.set_cons_succ]
          refine wpAnyH_take (i := 6) (v := ?v39) (by simp only [List.getElem?_toArray, List.getElem?_cons_succ, List.getElem?_cons_zero]; exact rfl) (by kernel_rfl) (by kernel_rfl) (by kernel_rfl) (by intro _ _ _ h; exact h) (Or.inl ⟨by rfl, ?y39⟩) hHeld ?_
          case y39 => (intro w hSw; (try dsimp only at hSw); go_simp; try (with_reducible rfl))
          try simp only [Act.put, List.setIfInBounds_toArray, List.set_cons_zero, List.set_cons_succ]
          refine wpAnyH_take (i := 7) (v := ?v40) (by simp only [List.getElem?_toArray, List.getElem?_cons_succ, List.getElem?_cons_zero]; exact rfl) (by kernel_rfl) (by kernel_rfl) (by kernel_rfl) (by intro _ _ _ h; exact h) (Or.inl ⟨by rfl, ?y40⟩) hHeld ?_
          case y40 => (intro w hSw; (try dsimp only at hSw); go_simp; try (with_reducible rfl))
          try simp only [Act.put, List.setIfInBounds_toArray, List.set_cons_zero, List.set_cons_succ]
          refine wpAnyH_take (i := 8) (v := ?v41) (by simp only [List.getElem?_toArray, List.getElem?_cons_succ, List.getElem?_cons_zero]; exact rfl) (by kernel_rfl) (by kernel_rfl) (by kernel_rfl) (by intro _ _ _ h; exact h) (Or.inl ⟨by rfl, ?y41⟩) hHeld ?_
          case y41 => (intro w hSw; (try dsimp only at hSw); go_simp; try (with_reducible rfl))
          try simp only [Act.put, List.setIfInBounds_toArray, List.set_cons_zero, List.set_cons_succ]
          refine wpAnyH_ready (rs := [9]) (by kernel_rfl) (by simp) ?_
          refine AllReadyH.cons (by simp only [List.getElem?_toArray, List.getElem?_cons_succ, List.getElem?_cons_zero]; exact rfl) (fun K hK => ?_) AllReadyH.nil
          go_simp
          have hbn : Below wd.heap.size wd (wd.alloc (.cells #[.int .i64 0, .int .i64 0, .int .i64 0] 86)) := (Below.refl _ _).alloc (Nat.le_refl _) _
          have n0 : (wd.alloc (.cells #[.int .i64 0, .int .i64 0, .int .i64 0] 86)).cell? ⟨wd.heap.size, 0, none⟩ = some (.int .i64 0) := (by simp [go_sem])
          have n1 : (wd.alloc (.cells #[.int .i64 0, .int .i64 0, .int .i64 0] 86)).cell? ⟨wd.heap.size, 1, none⟩ = some (.int .i64 0) := (by simp [go_sem])
          have n2 : (wd.alloc (.cells #[.int .i64 0, .int .i64 0, .int .i64 0] 86)).cell? ⟨wd.heap.size, 2, none⟩ = some (.int .i64 0) := (by simp [go_sem])
          have g0 : (wd.alloc (.cells #[.int .i64 0, .int .i64 0, .int .i64 0] 86)).frozen? ⟨wd.heap.size, 0, none⟩ = false := (by simp [go_sem])
          have g1 : (wd.alloc (.cells #[.int .i64 0, .int .i64 0, .int .i64 0] 86)).frozen? ⟨wd.heap.size, 1, none⟩ = false := (by simp [go_sem])
          have g2 : (wd.alloc (.cells #[.int .i64 0, .int .i64 0, .int .i64 0] 86)).frozen? ⟨wd.heap.size, 2, none⟩ = false := (by simp [go_sem])
          have hnl : wd.heap.size < (wd.alloc (.cells #[.int .i64 0, .int .i64 0, .int .i64 0] 86)).heap.size := (by simp)
          have hnb : wr.heap.size ≤ wd.heap.size := hd.size
          have cg := (hbn.cell (cell_lt cg)).trans cg
          have cl := (hbn.cell (cell_lt cl)).trans cl
          have hd := hd.trans (hbn.mono hd.size)
          generalize (wd.alloc (.cells #[.int .i64 0, .int .i64 0, .int .i64 0] 86)) = wn at *
          generalize wd.heap.size = nb at n0 n1 n2 g0 g1 g2 hnl hnb ⊢
          obtain ⟨wd, rfl⟩ : ∃ wx : World, wx = wn := ⟨_, rfl⟩
          try dsimp only
          refine hK.out _ _ ?h43 (fun hHeld => ?_)
          case h43 => first | exact ⟨cG, hcell⟩ | exact ⟨cg, cl⟩ | exact ⟨hcg, hcl⟩
          clear hK K
          try simp only [Act.put, List.setIfInBounds_toArray, List.set_cons_zero, List.set_cons_succ]
          refine wpAnyH_ready (rs := [10]) (by kernel_rfl) (by simp) ?_
          refine AllReadyH.cons (by simp only [List.getElem?_toArray, List.getElem?_cons_succ, List.getElem?_cons_zero]; exact rfl) (fun K hK => ?_) AllReadyH.nil
          go_simp
          have hcg : (((wd.setCell ⟨nb, 0, none⟩ (.int .i64 (x : Int))).setCell ⟨nb, 1, none⟩ (.int .i64 fb)).setCell ⟨nb, 2, none⟩ (.int .i64 fc)).cell? ⟨w.heap.size, 0, none⟩ = some (Value.slice gva (rowsN a' left' n).length gvc) := (World.cell?_of_block (a := ⟨w.heap.size, 0, none⟩) ((Below.heap_setCell _ _ _ _ (by simp; omega)).trans ((Below.heap_setCell _ _ _ _ (by simp; omega)).trans (Below.heap_setCell _ _ _ _ (by simp; omega))))).trans cg
          have hcl : (((wd.setCell ⟨nb, 0, none⟩ (.int .i64 (x : Int))).setCell ⟨nb, 1, none⟩ (.int .i64 fb)).setCell ⟨nb, 2, none⟩ (.int .i64 fc)).cell? ⟨lb, lo + k, none⟩ = some (.int .i64 (x : Int)) := (World.cell?_of_block (a := ⟨lb, lo + k, none⟩) ((Below.heap_setCell _ _ _ _ (by simp; omega)).trans ((Below.heap_setCell _ _ _ _ (by simp; omega)).trans (Below.heap_setCell _ _ _ _ (by simp; omega))))).trans cl
          try dsimp only
          refine hK.out _ _ ?h45 (fun hHeld => ?_)
          case h45 => first | exact ⟨cG, hcell⟩ | exact ⟨cg, cl⟩ | exact ⟨hcg, hcl⟩
          clear hK K
          try simp only [Act.put, List.setIfInBounds_toArray, List.set_cons_zero, List.set_cons_succ]
          refine wpAnyH_take (i := 11) (v := ?v46) (by simp only [List.getElem?_toArray, List.getElem?_cons_succ, List.getElem?_cons_zero]; exact rfl) (by kernel_rfl) (by kernel_rfl) (by kernel_rfl) (by intro _ _ _ h; exact h) (Or.inl ⟨by rfl, ?y46⟩) hHeld ?_
          case y46 => (intro w hSw; (try dsimp only at hSw); go_simp; try (with_reducible rfl))
          try simp only [Act.put, List.setIfInBounds_toArray, List.set_cons_zero, List.set_cons_succ]
          refine wpAnyH_done (by kernel_rfl) ?_ _
          exact rest nb _ ⟨((hd.setCell hnb _).setCell hnb _).setCell hnb _, hnb, by (simp [go_sem, n0, n1, n2]), by (simp [go_sem, n0, n1, n2]), by (simp [go_sem, n0, n1, n2])⟩
        case b37_9 =>
          go_simp
          have hbn : Below wd.heap.size wd (wd.alloc (.cells #[.int .i64 0, .int .i64 0, .int .i64 0] 86)) := (Below.refl _ _).alloc (Nat.le_refl _) _
          have n0 : (wd.alloc (.cells #[.int .i64 0, .int .i64 0, .int .i64 0] 86)).cell? ⟨wd.heap.size, 0, none⟩ = some (.int .i64 0) := (by simp [go_sem])
          have n1 : (wd.alloc (.cells #[.int .i64 0, .int .i64 0, .int .i64 0] 86)).cell? ⟨wd.heap.size, 1, none⟩ = some (.int .i64 0) := (by simp [go_sem])
          have n2 : (wd.alloc (.cells #[.int .i64 0, .int .i64 0, .int .i64 0] 86)).cell? ⟨wd.heap.size, 2, none⟩ = some (.int .i64 0) := (by simp [go_sem])
          have g0 : (wd.alloc (.cells #[.int .i64 0, .int .i64 0, .int .i64 0] 86)).frozen? ⟨wd.heap.size, 0, none⟩ = false := (by simp [go_sem])
          have g1 : (wd.alloc (.cells #[.int .i64 0, .int .i64 0, .int .i64 0] 86)).frozen? ⟨wd.heap.size, 1, none⟩ = false := (by simp [go_sem])
          have g2 : (wd.alloc (.cells #[.int .i64 0, .int .i64 0, .int .i64 0] 86)).frozen? ⟨wd.heap.size, 2, none⟩ = false := (by simp [go_sem])
          have hnl : wd.heap.size < (wd.alloc (.cells #[.int .i64 0, .int .i64 0, .int .i64 0] 86)).heap.size := (by simp)
          have hnb : wr.heap.size ≤ wd.heap.size := hd.size
          have cg := (hbn.cell (cell_lt cg)).trans cg
          have cl := (hbn.cell (cell_lt cl)).trans cl
          have hd := hd.trans (hbn.mono hd.size)
          generalize (wd.alloc (.cells #[.int .i64 0, .int .i64 0, .int .i64 0] 86)) = wn at *
          generalize wd.heap.size = nb at n0 n1 n2 g0 g1 g2 hnl hnb ⊢
          obtain ⟨wd, rfl⟩ : ∃ wx : World, wx = wn := ⟨_, rfl⟩
          try dsimp only
          refine hK.out _ _ ?h47 (fun hHeld => ?_)
          case h47 => first | exact ⟨cG, hcell⟩ | exact ⟨cg, cl⟩ | exact ⟨hcg, hcl⟩
          clear hK K
          try simp only [Act.put, List.setIfInBounds_toArray, List.set_cons_zero, List.set_cons_succ]
          refine wpAnyH_ready (rs := [5]) (by kernel_rfl) (by simp) ?_
          refine AllReadyH.cons (by simp only [List.getElem?_toArray, List.getElem?_cons_succ, List.getElem?_cons_zero]; exact rfl) (fun K hK => ?_) AllReadyH.nil
          go_simp
          refine (hat wd hd).mono ?_
          rintro e wn ⟨rfl, hbn⟩
          try (have n0 := (hbn.cell (cell_lt n0)).trans n0)
          try (have n1 := (hbn.cell (cell_lt n1)).trans n1)
          try (have n2 := (hbn.cell (cell_lt n2)).trans n2)
          try (have g0 := (hbn.frozen (p := ⟨nb, 0, none⟩) hnl).trans g0)
          try (have g1 := (hbn.frozen (p := ⟨nb, 1, none⟩) hnl).trans g1)
          try (have g2 := (hbn.frozen (p := ⟨nb, 2, none⟩) hnl).trans g2)
          try (have hnl := Nat.lt_of_lt_of_le hnl hbn.size)
          have cg := (hbn.cell (cell_lt cg)).trans cg
          have cl := (hbn.cell (cell_lt cl)).trans cl
          have hd := hd.trans (hbn.mono hd.size)
          obtain ⟨wd, rfl⟩ : ∃ wx : World, wx = wn := ⟨_, rfl⟩
          try dsimp only
          refine hK.out _ _ ?h49 (fun hHeld => ?_)
          case h49 => first | exact ⟨cG, hcell⟩ | exact ⟨cg, cl⟩ | exact ⟨hcg, hcl⟩
          clear hK K
          try simp only [Act.put, List.setIfInBounds_toArray, List.set_cons_zero, List.set_cons_succ]
          refine wpAnyH_take (i := 6) (v := ?v50) (by simp only [List.getElem?_toArray, List.getElem?_cons_succ, List.getElem?_cons_zero]; exact rfl) (by kernel_rfl) (by kernel_rfl) (by kernel_rfl) (by intro _ _ _ h; exact h) (Or.inl ⟨by rfl, ?y50⟩) hHeld ?_
          case y50 => (intro w hSw; (try dsimp only at hSw); go_simp; try (with_reducible rfl))
          try simp only [Act.put, List.setIfInBounds_toArray, List.set_cons_zero, List.set_cons_succ]
          refine wpAnyH_take (i := 7) (v := ?v51) (by simp only [List.getElem?_toArray, List.getElem?_cons_succ, List.getElem?_cons_zero]; exact rfl) (by kernel_rfl) (by kernel_rfl) (by kernel_rfl) (by intro _ _ _ h; exact h) (Or.inl ⟨by rfl, ?y51⟩) hHeld ?_
          case y51 => (intro w hSw; (try dsimp only at hSw); go_simp; try (with_reducible rfl))
          try simp only [Act.put, List.setIfInBounds_toArray, List.set_cons_zero, List.set_cons_succ]
          refine wpAnyH_take (i := 8) (v := ?v52) (by simp only [List.getElem?_toArray, List.getElem?_cons_succ, List.getElem?_cons_zero]; exact rfl) (by kernel_rfl) (by kernel_rfl) (by kernel_rfl) (by intro _ _ _ h; exact h) (Or.inl ⟨by rfl, ?y52⟩) hHeld ?_
          case y52 => (intro w hSw; (try dsimp only at hSw); go_simp; try (with_reducible rfl))
          try simp only [Act.put, List.setIfInBounds_toArray, List.set_cons_zero, List.set_cons_succ]
          refine wpAnyH_ready (rs := [10]) (by kernel_rfl) (by simp) ?_
          refine AllReadyH.cons (by simp only [List.getElem?_toArray, List.getElem?_cons_succ, List.getElem?_cons_zero]; exact rfl) (fun K hK => ?_) AllReadyH.nil
          go_simp
          have hcg : (((wd.setCell ⟨nb, 0, none⟩ (.int .i64 (x : Int))).setCell ⟨nb, 1, none⟩ (.int .i64 fb)).setCell ⟨nb, 2, none⟩ (.int .i64 fc)).cell? ⟨w.heap.size, 0, none⟩ = some (Value.slice gva (rowsN a' left' n).length gvc) := (World.cell?_of_block (a := ⟨w.heap.size, 0, none⟩) ((Below.heap_setCell _ _ _ _ (by simp; omega)).trans ((Below.heap_setCell _ _ _ _ (by simp; omega)).trans (Below.heap_setCell _ _ _ _ (by simp; omega))))).trans cg
          have hcl : (((wd.setCell ⟨nb, 0, none⟩ (.int .i64 (x : Int))).setCell ⟨nb, 1, none⟩ (.int .i64 fb)).setCell ⟨nb, 2, none⟩ (.int .i64 fc)).cell? ⟨lb, lo + k, none⟩ = some (.int .i64 (x : Int)) := (World.cell?_of_block (a := ⟨lb, lo + k, none⟩) ((Below.heap_setCell _ _ _ _ (by simp; omega)).trans ((Below.heap_setCell _ _ _ _ (by simp; omega)).trans (Below.heap_setCell _ _ _ _ (by simp; omega))))).trans cl
          try dsimp only
          refine hK.out _ _ ?h54 (fun hHeld => ?_)
          case h54 => first | exact ⟨cG, hcell⟩ | exact ⟨cg, cl⟩ | exact ⟨hcg, hcl⟩
          clear hK K
          try simp only [Act.put, List.setIfInBounds_toArray, List.set_cons_zero, List.set_cons_succ]
          refine wpAnyH_take (i := 11) (v := ?v55) (by simp only [List.getElem?_toArray, List.getElem?_cons_succ, List.getElem?_cons_zero]; exact rfl) (by kernel_rfl) (by kernel_rfl) (by kernel_rfl) (by intro _ _ _ h; exact h) (Or.inl ⟨by rfl, ?y55⟩) hHeld ?_
          case y55 => (intro w hSw; (try dsimp only at hSw); go_simp; try (with_reducible rfl))
          try simp only [Act.put, List.setIfInBounds_toArray, List.set_cons_zero, List.set_cons_succ]
          refine wpAnyH_done (by kernel_rfl) ?_ _
          exact rest nb _ ⟨((hd.setCell hnb _).setCell hnb _).setCell hnb _, hnb, by (simp [go_sem, n0, n1, n2]), by (simp [go_sem, n0, n1, n2]), by (simp [go_sem, n0, n1, n2])⟩
      case rest =>
        intro nb w4 ⟨hd, hnb, n0, n1, n2⟩
        clear hat cG hcell
        have hbx4 := hbx.below hd (Nat.le_refl _)
        have hres4 := hres.below hd (Nat.le_refl _)
        have hout4 := hout.below hd (Nat.le_refl _)
        have hgv4 := hgv.off (OffTo.below hd)
        have hlv4 := hlv.off (OffTo.below hd)
        have hq4 := hq.trans (hd.mono hq.size)
        have hB4 : w.heap.size + 2 ≤ w4.heap.size := by have := hd.size; have := HHL.out; omega
        have hol := fun b hb => (hout.lt b hb).2
        have hnl4 := cell_lt n0
        simp only at hnl4
        clear hbx hres hout hgv hlv hq
        go_wp2_with (at_builtin; refine wpList_append1m elFolds rfl _ _ rfl hout4 rfl rfl rfl rfl (by simp [Value.oneCell']) (by omega) hB4 ?_; intro o' w5 hout5 hkept hmv; have hko : ∀ b, b < w4.heap.size → wr.heap.size ≤ b ∨ b < w.heap.size + 2 → w5.heap[b]? = w4.heap[b]? := (fun b hb h => hkept.2.2.2.2 b hb (fun e => by have h5 := hol b e.symm; have h6 := (hout4.lt b e.symm).1; omega)); have n05 := (World.cell?_of_block (a := ⟨nb, 0, none⟩) (hko nb hnl4 (.inl hnb))).trans n0; have n15 := (World.cell?_of_block (a := ⟨nb, 1, none⟩) (hko nb hnl4 (.inl hnb))).trans n1; have n25 := (World.cell?_of_block (a := ⟨nb, 2, none⟩) (hko nb hnl4 (.inl hnb))).trans n2; have hbx5 := Own.kept hbx4 hkept (fun b hb he => by simp [Value.ownBlock] at hb; have := (hout4.lt b he).1; omega); have cG5 := (World.ownsRow.cellAt hbx5 0 (by omega)).trans (show _ = some (Value.slice gva (rowsN a' left' n).length gvc) from rfl))
        have hOA : OffTo w.heap.size _ w4 o' w5 := OffTo.append hkept hmv (by simp)
        have hgv5 := hgv4.off hOA
        have hlv5 := hlv4.off hOA
        have hres5 := Own.kept hres4 hkept (fun b hb he => by simp [Value.ownBlock] at hb; have := (hout4.lt b he).1; omega)
        have hq5 := hkept.below hq4 hq4.size (fun b hb => by have := (hout4.lt b hb).1; omega)
        refine (hfo w5 _ _ hgv5).mono ?_
        rintro e w6 ⟨gv6, rfl, hgv6, hb6⟩
        have hbx6 := hbx5.below hb6 (Nat.le_refl _)
        have hres6 := hres5.below hb6 (Nat.le_refl _)
        have hout6 := hout5.below hb6 (Nat.le_refl _)
        have hlv6 := hlv5.off (OffTo.below hb6)
        have hq6 := hq5.trans (hb6.mono hq5.size)
        have n06 := (hb6.cell (cell_lt n05)).trans n05
        have n16 := (hb6.cell (cell_lt n15)).trans n15
        have n26 := (hb6.cell (cell_lt n25)).trans n25
        have cG6 := (hb6.cell (cell_lt cG5)).trans cG5
        have fG6 := World.ownsRow.frozenAt hbx6 0
        have hg6 := hgv6.low3
        obtain ⟨ga6, gc6, rfl⟩ := hgv6.slice
        have ho5 := fun b hb => (hout5.lt b hb).2
        have hz5 : w.heap.size + 1 < w5.heap.size := (hres5.lt _ rfl).2
        have hgO : SlR (Off w6 w.heap.size o') w6 (.slice ga6 (rowsN (foldN a' ⟨x, fb, fc⟩) (andN left' (bit x)) n).length gc6) (rowsN (foldN a' ⟨x, fb, fc⟩) (andN left' (bit x)) n) :=
          hg6.weak fun b hb => ⟨hb.2, ⟨by omega, by omega⟩, fun e => by have := ho5 b e; omega⟩
        have hset := fun (z : Value) => OffTo.set (x := w.heap.size) (y := w.heap.size) (j := 0) (o := o') (u := z) (W := w6) (.inl rfl)
        have hgO7 := hgO.off (hset (.slice ga6 (rowsN (foldN a' ⟨x, fb, fc⟩) (andN left' (bit x)) n).length gc6))
        have hlv7 := hlv6.off (hset (.slice ga6 (rowsN (foldN a' ⟨x, fb, fc⟩) (andN left' (bit x)) n).length gc6))
        have hbx7 := hbx6.stored 0 (.slice ga6 (rowsN (foldN a' ⟨x, fb, fc⟩) (andN left' (bit x)) n).length gc6)
        have hk7 : ∀ b, b ≠ w.heap.size → (w6.setCell ⟨w.heap.size, 0, none⟩ (.slice ga6 (rowsN (foldN a' ⟨x, fb, fc⟩) (andN left' (bit x)) n).length gc6)).heap[b]? = w6.heap[b]? := fun b hb => Below.heap_setCell _ _ _ _ (by simpa using hb)
        have hres7 := hres6.keep (w' := w6.setCell ⟨w.heap.size, 0, none⟩ (.slice ga6 (rowsN (foldN a' ⟨x, fb, fc⟩) (andN left' (bit x)) n).length gc6)) (fun b hb => hk7 b (by simp [Value.ownBlock] at hb; omega))
        have hout7 := hout6.keep (w' := w6.setCell ⟨w.heap.size, 0, none⟩ (.slice ga6 (rowsN (foldN a' ⟨x, fb, fc⟩) (andN left' (bit x)) n).length gc6)) (fun b hb => hk7 b (by have := (hout6.lt b hb).1; omega))
        have hq7 := hq6.setCell (p := ⟨w.heap.size, 0, none⟩) (by simp) (.slice ga6 (rowsN (foldN a' ⟨x, fb, fc⟩) (andN left' (bit x)) n).length gc6)
        have hnb7 : nb ≠ w.heap.size := by have := HHL.out; omega
        have n07 := (World.cell?_of_block (a := ⟨nb, 0, none⟩) (hk7 nb hnb7)).trans n06
        clear hgO hg6 hgv6 hset hbx6 hres6 hout6 hlv6 hq6 hk7 hbx5 hres5 hout5 hlv5 hgv5 hq5 hOA
        go_wp2_with fail
        (refine (l19Less_any hlv7 hl32 (by omega)).mono ?_)
        rintro e w8 ⟨l8, rfl, hl8, hb8⟩
        have hlen8 := lenV_own hl8
        have hlt8 := fun b hb => Own.lt hl8 b hb
        have hg8 : ∀ b, l8.ownBlock = some b → w5.heap.size ≤ b := fun b hb => by have h1 := (hlt8 b hb).1; have h2 := hb6.size; simp at h1; omega
        have hl8i := hl8.ints
        obtain ⟨l8a, l8c, rfl⟩ := hl8i.slice
        have hz7 : w5.heap.size ≤ w8.heap.size := by have h1 := hb6.size; have h2 := hb8.size; simp at h2; omega
        go_wp2
        go_roundw
        case rel => exact ⟨_, _, fu, 0, m + 1, _, _, by first | rfl | (simp; done) | go_num, hJ2, Nat.zero_le _, (fun j _ h => by omega), by omega, HS.out, hbx7.below hb8 (Nat.le_refl _), hres7.below hb8 (Nat.le_refl _), hout7.below hb8 (Nat.le_refl _), by omega, hgO7.off (OffTo.below hb8), hl8i.weak (fun b hb => ⟨(hlt8 b hb).2, ⟨by have := hg8 b hb; omega, by have := hg8 b hb; omega⟩, fun e => by have h1 := ho5 b e; have h2 := hg8 b hb; omega⟩), hq7.trans (hb8.mono hq7.size)⟩
        case measure =>
          have h1 := HPN.out
          simp only [lenV] at hlen8 ⊢
          omega
end Go.Proofs.YtfccpencgengaaaDoor
