/- The program's embeddings: the search from its start. -/
import Derived.Test.YtdbanndcdbikmaaGreatDoorHrP
import Derived.Test.YtdbanndcdbikmaaGreatDoorDistM
namespace Go.Proofs.YtdbanndcdbikmaaGreatDoor
open Go.RowKit
theorem elTurnsR : Elem Tryz.prog 54 57 1 24 (.slice none 0 0) := ⟨Tryz.underlying54, by kernel_rfl, rfl, by omega, by omega⟩
set_option maxRecDepth 100000 in
set_option maxHeartbeats 16000000 in
theorem embeddings_any {σ : Type} {St : (Nat → Prop) → σ → World → Prop} {ef : List (List Nat) → σ → σ} {N cb db : Nat} {K : List (List Nat) → Prop} (HE : EachT Tryz.prog N cb db St ef K) {S : Nat → Prop} {nv : Value} {H : List Nat} {w : World} {s : σ} {F : Nat → Prop}
    (ht : Tab w) (hN : NetW H) (h1 : 0 < H.length) (hv : SlI S w .u32 nv (natsI H)) (hst : St F s w) (hF : ∀ b, F b → b < w.heap.size) (hK : ∀ t, HasE H.length t (growR H 0) → K t) :
    Calls Tryz.prog 48 #[nv, .func (Fn.func N) #[] #[.pointer (some ⟨cb, 0, none⟩), .pointer (some ⟨db, 0, none⟩)]] w fun e w' => ∃ F' : Nat → Prop, e = .returned (.tuple #[]) ∧ St F' ((rawI (growR H 0) (List.replicate H.length [])).foldl (fun s x => ef x s) s) w' ∧ Keeps F w w' ∧ (∀ b, F' b → F b ∨ w.heap.size ≤ b) := by
  have h16 := hN.le
  have HGR := Lib.hid (fun (W : World) (hb : Below w.heap.size w W) => growthOf_any (ht.below hb (Nat.le_refl _)) hN h1 (hv.below hb (Nat.le_refl _)))
  obtain ⟨na, nc, rfl⟩ := hv.slice
  rw [natsI_len] at *
  clear hv
  go_enter Tryz.func48, Tryz.ntmps48
  go_wp2
  have hmk := run_make_row' (P := Tryz.prog) 54 57 (.slice none 0 0) 24 elTurnsR.ht elTurnsR.hi rfl .i64 .i64 H.length (by omega) (by omega)
  apply meet5 (H := fun (ea : Option Addr) (ec tb xb : Nat) (wn : World) => Below w.heap.size w wn ∧ Own wn w.heap.size 100 2 (.slice ea (growR H 0).length ec) (growR H 0).length ((flatE (growR H 0)).map (.int .i64)) ∧ Own wn w.heap.size 57 1 (.slice (some ⟨tb, 0, none⟩) H.length H.length) H.length (List.replicate H.length (.slice none 0 0)) ∧ Own wn w.heap.size 121 3 (.slice (some ⟨xb, 0, none⟩) 1 1) 1 [.slice ea (growR H 0).length ec, .slice (some ⟨tb, 0, none⟩) H.length H.length, .func (Fn.func N) #[] #[.pointer (some ⟨cb, 0, none⟩), .pointer (some ⟨db, 0, none⟩)]])
  case orders =>
    intro rest
    refine wp_region_held_drew (S := (fun _ => True)) (by kernel_rfl) ?_ (fun hHeld => ?_)
    · trivial
    have hbd : Below w.heap.size w w.drew := (Below.refl _ _).drew
    generalize w.drew = wd at hbd hHeld ⊢
    refine wpAnyH_take (i := 0) (v := ?v1) (by simp only [List.getElem?_toArray, List.getElem?_cons_zero]; exact rfl) (by kernel_rfl) (by kernel_rfl) (by kernel_rfl) (by intro _ _ _ h; exact h) (Or.inl ⟨by rfl, ?y1⟩) hHeld ?_
    case y1 => (intro w hSw; (try dsimp only at hSw); go_simp; try (with_reducible rfl))
    try simp only [Act.put, List.setIfInBounds_toArray, List.set_cons_zero, List.set_cons_succ]
    refine wpAnyH_take (i := 2) (v := ?v2) (by simp only [List.getElem?_toArray, List.getElem?_cons_succ, List.getElem?_cons_zero]; exact rfl) (by kernel_rfl) (by kernel_rfl) (by kernel_rfl) (by intro _ _ _ h; exact h) (Or.inl ⟨by rfl, ?y2⟩) hHeld ?_
    case y2 => (intro w hSw; (try dsimp only at hSw); go_simp; try (with_reducible rfl))
    try simp only [Act.put, List.setIfInBounds_toArray, List.set_cons_zero, List.set_cons_succ]
    refine wpAnyH_take (i := 3) (v := ?v3) (by simp only [List.getElem?_toArray, List.getElem?_cons_succ, List.getElem?_cons_zero]; exact rfl) (by kernel_rfl) (by kernel_rfl) (by kernel_rfl) (by intro _ _ _ h; exact h) (Or.inl ⟨by rfl, ?y3⟩) hHeld ?_
    case y3 => (intro w hSw; (try dsimp only at hSw); go_simp; try (with_reducible rfl))
    try simp only [Act.put, List.setIfInBounds_toArray, List.set_cons_zero, List.set_cons_succ]
    refine wpAnyH_take (i := 5) (v := ?v4) (by simp only [List.getElem?_toArray, List.getElem?_cons_succ, List.getElem?_cons_zero]; exact rfl) (by kernel_rfl) (by kernel_rfl) (by kernel_rfl) (by intro _ _ _ h; exact h) (Or.inl ⟨by rfl, ?y4⟩) hHeld ?_
    case y4 => (intro w hSw; (try dsimp only at hSw); go_simp; try (with_reducible rfl))
    try simp only [Act.put, List.setIfInBounds_toArray, List.set_cons_zero, List.set_cons_succ]
    refine wpAnyH_ready (rs := [1, 4]) (by kernel_rfl) (by simp) ?_
    refine (AllReadyH.cons (by simp only [List.getElem?_toArray, List.getElem?_cons_succ, List.getElem?_cons_zero]; exact rfl) (fun K hK => ?b5_1) (AllReadyH.cons (by simp only [List.getElem?_toArray, List.getElem?_cons_succ, List.getElem?_cons_zero]; exact rfl) (fun K hK => ?b5_4) AllReadyH.nil))
    case b5_1 =>
      go_simp
      (with_reducible refine (HGR.out wd hbd).mono ?_)
      rintro e wn ⟨eu, rfl, heu, hbn⟩
      obtain ⟨ea, ec, rfl⟩ := heu.isSlice
      try (have htn := htn.below hbn (Nat.le_refl _))
      have heu := heu.weak hbd.size
      have hbd := hbd.trans (hbn.mono hbd.size)
      clear hbn
      obtain ⟨wd, rfl⟩ : ∃ wx : World, wx = wn := ⟨_, rfl⟩
      try dsimp only
      refine hK.out _ _ ?h6 (fun hHeld => ?_)
      case h6 => trivial
      clear hK K
      try simp only [Act.put, List.setIfInBounds_toArray, List.set_cons_zero, List.set_cons_succ]
      refine wpAnyH_ready (rs := [4]) (by kernel_rfl) (by simp) ?_
      refine AllReadyH.cons (by simp only [List.getElem?_toArray, List.getElem?_cons_succ, List.getElem?_cons_zero]; exact rfl) (fun K hK => ?_) AllReadyH.nil
      go_simp
      have hbn : Below wd.heap.size wd (wd.alloc (.cells (madeCells #[Value.slice none 0 0] H.length) 57)) := (Below.refl _ _).alloc (Nat.le_refl _) _
      have htn := Own.made wd w.heap.size 57 (.slice none 0 0) H.length hbd.size (by omega)
      try (have heu := heu.below hbn (Nat.le_refl _))
      have hbd := hbd.trans (hbn.mono hbd.size)
      clear hbn
      generalize (wd.alloc (.cells (madeCells #[Value.slice none 0 0] H.length) 57)) = wn at *
      generalize wd.heap.size = tb at htn ⊢
      obtain ⟨wd, rfl⟩ : ∃ wx : World, wx = wn := ⟨_, rfl⟩
      try dsimp only
      refine hK.out _ _ ?h8 (fun hHeld => ?_)
      case h8 => trivial
      clear hK K
      try simp only [Act.put, List.setIfInBounds_toArray, List.set_cons_zero, List.set_cons_succ]
      refine wpAnyH_take (i := 6) (v := ?v9) (by simp only [List.getElem?_toArray, List.getElem?_cons_succ, List.getElem?_cons_zero]; exact rfl) (by kernel_rfl) (by kernel_rfl) (by kernel_rfl) (by intro _ _ _ h; exact h) (Or.inl ⟨by rfl, ?y9⟩) hHeld ?_
      case y9 => (intro w hSw; (try dsimp only at hSw); go_simp; try (with_reducible rfl))
      try simp only [Act.put, List.setIfInBounds_toArray, List.set_cons_zero, List.set_cons_succ]
      refine wpAnyH_ready (rs := [7]) (by kernel_rfl) (by simp) ?_
      refine AllReadyH.cons (by simp only [List.getElem?_toArray, List.getElem?_cons_succ, List.getElem?_cons_zero]; exact rfl) (fun K hK => ?_) AllReadyH.nil
      go_simp
      have hbn : Below wd.heap.size wd (wd.alloc (.cells #[.slice ea (growR H 0).length ec, .slice (some ⟨tb, 0, none⟩) H.length H.length, .func (Fn.func N) #[] #[.pointer (some ⟨cb, 0, none⟩), .pointer (some ⟨db, 0, none⟩)]] 121)) := (Below.refl _ _).alloc (Nat.le_refl _) _
      have hxn := World.ownsRow_lit (base := w.heap.size) (e := 121) (size := 3) wd #[.slice ea (growR H 0).length ec, .slice (some ⟨tb, 0, none⟩) H.length H.length, .func (Fn.func N) #[] #[.pointer (some ⟨cb, 0, none⟩), .pointer (some ⟨db, 0, none⟩)]] 1 hbd.size (by unfold maxLen; omega) rfl
      have heu := heu.below hbn (Nat.le_refl _)
      have htn := htn.below hbn (Nat.le_refl _)
      have hbd := hbd.trans (hbn.mono hbd.size)
      clear hbn
      generalize (wd.alloc (.cells #[.slice ea (growR H 0).length ec, .slice (some ⟨tb, 0, none⟩) H.length H.length, .func (Fn.func N) #[] #[.pointer (some ⟨cb, 0, none⟩), .pointer (some ⟨db, 0, none⟩)]] 121)) = wn at *
      generalize wd.heap.size = xb at hxn ⊢
      obtain ⟨wd, rfl⟩ : ∃ wx : World, wx = wn := ⟨_, rfl⟩
      try dsimp only
      refine hK.out _ _ ?h11 (fun hHeld => ?_)
      case h11 => trivial
      clear hK K
      try simp only [Act.put, List.setIfInBounds_toArray, List.set_cons_zero, List.set_cons_succ]
      refine wpAnyH_take (i := 8) (v := ?v12) (by simp only [List.getElem?_toArray, List.getElem?_cons_succ, List.getElem?_cons_zero]; exact rfl) (by kernel_rfl) (by kernel_rfl) (by kernel_rfl) (by intro _ _ _ h; exact h) (Or.inl ⟨by rfl, ?y12⟩) hHeld ?_
      case y12 => (intro w hSw; (try dsimp only at hSw); go_simp; try (with_reducible rfl))
      try simp only [Act.put, List.setIfInBounds_toArray, List.set_cons_zero, List.set_cons_succ]
      refine wpAnyH_done (by kernel_rfl) ?_ _
      exact rest ea ec tb xb wd ⟨hbd, heu, htn, hxn⟩
    case b5_4 =>
      go_simp
      have hbn : Below wd.heap.size wd (wd.alloc (.cells (madeCells #[Value.slice none 0 0] H.length) 57)) := (Below.refl _ _).alloc (Nat.le_refl _) _
      have htn := Own.made wd w.heap.size 57 (.slice none 0 0) H.length hbd.size (by omega)
      try (have heu := heu.below hbn (Nat.le_refl _))
      have hbd := hbd.trans (hbn.mono hbd.size)
      clear hbn
      generalize (wd.alloc (.cells (madeCells #[Value.slice none 0 0] H.length) 57)) = wn at *
      generalize wd.heap.size = tb at htn ⊢
      obtain ⟨wd, rfl⟩ : ∃ wx : World, wx = wn := ⟨_, rfl⟩
      try dsimp only
      refine hK.out _ _ ?h13 (fun hHeld => ?_)
      case h13 => trivial
      clear hK K
      try simp only [Act.put, List.setIfInBounds_toArray, List.set_cons_zero, List.set_cons_succ]
      refine wpAnyH_ready (rs := [1]) (by kernel_rfl) (by simp) ?_
      refine AllReadyH.cons (by simp only [List.getElem?_toArray, List.getElem?_cons_succ, List.getElem?_cons_zero]; exact rfl) (fun K hK => ?_) AllReadyH.nil
      go_simp
      (with_reducible refine (HGR.out wd hbd).mono ?_)
      rintro e wn ⟨eu, rfl, heu, hbn⟩
      obtain ⟨ea, ec, rfl⟩ := heu.isSlice
      try (have htn := htn.below hbn (Nat.le_refl _))
      have heu := heu.weak hbd.size
      have hbd := hbd.trans (hbn.mono hbd.size)
      clear hbn
      obtain ⟨wd, rfl⟩ : ∃ wx : World, wx = wn := ⟨_, rfl⟩
      try dsimp only
      refine hK.out _ _ ?h15 (fun hHeld => ?_)
      case h15 => trivial
      clear hK K
      try simp only [Act.put, List.setIfInBounds_toArray, List.set_cons_zero, List.set_cons_succ]
      refine wpAnyH_take (i := 6) (v := ?v16) (by simp only [List.getElem?_toArray, List.getElem?_cons_succ, List.getElem?_cons_zero]; exact rfl) (by kernel_rfl) (by kernel_rfl) (by kernel_rfl) (by intro _ _ _ h; exact h) (Or.inl ⟨by rfl, ?y16⟩) hHeld ?_
      case y16 => (intro w hSw; (try dsimp only at hSw); go_simp; try (with_reducible rfl))
      try simp only [Act.put, List.setIfInBounds_toArray, List.set_cons_zero, List.set_cons_succ]
      refine wpAnyH_ready (rs := [7]) (by kernel_rfl) (by simp) ?_
      refine AllReadyH.cons (by simp only [List.getElem?_toArray, List.getElem?_cons_succ, List.getElem?_cons_zero]; exact rfl) (fun K hK => ?_) AllReadyH.nil
      go_simp
      have hbn : Below wd.heap.size wd (wd.alloc (.cells #[.slice ea (growR H 0).length ec, .slice (some ⟨tb, 0, none⟩) H.length H.length, .func (Fn.func N) #[] #[.pointer (some ⟨cb, 0, none⟩), .pointer (some ⟨db, 0, none⟩)]] 121)) := (Below.refl _ _).alloc (Nat.le_refl _) _
      have hxn := World.ownsRow_lit (base := w.heap.size) (e := 121) (size := 3) wd #[.slice ea (growR H 0).length ec, .slice (some ⟨tb, 0, none⟩) H.length H.length, .func (Fn.func N) #[] #[.pointer (some ⟨cb, 0, none⟩), .pointer (some ⟨db, 0, none⟩)]] 1 hbd.size (by unfold maxLen; omega) rfl
      have heu := heu.below hbn (Nat.le_refl _)
      have htn := htn.below hbn (Nat.le_refl _)
      have hbd := hbd.trans (hbn.mono hbd.size)
      clear hbn
      generalize (wd.alloc (.cells #[.slice ea (growR H 0).length ec, .slice (some ⟨tb, 0, none⟩) H.length H.length, .func (Fn.func N) #[] #[.pointer (some ⟨cb, 0, none⟩), .pointer (some ⟨db, 0, none⟩)]] 121)) = wn at *
      generalize wd.heap.size = xb at hxn ⊢
      obtain ⟨wd, rfl⟩ : ∃ wx : World, wx = wn := ⟨_, rfl⟩
      try dsimp only
      refine hK.out _ _ ?h18 (fun hHeld => ?_)
      case h18 => trivial
      clear hK K
      try simp only [Act.put, List.setIfInBounds_toArray, List.set_cons_zero, List.set_cons_succ]
      refine wpAnyH_take (i := 8) (v := ?v19) (by simp only [List.getElem?_toArray, List.getElem?_cons_succ, List.getElem?_cons_zero]; exact rfl) (by kernel_rfl) (by kernel_rfl) (by kernel_rfl) (by intro _ _ _ h; exact h) (Or.inl ⟨by rfl, ?y19⟩) hHeld ?_
      case y19 => (intro w hSw; (try dsimp only at hSw); go_simp; try (with_reducible rfl))
      try simp only [Act.put, List.setIfInBounds_toArray, List.set_cons_zero, List.set_cons_succ]
      refine wpAnyH_done (by kernel_rfl) ?_ _
      exact rest ea ec tb xb wd ⟨hbd, heu, htn, hxn⟩
  case rest =>
    intro ea ec tb xb wn ⟨hbn, heu, htn, hxn⟩
    have hxB := (hxn.lt xb rfl).1
    have htB := (htn.lt tb rfl).1
    have htL := (htn.lt tb rfl).2
    have hxt : xb ≠ tb := fun e => own_type hxn htn (by decide) xb rfl (by rw [e]; rfl)
    have htu : TurnAt wn tb 0 H.length (fun _ => .slice none 0 0) F (List.replicate H.length []) := by
      refine ⟨fun a ha => ?_, fun a ha => World.ownsRow.frozenAt htn (0 + a), fun a ha => ?_⟩
      · have h := World.ownsRow.cellAt htn a (by omega)
        rw [List.getElem?_eq_getElem (by simpa using ha), List.getElem_replicate] at h
        rw [Nat.zero_add]
        simpa using h
      · have e : (List.replicate H.length ([] : List Nat)).getD a [] = [] := by simp [List.getElem?_replicate, ha]
        rw [e]
        exact ⟨none, 0, 0, 0, rfl, ⟨Nat.le_refl _, by omega⟩, fun h => absurd h (by simp [natsI]), fun i hi => absurd hi (by simp [natsI])⟩
    have hbx : BoxE wn F xb tb 0 H.length H.length N cb db ea ec (growR H 0) := by
      refine ⟨World.ownsRow.cellAt hxn 0 (by omega), World.ownsRow.cellAt hxn 1 (by omega), World.ownsRow.cellAt hxn 2 (by omega), ⟨fun hf => by have := hF xb hf; omega, hxt⟩, fun j hj => ?_, Nat.le_refl _, by omega, htL, fun hf => by have := hF tb hf; omega⟩
      obtain ⟨eb, ecap, hee⟩ := own_some heu (by omega)
      simp only [Value.slice.injEq] at hee
      obtain ⟨rfl, -, rfl⟩ := hee
      obtain ⟨g1, g2⟩ := flatE_get hj
      have k1 := World.ownsRow.cellAt heu (2 * j) (by omega)
      have k2 := World.ownsRow.cellAt heu (2 * j + 1) (by omega)
      rw [List.getElem?_map, g1] at k1
      rw [List.getElem?_map, g2] at k2
      refine ⟨eb, rfl, fun hf => ?_, fun e => own_type heu htn (by decide) eb rfl (by rw [e]; rfl), by simpa using k1, by simpa using k2⟩
      have h2 := (heu.lt eb rfl).1
      have := hF eb hf; omega
    have hFn : ∀ b, F b → b < wn.heap.size := fun b hb => Nat.lt_of_lt_of_le (hF b hb) hbn.size
    have hgr := growE_any HE (grow_all hN).1 hK (growR H 0).length 0 (by omega) (List.replicate H.length []) s wn F _ (hasE_start h16) (HE.keep F s w wn hst (fun b hb => hbn.block b (hF b hb))) hbx htu hFn
    rw [List.drop_zero, show ((0 : Nat) : Int) = 0 from rfl] at hgr
    have HKP := Lib.hid (fun (w' : World) (F' : Nat → Prop) (g : Grn wn w' F F' tb 0 H.length) => show Keeps F w w' ∧ (∀ b, F' b → F b ∨ w.heap.size ≤ b) from
      ⟨(Keeps.ofBelow F hbn).trans g.keeps fun x hx h => by
          rcases h with h | h
          · exact h
          · omega,
        fun b hb => by
          rcases g.sub b hb with h | h
          · exact .inl h
          · exact .inr (Nat.le_trans hbn.size h)⟩)
    clear htu hbx hxn htn heu
    go_wp2_with (go_at_call 89; refine hgr.mono ?_; rintro e w' ⟨F', rfl, hst', g⟩)
    first | go_end0 | (go_wp2; go_end0)
    obtain ⟨z1, z2⟩ := HKP.out _ _ g
    exact ⟨F', rfl, hst', z1, z2⟩
end Go.Proofs.YtdbanndcdbikmaaGreatDoor
