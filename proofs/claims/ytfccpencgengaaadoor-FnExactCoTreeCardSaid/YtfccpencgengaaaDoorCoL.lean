/- CographIn of both; the law. -/
import Derived.Test.YtfccpencgengaaaDoorCoI
namespace Go.Proofs.YtfccpencgengaaaDoor
open Go.RowKit
theorem pop_firstN {n : Nat} (hn : n ≤ 16) : popN (firstN n) = n := by rw [popN_I, ← rangeI_bits hn, rangeI_len]
def OkP (ok : Bool) (w : World) (e : Ending) (w' : World) : Prop := ∃ r, e = .returned (.tuple #[r, .bool ok]) ∧ Below w.heap.size w w'
set_option maxHeartbeats 4000000 in
theorem implCoTree_any {S : Nat → Prop} {v : Value} {g : List (List Int)} {w : World} (ht : Tab w) (hw0 : 0 < w.heap.size) (hv : SlR S w v g) :
    Calls Tryd.prog 45 #[.agg #[v]] w (OkP (cographB g) w) := by
  have hq0 : Below w.heap.size w (w.alloc (.cells #[v] 27)) := (Below.refl _ _).alloc (Nat.le_refl _) _
  obtain ⟨va, vc, rfl⟩ := hv.slice
  have hgo := implGraphOk_any _ _ _ (hv.below hq0 (Nat.le_refl _))
  by_cases hgg : gokB g = true
  case neg =>
    have hgg' : gokB g = false := by simpa using hgg
    rw [hgg'] at hgo
    have HE := Lib.hid (show cographB g = false by simp [cographB, hgg'])
    clear hgg hgg'
    go_enter Tryd.func45, Tryd.ntmps45
    go_wp2_with fail
    refine hgo.mono ?_
    rintro e w1 ⟨rfl, hb1⟩
    go_wp2
    go_ret2
    rw [HE.out]
    exact ⟨_, rfl, hq0.trans (hb1.mono hq0.size)⟩
  rw [hgg] at hgo
  have hg := gokB_iff.1 hgg
  have h16 := hg.hi
  have hlo := hg.lo
  have HE := Lib.hid (show cographB g = coB (netsL g) (complN (netsL g)) g.length (firstN g.length) by simp [cographB, hgg])
  have hpf := pop_firstN h16
  have hf2 := firstN_two g.length
  have hnl := netsL_len g
  have hcl := complN_len (netsL g)
  have hc32 := complN_lt (a := netsL g) (by omega)
  clear hgg
  go_enter Tryd.func45, Tryd.ntmps45
  go_wp2_with fail
  refine hgo.mono ?_
  rintro e w1 ⟨rfl, hb1⟩
  have hq1 := hq0.trans (hb1.mono hq0.size)
  have c3 : w1.cell? ⟨w.heap.size, 0, none⟩ = some (.slice va g.length vc) := (hb1.cell (p := ⟨w.heap.size, 0, none⟩) (by simp; try omega)).trans (by simp [go_sem])
  clear hgo
  go_wp2_with fail
  refine (netsOf_any _ _ _ (hv.below hq1 (Nat.le_refl _)) hg).mono ?_
  rintro e w2 ⟨x1, rfl, hx1, hb2⟩
  have hq2 := hq1.trans (hb2.mono hq1.size)
  have hxi := Own.ints (xs := natsI (netsL g)) hx1 (by omega)
  obtain ⟨xa, xc, rfl⟩ := hx1.isSlice
  go_wp2_with fail
  refine (complement_any hxi (by omega) (netsL_lt hg)).mono ?_
  rintro e w3 ⟨x2, rfl, hx2, hb3⟩
  have hq3 := hq2.trans (hb3.mono hq2.size)
  have hxi3 := (hxi.below hb3 (Nat.le_refl _)).low3
  have hyi3 := (Own.ints (xs := natsI (complN (netsL g))) hx2 (by omega)).low3
  obtain ⟨ya, yc, rfl⟩ := hx2.isSlice
  have hadd := addCoTree_any (a := netsL g) (b := complN (netsL g)) (by omega) hcl (netsL_lt hg) hc32 g.length (firstN g.length) (.slice none 0 0) 0 [] w3.heap.size w3 _ _ (by omega) (by omega) (by rw [hnl]; exact hf2) hxi3 hyi3 (Own.nil _ _ _ _) (by omega) (Nat.le_refl _) (by have := hq3.size; omega) (ht.below hq3 (Nat.le_refl _)) (fun b hb => ⟨hb.2, by simp [Value.ownBlock]⟩) (fun b hb => ⟨hb.2, by simp [Value.ownBlock]⟩)
  rw [hnl] at hadd
  rw [hnl]
  clear hnl hpf hcl
  go_wp2_with (go_at_call 55; refine (allOf_any _ _ _ _ h16).mono ?_; rintro e w' ⟨rfl, rfl⟩)
  refine hadd.mono ?_
  rintro e w4 ⟨r, rfl, hr, hk4⟩
  clear hadd
  go_wp2
  go_ret2
  rw [HE.out]
  exact ⟨_, rfl, hk4.below hq3 hq3.size (fun b hb => by simp [Value.ownBlock] at hb)⟩
theorem implCographIn_any {S : Nat → Prop} (v : Value) (g : List (List Int)) (w : World) (ht : Tab w) (hv : SlR S w v g) :
    Calls Tryd.prog 17 #[.agg #[v]] w fun e w' => e = .returned (.bool (cographB g)) ∧ Below w.heap.size w w' := by
  have hq0 : Below w.heap.size w (w.alloc (.cells #[v] 27)) := (Below.refl _ _).alloc (Nat.le_refl _) _
  obtain ⟨va, vc, rfl⟩ := hv.slice
  have hco := implCoTree_any (ht.below hq0 (Nat.le_refl _)) (by simp) (hv.below hq0 (Nat.le_refl _))
  go_enter Tryd.func17, Tryd.ntmps17
  go_wp2_with fail
  refine hco.mono ?_
  rintro e w1 ⟨r, rfl, hb1⟩
  clear hco
  go_wp2
  go_ret
  exact ⟨rfl, hq0.trans (hb1.mono hq0.size)⟩
set_option maxHeartbeats 4000000 in
theorem specCoTree_any {S : Nat → Prop} {v : Value} {g : List (List Int)} {w : World} (hv : SlR S w v g) :
    Calls Tryd.prog 44 #[.agg #[v]] w (OkP (cographB g) w) := by
  have hq0 : Below w.heap.size w (w.alloc (.cells #[v] 27)) := (Below.refl _ _).alloc (Nat.le_refl _) _
  obtain ⟨va, vc, rfl⟩ := hv.slice
  have hgo := specGraphOk_any _ _ _ (hv.below hq0 (Nat.le_refl _))
  by_cases hgg : gokB g = true
  case neg =>
    have hgg' : gokB g = false := by simpa using hgg
    rw [hgg'] at hgo
    have HE := Lib.hid (show cographB g = false by simp [cographB, hgg'])
    clear hgg hgg'
    go_enter Tryd.func44, Tryd.ntmps44
    go_wp2_with fail
    refine hgo.mono ?_
    rintro e w1 ⟨rfl, hb1⟩
    have hq1 := hq0.trans (hb1.mono hq0.size)
    go_wp2
    go_ret2
    rw [HE.out]
    exact ⟨_, rfl, hq1.alloc hq1.size _⟩
  rw [hgg] at hgo
  have hg := gokB_iff.1 hgg
  have h16 := hg.hi
  have hlo := hg.lo
  have HE := Lib.hid (show cographB g = coB (netsL g) (complN (netsL g)) g.length (firstN g.length) by simp [cographB, hgg])
  have hpf := pop_firstN h16
  have hf2 := firstN_two g.length
  have hb0 : ((g.length : Int) == 0) = false := by rw [beq_eq_false_iff_ne]; omega
  have hb0n : (g.length == 0) = false := by rw [beq_eq_false_iff_ne]; omega
  have hg0 : ¬ g.length = 0 := by omega
  have hrb := rangeI_bits h16
  clear hgg
  have htree := fun (w3 : World) (hb : Below w.heap.size w w3) (S2 : Nat → Prop) (u tv : Value) (hu : SlI S2 w3 .i64 u (bitsI (firstN g.length))) (B : Nat) (ht : Own w3 B 106 3 tv 0 []) (hB : B ≤ w3.heap.size) (hBw : w.heap.size ≤ B) (hS2 : ∀ b, S2 b → tv.ownBlock ≠ some b) =>
    l16Tree_any hg g.length (firstN g.length) u tv 0 [] B w3 _ _ (by omega) (by omega) hf2 ((hv.low3).below hb (Nat.le_refl _)) hu.low3 ht (by omega) hB (fun b h => ⟨Nat.lt_of_lt_of_le h.2 hb.size, fun e => by have := (ht.lt b e).1; have := h.2; omega⟩) (fun b h => ⟨h.2, hS2 b h.1⟩)
  go_enter Tryd.func44, Tryd.ntmps44
  go_wp2_with fail
  refine hgo.mono ?_
  rintro e w1 ⟨rfl, hb1⟩
  have hq1 := hq0.trans (hb1.mono hq0.size)
  have c3 : w1.cell? ⟨w.heap.size, 0, none⟩ = some (.slice va g.length vc) := (hb1.cell (p := ⟨w.heap.size, 0, none⟩) (by simp; try omega)).trans (by simp [go_sem])
  clear hgo
  go_wp2
  refine wp_region_held_drew (S := (fun w' => w'.cell? ⟨w.heap.size, 0, none⟩ = some (.slice va g.length vc))) (by kernel_rfl) ?_ (fun hHeld => ?_)
  · first | exact c3 | exact cg
  have hqc := hq1.drew
  generalize w1.drew = wd at hqc hHeld ⊢
  have cg := hHeld
  refine wpAnyH_take (i := 0) (v := ?v1) (by simp only [List.getElem?_toArray, List.getElem?_cons_zero]; exact rfl) (by kernel_rfl) (by kernel_rfl) (by kernel_rfl) (by intro _ _ _ h; exact h) (Or.inl ⟨by rfl, ?y1⟩) hHeld ?_
  case y1 => (intro w hSw; (try dsimp only at hSw); go_simp; try (with_reducible rfl))
  try simp only [Act.put, List.setIfInBounds_toArray, List.set_cons_zero, List.set_cons_succ]
  refine wpAnyH_take (i := 1) (v := ?v2) (by simp only [List.getElem?_toArray, List.getElem?_cons_succ, List.getElem?_cons_zero]; exact rfl) (by kernel_rfl) (by kernel_rfl) (by kernel_rfl) (by intro _ _ _ h; exact h) (Or.inl ⟨by rfl, ?y2⟩) hHeld ?_
  case y2 => (intro w hSw; (try dsimp only at hSw); go_simp; try (with_reducible rfl))
  try simp only [Act.put, List.setIfInBounds_toArray, List.set_cons_zero, List.set_cons_succ]
  refine wpAnyH_ready (rs := [2, 3]) (by kernel_rfl) (by simp) ?_
  refine (AllReadyH.cons (by simp only [List.getElem?_toArray, List.getElem?_cons_succ, List.getElem?_cons_zero]; exact rfl) (fun K hK => ?b3_2) (AllReadyH.cons (by simp only [List.getElem?_toArray, List.getElem?_cons_succ, List.getElem?_cons_zero]; exact rfl) (fun K hK => ?b3_3) AllReadyH.nil))
  case b3_2 =>
    go_simp
    refine (l16All_any _ _ _ (hv.below hqc (Nat.le_refl _)) (by omega)).mono ?_
    rintro e wn ⟨x1, rfl, hx1, hbn⟩
    have hx2 := Own.ints (xs := rangeI g.length) hx1 (by omega)
    rw [hrb] at hx2
    have hxl := hx1.lt
    try (have hlit := hlit.below hbn (Nat.le_refl _))
    try (have hx3 : ∀ b, x1.ownBlock = some b → (Value.slice (some ⟨nb, 0, none⟩) 0 0).ownBlock ≠ some b := fun b h e => (by have h5 := (hxl b h).1; simp [Value.ownBlock] at e; omega))
    have hqc := hqc.trans (hbn.mono hqc.size)
    have cg := (hbn.cell (cell_lt cg)).trans cg
    try (have hnl := Nat.lt_of_lt_of_le hnl hbn.size)
    obtain ⟨wd, rfl⟩ : ∃ wx : World, wx = wn := ⟨_, rfl⟩
    try dsimp only
    refine hK.out _ _ ?h4 (fun hHeld => ?_)
    case h4 => first | exact c3 | exact cg
    clear hK K
    try simp only [Act.put, List.setIfInBounds_toArray, List.set_cons_zero, List.set_cons_succ]
    refine wpAnyH_ready (rs := [3]) (by kernel_rfl) (by simp) ?_
    refine AllReadyH.cons (by simp only [List.getElem?_toArray, List.getElem?_cons_succ, List.getElem?_cons_zero]; exact rfl) (fun K hK => ?_) AllReadyH.nil
    go_simp
    have hbn : Below wd.heap.size wd (wd.alloc (.cells #[] 106)) := (Below.refl _ _).alloc (Nat.le_refl _) _
    have hlit : Own (wd.alloc (.cells #[] 106)) wd.heap.size 106 3 (.slice (some ⟨wd.heap.size, 0, none⟩) 0 0) 0 [] := World.ownsRow_lit (base := wd.heap.size) (e := 106) (size := 3) wd #[] 0 (Nat.le_refl _) (by unfold maxLen; omega) rfl
    have hnl : wd.heap.size < (wd.alloc (.cells #[] 106)).heap.size := (by simp)
    have hnb : w.heap.size < wd.heap.size := cell_lt cg
    try (have hx3 : ∀ b, x1.ownBlock = some b → (Value.slice (some ⟨wd.heap.size, 0, none⟩) 0 0).ownBlock ≠ some b := fun b h e => (by have h5 := (hxl b h).2; simp [Value.ownBlock] at e; omega))
    try (have hx2 := hx2.below hbn (Nat.le_refl _))
    have hqc := hqc.trans (hbn.mono hqc.size)
    have cg := (hbn.cell (cell_lt cg)).trans cg
    generalize (wd.alloc (.cells #[] 106)) = wn at *
    generalize wd.heap.size = nb at *
    obtain ⟨wd, rfl⟩ : ∃ wx : World, wx = wn := ⟨_, rfl⟩
    try dsimp only
    refine hK.out _ _ ?h6 (fun hHeld => ?_)
    case h6 => first | exact c3 | exact cg
    clear hK K
    try simp only [Act.put, List.setIfInBounds_toArray, List.set_cons_zero, List.set_cons_succ]
    refine wpAnyH_ready (rs := [4]) (by kernel_rfl) (by simp) ?_
    refine AllReadyH.cons (by simp only [List.getElem?_toArray, List.getElem?_cons_succ, List.getElem?_cons_zero]; exact rfl) (fun K hK => ?_) AllReadyH.nil
    go_simp
    refine (htree wd hqc _ _ _ hx2 nb hlit (Nat.le_of_lt hnl) (Nat.le_of_lt hnb) hx3).mono ?_
    rintro e wn ⟨r, rfl, hr, hk4⟩
    have hqf := hk4.below hqc hqc.size (fun b hb => (by simp [Value.ownBlock] at hb; omega))
    have cg := (World.cell?_of_block (a := ⟨w.heap.size, 0, none⟩) (hk4.2.2.2.2 w.heap.size (cell_lt cg) (fun e => by simp [Value.ownBlock] at e; omega))).trans cg
    try dsimp only
    refine hK.out _ _ ?h8 (fun hHeld => ?_)
    case h8 => first | exact c3 | exact cg
    clear hK K
    try simp only [Act.put, List.setIfInBounds_toArray, List.set_cons_zero, List.set_cons_succ]
    refine wpAnyH_take (i := 5) (v := ?v9) (by simp only [List.getElem?_toArray, List.getElem?_cons_succ, List.getElem?_cons_zero]; exact rfl) (by kernel_rfl) (by kernel_rfl) (by kernel_rfl) (by intro _ _ _ h; exact h) (Or.inl ⟨by rfl, ?y9⟩) hHeld ?_
    case y9 => (intro w hSw; (try dsimp only at hSw); go_simp; try (with_reducible rfl))
    try simp only [Act.put, List.setIfInBounds_toArray, List.set_cons_zero, List.set_cons_succ]
    refine wpAnyH_take (i := 6) (v := ?v10) (by simp only [List.getElem?_toArray, List.getElem?_cons_succ, List.getElem?_cons_zero]; exact rfl) (by kernel_rfl) (by kernel_rfl) (by kernel_rfl) (by intro _ _ _ h; exact h) (Or.inl ⟨by rfl, ?y10⟩) hHeld ?_
    case y10 => (intro w hSw; (try dsimp only at hSw); go_simp; try (with_reducible rfl))
    try simp only [Act.put, List.setIfInBounds_toArray, List.set_cons_zero, List.set_cons_succ]
    refine wpAnyH_take (i := 7) (v := ?v11) (by simp only [List.getElem?_toArray, List.getElem?_cons_succ, List.getElem?_cons_zero]; exact rfl) (by kernel_rfl) (by kernel_rfl) (by kernel_rfl) (by intro _ _ _ h; exact h) (Or.inl ⟨by rfl, ?y11⟩) hHeld ?_
    case y11 => (intro w hSw; (try dsimp only at hSw); go_simp; try (with_reducible rfl))
    try simp only [Act.put, List.setIfInBounds_toArray, List.set_cons_zero, List.set_cons_succ]
    refine wpAnyH_take (i := 8) (v := ?v12) (by simp only [List.getElem?_toArray, List.getElem?_cons_succ, List.getElem?_cons_zero]; exact rfl) (by kernel_rfl) (by kernel_rfl) (by kernel_rfl) (by intro _ _ _ h; exact h) (Or.inl ⟨by rfl, ?y12⟩) hHeld ?_
    case y12 => (intro w hSw; (try dsimp only at hSw); go_simp; try (with_reducible rfl))
    try simp only [Act.put, List.setIfInBounds_toArray, List.set_cons_zero, List.set_cons_succ]
    refine wpAnyH_done (by kernel_rfl) ?_ _
    go_wp2
    go_ret2
    rw [HE.out]
    exact ⟨_, rfl, hqf⟩
  case b3_3 =>
    go_simp
    have hbn : Below wd.heap.size wd (wd.alloc (.cells #[] 106)) := (Below.refl _ _).alloc (Nat.le_refl _) _
    have hlit : Own (wd.alloc (.cells #[] 106)) wd.heap.size 106 3 (.slice (some ⟨wd.heap.size, 0, none⟩) 0 0) 0 [] := World.ownsRow_lit (base := wd.heap.size) (e := 106) (size := 3) wd #[] 0 (Nat.le_refl _) (by unfold maxLen; omega) rfl
    have hnl : wd.heap.size < (wd.alloc (.cells #[] 106)).heap.size := (by simp)
    have hnb : w.heap.size < wd.heap.size := cell_lt cg
    try (have hx3 : ∀ b, x1.ownBlock = some b → (Value.slice (some ⟨wd.heap.size, 0, none⟩) 0 0).ownBlock ≠ some b := fun b h e => (by have h5 := (hxl b h).2; simp [Value.ownBlock] at e; omega))
    try (have hx2 := hx2.below hbn (Nat.le_refl _))
    have hqc := hqc.trans (hbn.mono hqc.size)
    have cg := (hbn.cell (cell_lt cg)).trans cg
    generalize (wd.alloc (.cells #[] 106)) = wn at *
    generalize wd.heap.size = nb at *
    obtain ⟨wd, rfl⟩ : ∃ wx : World, wx = wn := ⟨_, rfl⟩
    try dsimp only
    refine hK.out _ _ ?h13 (fun hHeld => ?_)
    case h13 => first | exact c3 | exact cg
    clear hK K
    try simp only [Act.put, List.setIfInBounds_toArray, List.set_cons_zero, List.set_cons_succ]
    refine wpAnyH_ready (rs := [2]) (by kernel_rfl) (by simp) ?_
    refine AllReadyH.cons (by simp only [List.getElem?_toArray, List.getElem?_cons_succ, List.getElem?_cons_zero]; exact rfl) (fun K hK => ?_) AllReadyH.nil
    go_simp
    refine (l16All_any _ _ _ (hv.below hqc (Nat.le_refl _)) (by omega)).mono ?_
    rintro e wn ⟨x1, rfl, hx1, hbn⟩
    have hx2 := Own.ints (xs := rangeI g.length) hx1 (by omega)
    rw [hrb] at hx2
    have hxl := hx1.lt
    try (have hlit := hlit.below hbn (Nat.le_refl _))
    try (have hx3 : ∀ b, x1.ownBlock = some b → (Value.slice (some ⟨nb, 0, none⟩) 0 0).ownBlock ≠ some b := fun b h e => (by have h5 := (hxl b h).1; simp [Value.ownBlock] at e; omega))
    have hqc := hqc.trans (hbn.mono hqc.size)
    have cg := (hbn.cell (cell_lt cg)).trans cg
    try (have hnl := Nat.lt_of_lt_of_le hnl hbn.size)
    obtain ⟨wd, rfl⟩ : ∃ wx : World, wx = wn := ⟨_, rfl⟩
    try dsimp only
    refine hK.out _ _ ?h15 (fun hHeld => ?_)
    case h15 => first | exact c3 | exact cg
    clear hK K
    try simp only [Act.put, List.setIfInBounds_toArray, List.set_cons_zero, List.set_cons_succ]
    refine wpAnyH_ready (rs := [4]) (by kernel_rfl) (by simp) ?_
    refine AllReadyH.cons (by simp only [List.getElem?_toArray, List.getElem?_cons_succ, List.getElem?_cons_zero]; exact rfl) (fun K hK => ?_) AllReadyH.nil
    go_simp
    refine (htree wd hqc _ _ _ hx2 nb hlit (Nat.le_of_lt hnl) (Nat.le_of_lt hnb) hx3).mono ?_
    rintro e wn ⟨r, rfl, hr, hk4⟩
    have hqf := hk4.below hqc hqc.size (fun b hb => (by simp [Value.ownBlock] at hb; omega))
    have cg := (World.cell?_of_block (a := ⟨w.heap.size, 0, none⟩) (hk4.2.2.2.2 w.heap.size (cell_lt cg) (fun e => by simp [Value.ownBlock] at e; omega))).trans cg
    try dsimp only
    refine hK.out _ _ ?h17 (fun hHeld => ?_)
    case h17 => first | exact c3 | exact cg
    clear hK K
    try simp only [Act.put, List.setIfInBounds_toArray, List.set_cons_zero, List.set_cons_succ]
    refine wpAnyH_take (i := 5) (v := ?v18) (by simp only [List.getElem?_toArray, List.getElem?_cons_succ, List.getElem?_cons_zero]; exact rfl) (by kernel_rfl) (by kernel_rfl) (by kernel_rfl) (by intro _ _ _ h; exact h) (Or.inl ⟨by rfl, ?y18⟩) hHeld ?_
    case y18 => (intro w hSw; (try dsimp only at hSw); go_simp; try (with_reducible rfl))
    try simp only [Act.put, List.setIfInBounds_toArray, List.set_cons_zero, List.set_cons_succ]
    refine wpAnyH_take (i := 6) (v := ?v19) (by simp only [List.getElem?_toArray, List.getElem?_cons_succ, List.getElem?_cons_zero]; exact rfl) (by kernel_rfl) (by kernel_rfl) (by kernel_rfl) (by intro _ _ _ h; exact h) (Or.inl ⟨by rfl, ?y19⟩) hHeld ?_
    case y19 => (intro w hSw; (try dsimp only at hSw); go_simp; try (with_reducible rfl))
    try simp only [Act.put, List.setIfInBounds_toArray, List.set_cons_zero, List.set_cons_succ]
    refine wpAnyH_take (i := 7) (v := ?v20) (by simp only [List.getElem?_toArray, List.getElem?_cons_succ, List.getElem?_cons_zero]; exact rfl) (by kernel_rfl) (by kernel_rfl) (by kernel_rfl) (by intro _ _ _ h; exact h) (Or.inl ⟨by rfl, ?y20⟩) hHeld ?_
    case y20 => (intro w hSw; (try dsimp only at hSw); go_simp; try (with_reducible rfl))
    try simp only [Act.put, List.setIfInBounds_toArray, List.set_cons_zero, List.set_cons_succ]
    refine wpAnyH_take (i := 8) (v := ?v21) (by simp only [List.getElem?_toArray, List.getElem?_cons_succ, List.getElem?_cons_zero]; exact rfl) (by kernel_rfl) (by kernel_rfl) (by kernel_rfl) (by intro _ _ _ h; exact h) (Or.inl ⟨by rfl, ?y21⟩) hHeld ?_
    case y21 => (intro w hSw; (try dsimp only at hSw); go_simp; try (with_reducible rfl))
    try simp only [Act.put, List.setIfInBounds_toArray, List.set_cons_zero, List.set_cons_succ]
    refine wpAnyH_done (by kernel_rfl) ?_ _
    go_wp2
    go_ret2
    rw [HE.out]
    exact ⟨_, rfl, hqf⟩
theorem specCographIn_any {S : Nat → Prop} (v : Value) (g : List (List Int)) (w : World) (hv : SlR S w v g) :
    Calls Tryd.prog 16 #[.agg #[v]] w fun e w' => e = .returned (.bool (cographB g)) ∧ Below w.heap.size w w' := by
  have hq0 : Below w.heap.size w (w.alloc (.cells #[v] 27)) := (Below.refl _ _).alloc (Nat.le_refl _) _
  obtain ⟨va, vc, rfl⟩ := hv.slice
  have hco := specCoTree_any (hv.below hq0 (Nat.le_refl _))
  go_enter Tryd.func16, Tryd.ntmps16
  go_wp2_with fail
  refine hco.mono ?_
  rintro e w1 ⟨r, rfl, hb1⟩
  clear hco
  go_wp2
  go_ret
  exact ⟨rfl, hq0.trans (hb1.mono hq0.size)⟩
set_option maxHeartbeats 8000000 in
theorem lawCographIn_any {S0 : Nat → Prop} (v0 : Value) (g0 : List (List Int)) (w : World) (ht : Tab w) (hv0 : SlR S0 w v0 g0) :
    Calls Tryd.prog 4 #[.agg #[v0]] w fun e w' => e = .returned (.bool true) ∧ Below w.heap.size w w' := by
  obtain ⟨a0, c0, rfl⟩ := hv0.slice
  have q0 : Below w.heap.size w (w.alloc (.cells #[.slice a0 g0.length c0] 24)) := (Below.refl _ _).alloc (Nat.le_refl _) _
  go_enter Tryd.func4, Tryd.ntmps4
  go_wp2_with fail
  refine (szGraph_any _ _ _ _ (hv0.below q0 (Nat.le_refl _)) (by omega) (by omega)).mono ?_
  rintro e w1 ⟨r1, rfl, hr1, hs1, hm1, hb1⟩
  have q1 := q0.trans (hb1.mono q0.size)
  have b0_1 : w1.cell? ⟨w.heap.size, 0, none⟩ = some (.slice a0 g0.length c0) := (hb1.cell (p := ⟨w.heap.size, 0, none⟩) (by simp <;> omega)).trans (by simp [go_sem])
  by_cases hneg1 : r1 < 0
  case pos =>
    go_wp2
    go_ret
    exact ⟨rfl, q1⟩
  have hsm0 : SmallR g0 1048576 := hm1 (by omega)
  go_wp2_with fail
  refine (toGraph_any _ _ _ (hv0.below q1 (Nat.le_refl _)) hsm0).mono ?_
  rintro e w2 ⟨x2, rfl, hy2, hb2⟩
  have q2 := q1.trans (hb2.mono q1.size)
  have b0_2 : w2.cell? ⟨w.heap.size, 0, none⟩ = some (.slice a0 g0.length c0) := (hb2.cell (p := ⟨w.heap.size, 0, none⟩) (cell_lt b0_1)).trans b0_1
  have y2_2 := hy2
  go_wp2_with fail
  refine (specCographIn_any _ _ _ y2_2).mono ?_
  rintro e w3 ⟨rfl, hb3⟩
  have q3 := q2.trans (hb3.mono q2.size)
  have b0_3 : w3.cell? ⟨w.heap.size, 0, none⟩ = some (.slice a0 g0.length c0) := (hb3.cell (p := ⟨w.heap.size, 0, none⟩) (cell_lt b0_2)).trans b0_2
  have y2_3 := y2_2.below hb3 (Nat.le_refl _)
  go_wp2_with fail
  refine (toGraph_any _ _ _ (hv0.below q3 (Nat.le_refl _)) hsm0).mono ?_
  rintro e w4 ⟨x4, rfl, hy4, hb4⟩
  have q4 := q3.trans (hb4.mono q3.size)
  have b0_4 : w4.cell? ⟨w.heap.size, 0, none⟩ = some (.slice a0 g0.length c0) := (hb4.cell (p := ⟨w.heap.size, 0, none⟩) (cell_lt b0_3)).trans b0_3
  have y2_4 := y2_3.below hb4 (Nat.le_refl _)
  have y4_4 := hy4
  obtain ⟨xa5, xc5, rfl⟩ := y4_4.slice
  have hb5 : Below w4.heap.size w4 (w4.alloc (.cells #[.slice xa5 g0.length xc5] 27)) := (Below.refl _ _).alloc (Nat.le_refl _) _
  have q5 := q4.trans (hb5.mono q4.size)
  have b0_5 := (hb5.cell (p := ⟨w.heap.size, 0, none⟩) (cell_lt b0_4)).trans b0_4
  have y2_5 := y2_4.below hb5 (Nat.le_refl _)
  have y4_5 := y4_4.below hb5 (Nat.le_refl _)
  go_wp2_with fail
  refine (implCographIn_any _ _ _ (ht.below q5 (Nat.le_refl _)) y4_5).mono ?_
  rintro e w6 ⟨rfl, hb6⟩
  have q6 := q5.trans (hb6.mono q5.size)
  have b0_6 : w6.cell? ⟨w.heap.size, 0, none⟩ = some (.slice a0 g0.length c0) := (hb6.cell (p := ⟨w.heap.size, 0, none⟩) (by have := cell_lt b0_5; simp at this ⊢; omega)).trans b0_5
  have l5_6 : w6.cell? ⟨w4.heap.size, 0, none⟩ = some (.slice xa5 g0.length xc5) := (hb6.cell (p := ⟨w4.heap.size, 0, none⟩) (by simp)).trans (by simp [go_sem])
  have y2_6 := y2_5.below hb6 (Nat.le_refl _)
  have y4_6 := y4_5.below hb6 (Nat.le_refl _)
  go_wp2
  have _tt : True := trivial
  refine wp_region_held_drew (S := (fun w' => w'.cell? ⟨w.heap.size, 0, none⟩ = some (.slice a0 g0.length c0) ∧ w'.cell? ⟨w4.heap.size, 0, none⟩ = some (.slice xa5 g0.length xc5))) (by kernel_rfl) ?_ (fun hHeld => ?_)
  · first | exact ⟨‹_›, ‹_›⟩ | assumption | (simp [*, go_sem])
  refine wpAnyH_take (i := 0) (v := ?v22) (by simp only [List.getElem?_toArray, List.getElem?_cons_zero]; exact rfl) (by kernel_rfl) (by kernel_rfl) (by kernel_rfl) (by intro _ _ _ h; exact h) (Or.inl ⟨by rfl, ?y22⟩) hHeld ?_
  case y22 => (intro w hSw; (try dsimp only at hSw); go_simp; try (with_reducible rfl))
  try simp only [Act.put, List.setIfInBounds_toArray, List.set_cons_zero, List.set_cons_succ]
  refine wpAnyH_take (i := 1) (v := ?v23) (by simp only [List.getElem?_toArray, List.getElem?_cons_succ, List.getElem?_cons_zero]; exact rfl) (by kernel_rfl) (by kernel_rfl) (by kernel_rfl) (by intro _ _ _ h; exact h) (Or.inl ⟨by rfl, ?y23⟩) hHeld ?_
  case y23 => (intro w hSw; (try dsimp only at hSw); go_simp; try (with_reducible rfl))
  try simp only [Act.put, List.setIfInBounds_toArray, List.set_cons_zero, List.set_cons_succ]
  refine wpAnyH_ready (rs := [2]) (by kernel_rfl) (by simp) ?_
  refine AllReadyH.cons (by simp only [List.getElem?_toArray, List.getElem?_cons_succ, List.getElem?_cons_zero]; exact rfl) (fun K hK => ?_) AllReadyH.nil
  go_simp
  have q6d := q6.drew
  refine (toGraph_any _ _ _ (hv0.below q6d (Nat.le_refl _)) hsm0).mono ?_
  rintro e w7 ⟨x7, rfl, hy7, hb7⟩
  have hb7e : Below w6.heap.size w6 w7 := ⟨hb7.os, hb7.tape, hb7.output, hb7.size, hb7.block⟩
  have q7 := q6.trans (hb7e.mono q6.size)
  have b0_7 : w7.cell? ⟨w.heap.size, 0, none⟩ = some (.slice a0 g0.length c0) := (hb7e.cell (p := ⟨w.heap.size, 0, none⟩) (cell_lt b0_6)).trans b0_6
  have l5_7 : w7.cell? ⟨w4.heap.size, 0, none⟩ = some (.slice xa5 g0.length xc5) := (hb7e.cell (p := ⟨w4.heap.size, 0, none⟩) (cell_lt l5_6)).trans l5_6
  have y2_7 := y2_6.below hb7e (Nat.le_refl _)
  have y4_7 := y4_6.below hb7e (Nat.le_refl _)
  have y7_7 := hy7
  try dsimp only
  refine hK.out _ _ ?h25 (fun hHeld => ?_)
  case h25 => first | exact ⟨‹_›, ‹_›⟩ | assumption | (simp [*, go_sem])
  clear hK K
  try simp only [Act.put, List.setIfInBounds_toArray, List.set_cons_zero, List.set_cons_succ]
  refine wpAnyH_ready (rs := [3]) (by kernel_rfl) (by simp) ?_
  refine AllReadyH.cons (by simp only [List.getElem?_toArray, List.getElem?_cons_succ, List.getElem?_cons_zero]; exact rfl) (fun K hK => ?_) AllReadyH.nil
  go_simp
  refine (eqGraph_any _ _ _ _ _ y4_7 y7_7).mono ?_
  rintro e w8 ⟨rfl, hb8⟩
  have q8 := q7.trans (hb8.mono q7.size)
  have b0_8 : w8.cell? ⟨w.heap.size, 0, none⟩ = some (.slice a0 g0.length c0) := (hb8.cell (p := ⟨w.heap.size, 0, none⟩) (cell_lt b0_7)).trans b0_7
  have l5_8 : w8.cell? ⟨w4.heap.size, 0, none⟩ = some (.slice xa5 g0.length xc5) := (hb8.cell (p := ⟨w4.heap.size, 0, none⟩) (cell_lt l5_7)).trans l5_7
  have y2_8 := y2_7.below hb8 (Nat.le_refl _)
  have y4_8 := y4_7.below hb8 (Nat.le_refl _)
  have y7_8 := y7_7.below hb8 (Nat.le_refl _)
  try dsimp only
  refine hK.out _ _ ?h27 (fun hHeld => ?_)
  case h27 => first | exact ⟨‹_›, ‹_›⟩ | assumption | (simp [*, go_sem])
  clear hK K
  try simp only [Act.put, List.setIfInBounds_toArray, List.set_cons_zero, List.set_cons_succ]
  refine wpAnyH_take (i := 4) (v := ?v28) (by simp only [List.getElem?_toArray, List.getElem?_cons_succ, List.getElem?_cons_zero]; exact rfl) (by kernel_rfl) (by kernel_rfl) (by kernel_rfl) (by intro _ _ _ h; exact h) (Or.inl ⟨by rfl, ?y28⟩) hHeld ?_
  case y28 => (intro w hSw; (try dsimp only at hSw); go_simp; try (with_reducible rfl))
  try simp only [Act.put, List.setIfInBounds_toArray, List.set_cons_zero, List.set_cons_succ]
  refine wpAnyH_done (by kernel_rfl) ?_ _
  go_wp2
  go_ret
  exact ⟨rfl, q8⟩
end Go.Proofs.YtfccpencgengaaaDoor
