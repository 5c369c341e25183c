/- ChordlessLoop of the program, and the law. -/
import Derived.Test.YthpbeiihlembnaaDoorChI
import Derived.Test.YthpbeiihlembnaaDoorChT
import Derived.Test.YthpbeiihlembnaaDoorMark3
import Derived.Laws.EntriesVeiled
namespace Go.Proofs.YthpbeiihlembnaaDoor
open Go.RowKit
theorem chord_none {H : List Nat} (hN : NetI H) {v L : Nat} {D : Nat → Int} (hv : v < H.length) (hD : IsDist H (firstN H.length) v H.length D)
    (h : dfsF (candN H (farF ((List.range H.length).map D)) L (chFit H L)) (finN H) (L - 1) [v] = none) : ∀ q, ChordN H H.length q → q.length = L → q.getD 0 0 = v → False := fun q' hq' hl' h0 => by
  obtain ⟨t', rfl⟩ : ∃ t', q' = v :: t' := by
    match q', h0, hq'.four with
    | [], _, h4 => simp at h4
    | a :: t', h0, _ => exact ⟨t', by simpa using h0⟩
  subst hl'
  have hfar := loop_far (hN.dist hv) hD (fun x hx => first_bit hx) hN.sym hq'.loop rfl
  have hext := chord_ext (far := farF ((List.range H.length).map D)) hN.lt hN.le hN.sym hq' (fun i h0 hi => by
    rw [farF_range (hq'.loop.path.lt _ (getD_mem hi))]
    exact hfar i h0 hi)
  exact dfs_none h t' hext
theorem chord_some {H : List Nat} (hN : NetI H) {v L : Nat} {D : Nat → Int} (hv : v < H.length) (hD : IsDist H (firstN H.length) v H.length D) (hL : 4 ≤ L) {q : List Nat}
    (h : dfsF (candN H (farF ((List.range H.length).map D)) L (chFit H L)) (finN H) (L - 1) [v] = some q) (hno : NoTo (ChordN H H.length) L v) : LeastG (ChordN H H.length) q := by
  obtain ⟨t, rfl, he, hm⟩ := dfs_some (cand_sorted _ _ _ _) h
  obtain ⟨h1, hl⟩ := ext_chord hN.lt hN.le hL hv he
  refine least_at hno h1 hl rfl (by omega) fun q' hq' hl' h0 => ?_
  obtain ⟨t', rfl⟩ : ∃ t', q' = v :: t' := by
    match q', h0, hq'.four with
    | [], _, h4 => simp at h4
    | a :: t', h0, _ => exact ⟨t', by simpa using h0⟩
  subst hl'
  have hfar := loop_far (hN.dist hv) hD (fun x hx => first_bit hx) hN.sym hq'.loop rfl
  have hext := chord_ext (far := farF ((List.range H.length).map D)) hN.lt hN.le hN.sym hq' (fun i h0 hi => by
    rw [farF_range (hq'.loop.path.lt _ (getD_mem hi))]
    exact hfar i h0 hi)
  have := hm t' hext
  rw [List.singleton_append, ltN, if_pos rfl]
  exact this
theorem chord_long {H : List Nat} {n L : Nat} (h : NoTo (ChordN H n) L n) : NoTo (ChordN H n) (L + 1) 0 := fun q hq => by
  rcases h q hq with h1 | ⟨h1, h2⟩
  · by_cases e : q.length = L + 1
    · exact .inr ⟨e.symm, Nat.zero_le _⟩
    · exact .inl (by omega)
  · have := hq.loop.path.lt _ (getD_mem (show 0 < q.length by have := hq.four; omega)); omega
theorem chord_end {H : List Nat} {n L : Nat} (h : NoTo (ChordN H n) L 0) (hL : n < L) : ∀ q, ¬ ChordN H n q := fun q hq => by
  have := loop_len hq.loop.path
  rcases h q hq with h1 | ⟨h1, -⟩ <;> omega
theorem chord_begin {H : List Nat} {n : Nat} : NoTo (ChordN H n) 4 0 := fun q hq => by
  have := hq.four
  by_cases e : q.length = 4
  · exact .inr ⟨e.symm, Nat.zero_le _⟩
  · exact .inl (by omega)
set_option maxRecDepth 100000 in
set_option maxHeartbeats 8000000 in
theorem implChordlessLoop_any {S : Nat → Prop} {v : Value} {g : List (List Int)} {w : World} (ht : Tab w) (hv : SlR S w v g) :
    Calls Tryd.prog 18 #[.agg #[v]] w fun e w' => ∃ u, e = .returned (.tuple #[u, .bool (decide (chF g ≠ []))]) ∧ Own w' w.heap.size 2 1 u (natsI (chF g)).length ((natsI (chF g)).map (.int .i64)) ∧ Below w.heap.size w w' := by
  obtain ⟨va, vc, rfl⟩ := hv.slice
  have hb0 : Below w.heap.size w (w.alloc (.cells #[.slice va g.length vc] 29)) := (Below.refl _ _).alloc (Nat.le_refl _) _
  have hgo := implGraphOk_any _ _ _ (hv.below hb0 (Nat.le_refl _))
  by_cases hgb : gokB g = true
  case neg =>
    have HE := Lib.hid (show chF g = [] by rw [chF, if_neg hgb])
    rw [Bool.not_eq_true] at hgb
    rw [hgb] at hgo
    clear hgb
    rw [HE.out]
    go_enter Tryd.func18, Tryd.ntmps18
    go_wp2_with fail
    refine hgo.mono ?_
    rintro e w1 ⟨rfl, hb1⟩
    go_wp2
    go_ret2
    exact ⟨.slice none 0 0, rfl, by simpa [natsI] using Own.nil w1 w.heap.size 2 1, hb0.trans (hb1.mono hb0.size)⟩
  have hg := gokB_iff.1 hgb
  have HE := Lib.hid (show chF g = pickG (ChordN (netsL g) g.length) by rw [chF, if_pos hgb])
  rw [hgb] at hgo
  have hN := nets_NetI hg
  have HN := Lib.hid hN
  have HG := Lib.hid hg
  have hlen := netsL_len g
  have hlo := hg.lo
  have h16 := hg.hi
  have hch := fun (W : World) (hb : Below w.heap.size w W) => implChordalIn_any (ht.below hb (Nat.le_refl _)) (hv.below hb (Nat.le_refl _))
  have HCB := Lib.hid (show chalB g = true → chF g = [] from fun h => by
    unfold chalB at h
    rw [hgb, Bool.true_and, Option.isSome_iff_exists] at h
    obtain ⟨r, hr⟩ := h
    rw [HE.out]
    refine pick_none fun q hq => ?_
    have hf32 : firstN g.length < 4294967296 := by have := firstN_lt h16; omega
    refine peo_no_chord (fun x => Nat.lt_trans (getD_ltN hN.lt x) (by rw [hlen]; exact pow16_lt h16)) (fun x y hx hy => nets_symC hg x y hx hy) hq (n := (netsL g).length) (left := firstN (netsL g).length) (out := []) (r := r) (by rw [hlen]; exact hf32) (fun i hi => by rw [hlen, testBit_firstN, decide_eq_true_eq] at hi; exact hi) (by rw [pop_first (by omega)]; exact Nat.le_refl _) hr (fun x hx => by rw [hlen, testBit_firstN, decide_eq_true_eq]; exact hq.loop.path.lt x hx))
  clear hgb hg hN
  go_enter Tryd.func18, Tryd.ntmps18
  go_wp2_with fail
  refine hgo.mono ?_
  rintro e w1 ⟨rfl, hb1⟩
  clear hgo
  have hq1 := hb0.trans (hb1.mono hb0.size)
  have c1 : w1.cell? ⟨w.heap.size, 0, none⟩ = some (.slice va g.length vc) := (hb1.cell (p := ⟨w.heap.size, 0, none⟩) (by simp)).trans (by simp [go_sem])
  go_wp2_with fail
  refine (hch _ hq1).mono ?_
  rintro e w2 ⟨rfl, hb2⟩
  have hq2 := hq1.trans (hb2.mono hq1.size)
  have c2 := (hb2.cell (cell_lt c1)).trans c1
  clear hb0 hb1 hb2 hq1 c1 hch
  cases hcb : chalB g with
  | true =>
    have HF := Lib.hid (HCB.out hcb)
    clear hcb
    go_wp2
    go_ret2
    rw [HF.out]
    exact ⟨.slice none 0 0, rfl, by simpa [natsI] using Own.nil w2 w.heap.size 2 1, hq2⟩
  | false =>
  clear hcb HCB
  go_wp2_with fail
  refine (netsOf_any _ _ _ (hv.below hq2 (Nat.le_refl _)) HG.out).mono ?_
  rintro e w3 ⟨na, rfl, hna, hb3⟩
  have hq3 := hq2.trans (hb3.mono hq2.size)
  have hni := hna.ints (by omega)
  obtain ⟨nb, nc, rfl⟩ := own_some hna (by omega)
  have hnl := (hna.lt nb rfl).2
  clear hb3 hq2 c2 hna
  obtain ⟨W0, hW0⟩ : ∃ W0, W0 = ((w3.alloc (.cells #[.slice (some ⟨nb, 0, none⟩) g.length nc] 66)).alloc (.cells #[.func (Fn.func 73) #[] #[.pointer (some ⟨w3.heap.size, 0, none⟩)]] 72)).alloc (.cells #[.int .i64 4] 3) := ⟨_, rfl⟩
  have hbW : Below w3.heap.size w3 W0 := by rw [hW0]; exact (((Below.refl _ _).alloc (Nat.le_refl _) _).alloc (by simp) _).alloc (by simp; omega) _
  have hcA : W0.cell? ⟨w3.heap.size, 0, none⟩ = some (.slice (some ⟨nb, 0, none⟩) g.length nc) := by rw [hW0]; simp [go_sem]
  have hcF : W0.cell? ⟨w3.heap.size + 1, 0, none⟩ = some (.func (Fn.func 73) #[] #[.pointer (some ⟨w3.heap.size, 0, none⟩)]) := by rw [hW0]; simp [go_sem]
  have hoL : Own W0 (w3.heap.size + 2) 3 1 (.slice (some ⟨w3.heap.size + 2, 0, none⟩) 1 1) 1 [.int .i64 ((4 : Nat) : Int)] := by
    rw [hW0]
    have := own_new ((w3.alloc (.cells #[.slice (some ⟨nb, 0, none⟩) g.length nc] 66)).alloc (.cells #[.func (Fn.func 73) #[] #[.pointer (some ⟨w3.heap.size, 0, none⟩)]] 72)) (w3.heap.size + 2) 3 (.int .i64 4) (by simp)
    simpa using this
  have HNO0 := Lib.hid (chord_begin (H := netsL g) (n := g.length))
  go_wp2
  rw [← hW0]
  clear hW0
  go_loopw [6] (fun lv wr => ∃ (L lb : Nat), 4 ≤ L ∧ L ≤ 17 ∧ lv = .pointer (some ⟨lb, 0, none⟩) ∧ Own wr (w3.heap.size + 2) 3 1 (.slice (some ⟨lb, 0, none⟩) 1 1) 1 [.int .i64 (L : Int)] ∧ RowKit.Hid (NoTo (ChordN (netsL g) g.length) L 0) ∧ Below w3.heap.size w3 wr ∧
    wr.cell? ⟨w3.heap.size, 0, none⟩ = some (.slice (some ⟨nb, 0, none⟩) g.length nc) ∧ wr.cell? ⟨w3.heap.size + 1, 0, none⟩ = some (.func (Fn.func 73) #[] #[.pointer (some ⟨w3.heap.size, 0, none⟩)])) (fun lv wr => 17 - (match lv with | .pointer (some a) => (match wr.cell? a with | some x => (intOf x).toNat | none => 0) | _ => 0))
  case atStart => exact ⟨4, _, Nat.le_refl _, by omega, rfl, hoL, HNO0, hbW, hcA, hcF⟩
  case round =>
    clear hoL HNO0 hbW hcA hcF
    obtain ⟨L, lb, hL4, hL17, rfl, hoL, HNO, hbq, cA, cF⟩ := hrel
    obtain ⟨l1, l2, -, -⟩ := own_cell hoL
    have hq := hq3.trans (hbq.mono hq3.size)
    have hq3s := hq3.size
    by_cases hle : L ≤ g.length
    case neg =>
      have HF := Lib.hid (show chF g = [] by rw [HE.out]; exact pick_none (chord_end HNO.out (by omega)))
      have hd1 : decide ((L : Int) ≤ (g.length : Int)) = false := decide_eq_false (by omega)
      have hd2 : decide (L ≤ g.length) = false := decide_eq_false hle
      go_wp2
      go_ret2
      rw [HF.out]
      exact ⟨.slice none 0 0, rfl, by simpa [natsI] using Own.nil wr w.heap.size 2 1, hq⟩
    have hd1 : decide ((L : Int) ≤ (g.length : Int)) = true := decide_eq_true (by omega)
    have hd2 : decide (L ≤ g.length) = true := decide_eq_true hle
    obtain ⟨wl, rfl⟩ : ∃ wl : World, wl = wr := ⟨_, rfl⟩
    have HL1 := Lib.hid l1
    go_wp2
    go_loopw [27] (fun iv wr => ∃ k : Nat, k ≤ g.length ∧ iv = .int .i64 k ∧ Own wr (w3.heap.size + 2) 3 1 (.slice (some ⟨lb, 0, none⟩) 1 1) 1 [.int .i64 (L : Int)] ∧ RowKit.Hid (NoTo (ChordN (netsL g) g.length) L k) ∧ Below w3.heap.size w3 wr ∧
      wr.cell? ⟨w3.heap.size, 0, none⟩ = some (.slice (some ⟨nb, 0, none⟩) g.length nc) ∧ wr.cell? ⟨w3.heap.size + 1, 0, none⟩ = some (.func (Fn.func 73) #[] #[.pointer (some ⟨w3.heap.size, 0, none⟩)])) (fun iv _ => g.length - (intOf iv).toNat)
    case atStart => exact ⟨0, Nat.zero_le _, rfl, hoL, HNO, hbq, cA, cF⟩
    case round =>
      clear hoL HNO hbq cA cF l1 l2 hq
      obtain ⟨k, hk, rfl, hoL, HNO, hbq, cA, cF⟩ := hrel
      obtain ⟨l1, l2, -, -⟩ := own_cell hoL
      have hq := hq3.trans (hbq.mono hq3.size)
      have hq3s := hq3.size
      by_cases hlt : k < g.length
      case neg =>
        obtain rfl : k = g.length := by omega
        have HN2 := Lib.hid (chord_long HNO.out)
        have hws : IntKind.i64.wrap ((L : Int) + 1) = (L : Int) + 1 := IntWalk.i64_in _ (by omega)
        have hb3s := hbq.size
        have hlbl := cell_lt l1
        simp at hlbl
        have hcl := cell_lt cF
        simp at hcl
        have hon := own_new wr (w3.heap.size + 2) 3 (.int .i64 (((L + 1 : Nat)) : Int)) (by omega)
        have hba := hbq.alloc (Nat.le_trans (Nat.le_refl _) hb3s) (.cells #[.int .i64 (((L + 1 : Nat)) : Int)] 3)
        have cA2 := (World.cell?_alloc_some wr ⟨w3.heap.size, 0, none⟩ (.cells #[.int .i64 (((L + 1 : Nat)) : Int)] 3) (by rw [cA]; rfl)).trans cA
        have cF2 := (World.cell?_alloc_some wr ⟨w3.heap.size + 1, 0, none⟩ (.cells #[.int .i64 (((L + 1 : Nat)) : Int)] 3) (by rw [cF]; rfl)).trans cF
        have hms : (wr.alloc (.cells #[.int .i64 (((L + 1 : Nat)) : Int)] 3)).cell? ⟨wr.heap.size, 0, none⟩ = some (.int .i64 (((L + 1 : Nat)) : Int)) := by simp [go_sem]
        rw [show (((L + 1 : Nat)) : Int) = (L : Int) + 1 by omega] at hba cA2 cF2 hms
        have HON := Lib.hid hon
        have HMS := Lib.hid hms
        clear hon hms
        go_wp2
        refine ⟨⟨L + 1, wr.heap.size, by omega, by omega, rfl, HON.out, HN2, hba, cA2, cF2⟩, ?_⟩
        simp only [HMS.out, HL1.out]
        simp [intOf]
        omega
      have hni5 := hni.below hbq (Nat.le_refl _)
      have ht5 := ht.below hq (Nat.le_refl _)
      have hHl := HN.out.dist (v := k) (by rw [hlen]; exact hlt)
      rw [hlen] at hHl
      have hcl := cell_lt cF
      simp at hcl
      have hlbl := cell_lt l1
      simp at hlbl
      go_wp2
      apply meet4 (H := fun (db pb sb : Nat) (wn : World) => ∃ D, IsDist (netsL g) (firstN g.length) k g.length D ∧ Row wn db g.length (tabV D) ∧ Own wn wr.heap.size 3 1 (.slice (some ⟨pb, 0, none⟩) 1 1) 1 [.int .i64 (k : Int)] ∧ wr.heap.size ≤ db ∧ pb ≠ db ∧ sb ≠ db ∧ sb ≠ pb ∧
        Own wn wr.heap.size 78 6 (.slice (some ⟨sb, 0, none⟩) 1 1) 1 [.slice (some ⟨nb, 0, none⟩) g.length nc, .slice (some ⟨db, 0, none⟩) g.length g.length, .int .i64 (L : Int), .slice (some ⟨pb, 0, none⟩) 1 1, .int .u32 (bit k : Int), .nilFunc] ∧ Below wr.heap.size wr wn)
      case orders =>
        intro rest
        refine wp_region_held_drew (S := (fun w' => w'.cell? ⟨w3.heap.size, 0, none⟩ = some (.slice (some ⟨nb, 0, none⟩) g.length nc) ∧ w'.cell? ⟨lb, 0, none⟩ = some (.int .i64 (L : Int)))) (by kernel_rfl) ?_ (fun hHeld => ?_)
        · first | exact ⟨‹_›, ‹_›⟩ | (simp [*, go_sem])
        have hbd : Below wr.heap.size wr wr.drew := (Below.refl _ _).drew
        generalize wr.drew = wd at hbd hHeld ⊢
        obtain ⟨c3, c4⟩ := hHeld
        have hHeld : (fun w' => World.cell? w' ⟨w3.heap.size, 0, none⟩ = some (.slice (some ⟨nb, 0, none⟩) g.length nc) ∧ World.cell? w' ⟨lb, 0, none⟩ = some (.int .i64 (L : Int))) wd := ⟨c3, c4⟩
        refine wpAnyH_take (i := 0) (v := ?v1) (by simp only [List.getElem?_toArray, List.getElem?_cons_zero]; exact rfl) (by kernel_rfl) (by kernel_rfl) (by kernel_rfl) (by intro _ _ _ h; exact h) (Or.inl ⟨by rfl, ?y1⟩) hHeld ?_
        case y1 => (intro w hSw; (try dsimp only at hSw); go_simp; try (with_reducible rfl))
        try simp only [Act.put, List.setIfInBounds_toArray, List.set_cons_zero, List.set_cons_succ]
        refine wpAnyH_take (i := 1) (v := ?v2) (by simp only [List.getElem?_toArray, List.getElem?_cons_succ, List.getElem?_cons_zero]; exact rfl) (by kernel_rfl) (by kernel_rfl) (by kernel_rfl) (by intro _ _ _ h; exact h) (Or.inl ⟨by rfl, ?y2⟩) hHeld ?_
        case y2 => (intro w hSw; (try dsimp only at hSw); go_simp; try (with_reducible rfl))
        try simp only [Act.put, List.setIfInBounds_toArray, List.set_cons_zero, List.set_cons_succ]
        refine wpAnyH_take (i := 2) (v := ?v3) (by simp only [List.getElem?_toArray, List.getElem?_cons_succ, List.getElem?_cons_zero]; exact rfl) (by kernel_rfl) (by kernel_rfl) (by kernel_rfl) (by intro _ _ _ h; exact h) (Or.inl ⟨by rfl, ?y3⟩) hHeld ?_
        case y3 => (intro w hSw; (try dsimp only at hSw); go_simp; try (with_reducible rfl))
        try simp only [Act.put, List.setIfInBounds_toArray, List.set_cons_zero, List.set_cons_succ]
        refine wpAnyH_take (i := 3) (v := ?v4) (by simp only [List.getElem?_toArray, List.getElem?_cons_succ, List.getElem?_cons_zero]; exact rfl) (by kernel_rfl) (by kernel_rfl) (by kernel_rfl) (by intro _ _ _ h; exact h) (Or.inl ⟨by rfl, ?y4⟩) hHeld ?_
        case y4 => (intro w hSw; (try dsimp only at hSw); go_simp; try (with_reducible rfl))
        try simp only [Act.put, List.setIfInBounds_toArray, List.set_cons_zero, List.set_cons_succ]
        refine wpAnyH_take (i := 6) (v := ?v5) (by simp only [List.getElem?_toArray, List.getElem?_cons_succ, List.getElem?_cons_zero]; exact rfl) (by kernel_rfl) (by kernel_rfl) (by kernel_rfl) (by intro _ _ _ h; exact h) (Or.inl ⟨by rfl, ?y5⟩) hHeld ?_
        case y5 => (intro w hSw; (try dsimp only at hSw); go_simp; try (with_reducible rfl))
        try simp only [Act.put, List.setIfInBounds_toArray, List.set_cons_zero, List.set_cons_succ]
        refine wpAnyH_take (i := 7) (v := ?v6) (by simp only [List.getElem?_toArray, List.getElem?_cons_succ, List.getElem?_cons_zero]; exact rfl) (by kernel_rfl) (by kernel_rfl) (by kernel_rfl) (by intro _ _ _ h; exact h) (Or.inl ⟨by rfl, ?y6⟩) hHeld ?_
        case y6 => (intro w hSw; (try dsimp only at hSw); go_simp; try (with_reducible rfl))
        try simp only [Act.put, List.setIfInBounds_toArray, List.set_cons_zero, List.set_cons_succ]
        refine wpAnyH_take (i := 9) (v := ?v7) (by simp only [List.getElem?_toArray, List.getElem?_cons_succ, List.getElem?_cons_zero]; exact rfl) (by kernel_rfl) (by kernel_rfl) (by kernel_rfl) (by intro _ _ _ h; exact h) (Or.inl ⟨by rfl, ?y7⟩) hHeld ?_
        case y7 => (intro w hSw; (try dsimp only at hSw); go_simp; try (with_reducible rfl))
        try simp only [Act.put, List.setIfInBounds_toArray, List.set_cons_zero, List.set_cons_succ]
        refine wpAnyH_ready (rs := [4, 8]) (by kernel_rfl) (by simp) ?_
        refine (AllReadyH.cons (by simp only [List.getElem?_toArray, List.getElem?_cons_succ, List.getElem?_cons_zero]; exact rfl) (fun K hK => ?b8_4) (AllReadyH.cons (by simp only [List.getElem?_toArray, List.getElem?_cons_succ, List.getElem?_cons_zero]; exact rfl) (fun K hK => ?b8_8) AllReadyH.nil))
        case b8_4 =>
          go_simp
          (with_reducible refine (allOf_any _ _ _ _ (by omega)).mono ?_)
          rintro e wn ⟨rfl, rfl⟩
          try dsimp only
          refine hK.out _ _ ?h9 (fun hHeld => ?_)
          case h9 => first | exact ⟨‹_›, ‹_›⟩ | (simp [*, go_sem])
          clear hK K
          try simp only [Act.put, List.setIfInBounds_toArray, List.set_cons_zero, List.set_cons_succ]
          refine wpAnyH_ready (rs := [5, 8]) (by kernel_rfl) (by simp) ?_
          refine (AllReadyH.cons (by simp only [List.getElem?_toArray, List.getElem?_cons_succ, List.getElem?_cons_zero]; exact rfl) (fun K hK => ?b10_5) (AllReadyH.cons (by simp only [List.getElem?_toArray, List.getElem?_cons_succ, List.getElem?_cons_zero]; exact rfl) (fun K hK => ?b10_8) AllReadyH.nil))
          case b10_5 =>
            go_simp
            (with_reducible refine (distances_any (ht5.below hbd (Nat.le_refl _)) hHl (hni5.below hbd (Nat.le_refl _))).mono ?_)
            rintro e wn ⟨db, D, rfl, hdb, hrow, hD, hbn⟩
            have hs1 := hbd.size
            have hs2 := hbn.size
            have hdl : db < wn.heap.size := hrow.lt (by omega)
            try (have hpd : pb ≠ db := by omega)
            try (have hpl := Nat.lt_of_lt_of_le hpl hs2)
            try (have hpo := hpo.below hbn (Nat.le_refl _))
            have hdb : wr.heap.size ≤ db := Nat.le_trans hs1 hdb
            clear hs1 hs2
            have hbd := hbd.trans (hbn.mono hbd.size)
            have c3 := (hbn.cell (cell_lt c3)).trans c3
            have c4 := (hbn.cell (cell_lt c4)).trans c4
            obtain ⟨wd, rfl⟩ : ∃ wx : World, wx = wn := ⟨_, rfl⟩
            try dsimp only
            refine hK.out _ _ ?h11 (fun hHeld => ?_)
            case h11 => first | exact ⟨‹_›, ‹_›⟩ | (simp [*, go_sem])
            clear hK K
            try simp only [Act.put, List.setIfInBounds_toArray, List.set_cons_zero, List.set_cons_succ]
            refine wpAnyH_ready (rs := [8, 10]) (by kernel_rfl) (by simp) ?_
            refine (AllReadyH.cons (by simp only [List.getElem?_toArray, List.getElem?_cons_succ, List.getElem?_cons_zero]; exact rfl) (fun K hK => ?b12_8) (AllReadyH.cons (by simp only [List.getElem?_toArray, List.getElem?_cons_succ, List.getElem?_cons_zero]; exact rfl) (fun K hK => ?b12_10) AllReadyH.nil))
            case b12_8 =>
              go_simp
              have hbn : Below wd.heap.size wd (wd.alloc (.cells #[.int .i64 (k : Int)] 3)) := (Below.refl _ _).alloc (Nat.le_refl _) _
              have hs2 := hbn.size
              have hpo := own_new wd wr.heap.size 3 (.int .i64 (k : Int)) hbd.size
              have hpl : wd.heap.size < (wd.alloc (.cells #[.int .i64 (k : Int)] 3)).heap.size := by simp
              try (have hpd : wd.heap.size ≠ db := by omega)
              try (have hdl := Nat.lt_of_lt_of_le hdl hs2)
              try (have hrow := hrow.below hbn (Nat.le_refl _))
              clear hs2
              generalize (wd.alloc (.cells #[.int .i64 (k : Int)] 3)) = wn at *
              have hbd := hbd.trans (hbn.mono hbd.size)
              have c3 := (hbn.cell (cell_lt c3)).trans c3
              have c4 := (hbn.cell (cell_lt c4)).trans c4
              clear hbn
              first | generalize wd.heap.size = pb at hpo hpl hpd ⊢ | generalize wd.heap.size = pb at hpo hpl ⊢
              obtain ⟨wd, rfl⟩ : ∃ wx : World, wx = wn := ⟨_, rfl⟩
              try dsimp only
              refine hK.out _ _ ?h13 (fun hHeld => ?_)
              case h13 => first | exact ⟨‹_›, ‹_›⟩ | (simp [*, go_sem])
              clear hK K
              try simp only [Act.put, List.setIfInBounds_toArray, List.set_cons_zero, List.set_cons_succ]
              refine wpAnyH_ready (rs := [10]) (by kernel_rfl) (by simp) ?_
              refine AllReadyH.cons (by simp only [List.getElem?_toArray, List.getElem?_cons_succ, List.getElem?_cons_zero]; exact rfl) (fun K hK => ?_) AllReadyH.nil
              go_simp
              (with_reducible refine (one_any _ _ (by omega) (by omega)).mono ?_)
              rintro e wn ⟨rfl, rfl⟩
              try dsimp only
              refine hK.out _ _ ?h15 (fun hHeld => ?_)
              case h15 => first | exact ⟨‹_›, ‹_›⟩ | (simp [*, go_sem])
              clear hK K
              try simp only [Act.put, List.setIfInBounds_toArray, List.set_cons_zero, List.set_cons_succ]
              refine wpAnyH_take (i := 11) (v := ?v16) (by simp only [List.getElem?_toArray, List.getElem?_cons_succ, List.getElem?_cons_zero]; exact rfl) (by kernel_rfl) (by kernel_rfl) (by kernel_rfl) (by intro _ _ _ h; exact h) (Or.inl ⟨by rfl, ?y16⟩) hHeld ?_
              case y16 => (intro w hSw; (try dsimp only at hSw); go_simp; try (with_reducible rfl))
              try simp only [Act.put, List.setIfInBounds_toArray, List.set_cons_zero, List.set_cons_succ]
              refine wpAnyH_ready (rs := [12]) (by kernel_rfl) (by simp) ?_
              refine AllReadyH.cons (by simp only [List.getElem?_toArray, List.getElem?_cons_succ, List.getElem?_cons_zero]; exact rfl) (fun K hK => ?_) AllReadyH.nil
              go_simp
              have hbn : Below wd.heap.size wd (wd.alloc (.cells #[.slice (some ⟨nb, 0, none⟩) g.length nc, .slice (some ⟨db, 0, none⟩) g.length g.length, .int .i64 (L : Int), .slice (some ⟨pb, 0, none⟩) 1 1, .int .u32 (bit k : Int), .nilFunc] 78)) := (Below.refl _ _).alloc (Nat.le_refl _) _
              have hr6 := World.ownsRow_lit (base := wr.heap.size) (e := 78) (size := 6) wd #[.slice (some ⟨nb, 0, none⟩) g.length nc, .slice (some ⟨db, 0, none⟩) g.length g.length, .int .i64 (L : Int), .slice (some ⟨pb, 0, none⟩) 1 1, .int .u32 (bit k : Int), .nilFunc] 1 hbd.size (by unfold maxLen; omega) rfl
              have hsd : wd.heap.size ≠ db := by omega
              have hsp : wd.heap.size ≠ pb := by omega
              have hrow := hrow.below hbn (Nat.le_refl _)
              have hpo := hpo.below hbn (Nat.le_refl _)
              generalize (wd.alloc (.cells #[.slice (some ⟨nb, 0, none⟩) g.length nc, .slice (some ⟨db, 0, none⟩) g.length g.length, .int .i64 (L : Int), .slice (some ⟨pb, 0, none⟩) 1 1, .int .u32 (bit k : Int), .nilFunc] 78)) = wn at *
              have hbd := hbd.trans (hbn.mono hbd.size)
              have c3 := (hbn.cell (cell_lt c3)).trans c3
              have c4 := (hbn.cell (cell_lt c4)).trans c4
              clear hbn
              generalize wd.heap.size = sb at hr6 hsd hsp ⊢
              obtain ⟨wd, rfl⟩ : ∃ wx : World, wx = wn := ⟨_, rfl⟩
              try dsimp only
              refine hK.out _ _ ?h18 (fun hHeld => ?_)
              case h18 => first | exact ⟨‹_›, ‹_›⟩ | (simp [*, go_sem])
              clear hK K
              try simp only [Act.put, List.setIfInBounds_toArray, List.set_cons_zero, List.set_cons_succ]
              refine wpAnyH_take (i := 13) (v := ?v19) (by simp only [List.getElem?_toArray, List.getElem?_cons_succ, List.getElem?_cons_zero]; exact rfl) (by kernel_rfl) (by kernel_rfl) (by kernel_rfl) (by intro _ _ _ h; exact h) (Or.inl ⟨by rfl, ?y19⟩) hHeld ?_
              case y19 => (intro w hSw; (try dsimp only at hSw); go_simp; try (with_reducible rfl))
              try simp only [Act.put, List.setIfInBounds_toArray, List.set_cons_zero, List.set_cons_succ]
              refine wpAnyH_done (by kernel_rfl) ?_ _
              exact rest db pb sb wd ⟨D, hD, hrow, hpo, hdb, hpd, hsd, hsp, by simpa [Own] using hr6, hbd⟩
            case b12_10 =>
              go_simp
              (with_reducible refine (one_any _ _ (by omega) (by omega)).mono ?_)
              rintro e wn ⟨rfl, rfl⟩
              try dsimp only
              refine hK.out _ _ ?h20 (fun hHeld => ?_)
              case h20 => first | exact ⟨‹_›, ‹_›⟩ | (simp [*, go_sem])
              clear hK K
              try simp only [Act.put, List.setIfInBounds_toArray, List.set_cons_zero, List.set_cons_succ]
              refine wpAnyH_ready (rs := [8]) (by kernel_rfl) (by simp) ?_
              refine AllReadyH.cons (by simp only [List.getElem?_toArray, List.getElem?_cons_succ, List.getElem?_cons_zero]; exact rfl) (fun K hK => ?_) AllReadyH.nil
              go_simp
              have hbn : Below wd.heap.size wd (wd.alloc (.cells #[.int .i64 (k : Int)] 3)) := (Below.refl _ _).alloc (Nat.le_refl _) _
              have hs2 := hbn.size
              have hpo := own_new wd wr.heap.size 3 (.int .i64 (k : Int)) hbd.size
              have hpl : wd.heap.size < (wd.alloc (.cells #[.int .i64 (k : Int)] 3)).heap.size := by simp
              try (have hpd : wd.heap.size ≠ db := by omega)
              try (have hdl := Nat.lt_of_lt_of_le hdl hs2)
              try (have hrow := hrow.below hbn (Nat.le_refl _))
              clear hs2
              generalize (wd.alloc (.cells #[.int .i64 (k : Int)] 3)) = wn at *
              have hbd := hbd.trans (hbn.mono hbd.size)
              have c3 := (hbn.cell (cell_lt c3)).trans c3
              have c4 := (hbn.cell (cell_lt c4)).trans c4
              clear hbn
              first | generalize wd.heap.size = pb at hpo hpl hpd ⊢ | generalize wd.heap.size = pb at hpo hpl ⊢
              obtain ⟨wd, rfl⟩ : ∃ wx : World, wx = wn := ⟨_, rfl⟩
              try dsimp only
              refine hK.out _ _ ?h22 (fun hHeld => ?_)
              case h22 => first | exact ⟨‹_›, ‹_›⟩ | (simp [*, go_sem])
              clear hK K
              try simp only [Act.put, List.setIfInBounds_toArray, List.set_cons_zero, List.set_cons_succ]
              refine wpAnyH_take (i := 11) (v := ?v23) (by simp only [List.getElem?_toArray, List.getElem?_cons_succ, List.getElem?_cons_zero]; exact rfl) (by kernel_rfl) (by kernel_rfl) (by kernel_rfl) (by intro _ _ _ h; exact h) (Or.inl ⟨by rfl, ?y23⟩) hHeld ?_
              case y23 => (intro w hSw; (try dsimp only at hSw); go_simp; try (with_reducible rfl))
              try simp only [Act.put, List.setIfInBounds_toArray, List.set_cons_zero, List.set_cons_succ]
              refine wpAnyH_ready (rs := [12]) (by kernel_rfl) (by simp) ?_
              refine AllReadyH.cons (by simp only [List.getElem?_toArray, List.getElem?_cons_succ, List.getElem?_cons_zero]; exact rfl) (fun K hK => ?_) AllReadyH.nil
              go_simp
              have hbn : Below wd.heap.size wd (wd.alloc (.cells #[.slice (some ⟨nb, 0, none⟩) g.length nc, .slice (some ⟨db, 0, none⟩) g.length g.length, .int .i64 (L : Int), .slice (some ⟨pb, 0, none⟩) 1 1, .int .u32 (bit k : Int), .nilFunc] 78)) := (Below.refl _ _).alloc (Nat.le_refl _) _
              have hr6 := World.ownsRow_lit (base := wr.heap.size) (e := 78) (size := 6) wd #[.slice (some ⟨nb, 0, none⟩) g.length nc, .slice (some ⟨db, 0, none⟩) g.length g.length, .int .i64 (L : Int), .slice (some ⟨pb, 0, none⟩) 1 1, .int .u32 (bit k : Int), .nilFunc] 1 hbd.size (by unfold maxLen; omega) rfl
              have hsd : wd.heap.size ≠ db := by omega
              have hsp : wd.heap.size ≠ pb := by omega
              have hrow := hrow.below hbn (Nat.le_refl _)
              have hpo := hpo.below hbn (Nat.le_refl _)
              generalize (wd.alloc (.cells #[.slice (some ⟨nb, 0, none⟩) g.length nc, .slice (some ⟨db, 0, none⟩) g.length g.length, .int .i64 (L : Int), .slice (some ⟨pb, 0, none⟩) 1 1, .int .u32 (bit k : Int), .nilFunc] 78)) = wn at *
              have hbd := hbd.trans (hbn.mono hbd.size)
              have c3 := (hbn.cell (cell_lt c3)).trans c3
              have c4 := (hbn.cell (cell_lt c4)).trans c4
              clear hbn
              generalize wd.heap.size = sb at hr6 hsd hsp ⊢
              obtain ⟨wd, rfl⟩ : ∃ wx : World, wx = wn := ⟨_, rfl⟩
              try dsimp only
              refine hK.out _ _ ?h25 (fun hHeld => ?_)
              case h25 => first | exact ⟨‹_›, ‹_›⟩ | (simp [*, go_sem])
              clear hK K
              try simp only [Act.put, List.setIfInBounds_toArray, List.set_cons_zero, List.set_cons_succ]
              refine wpAnyH_take (i := 13) (v := ?v26) (by simp only [List.getElem?_toArray, List.getElem?_cons_succ, List.getElem?_cons_zero]; exact rfl) (by kernel_rfl) (by kernel_rfl) (by kernel_rfl) (by intro _ _ _ h; exact h) (Or.inl ⟨by rfl, ?y26⟩) hHeld ?_
              case y26 => (intro w hSw; (try dsimp only at hSw); go_simp; try (with_reducible rfl))
              try simp only [Act.put, List.setIfInBounds_toArray, List.set_cons_zero, List.set_cons_succ]
              refine wpAnyH_done (by kernel_rfl) ?_ _
              exact rest db pb sb wd ⟨D, hD, hrow, hpo, hdb, hpd, hsd, hsp, by simpa [Own] using hr6, hbd⟩
          case b10_8 =>
            go_simp
            have hbn : Below wd.heap.size wd (wd.alloc (.cells #[.int .i64 (k : Int)] 3)) := (Below.refl _ _).alloc (Nat.le_refl _) _
            have hs2 := hbn.size
            have hpo := own_new wd wr.heap.size 3 (.int .i64 (k : Int)) hbd.size
            have hpl : wd.heap.size < (wd.alloc (.cells #[.int .i64 (k : Int)] 3)).heap.size := by simp
            try (have hpd : wd.heap.size ≠ db := by omega)
            try (have hdl := Nat.lt_of_lt_of_le hdl hs2)
            try (have hrow := hrow.below hbn (Nat.le_refl _))
            clear hs2
            generalize (wd.alloc (.cells #[.int .i64 (k : Int)] 3)) = wn at *
            have hbd := hbd.trans (hbn.mono hbd.size)
            have c3 := (hbn.cell (cell_lt c3)).trans c3
            have c4 := (hbn.cell (cell_lt c4)).trans c4
            clear hbn
            first | generalize wd.heap.size = pb at hpo hpl hpd ⊢ | generalize wd.heap.size = pb at hpo hpl ⊢
            obtain ⟨wd, rfl⟩ : ∃ wx : World, wx = wn := ⟨_, rfl⟩
            try dsimp only
            refine hK.out _ _ ?h27 (fun hHeld => ?_)
            case h27 => first | exact ⟨‹_›, ‹_›⟩ | (simp [*, go_sem])
            clear hK K
            try simp only [Act.put, List.setIfInBounds_toArray, List.set_cons_zero, List.set_cons_succ]
            refine wpAnyH_ready (rs := [5]) (by kernel_rfl) (by simp) ?_
            refine AllReadyH.cons (by simp only [List.getElem?_toArray, List.getElem?_cons_succ, List.getElem?_cons_zero]; exact rfl) (fun K hK => ?_) AllReadyH.nil
            go_simp
            (with_reducible refine (distances_any (ht5.below hbd (Nat.le_refl _)) hHl (hni5.below hbd (Nat.le_refl _))).mono ?_)
            rintro e wn ⟨db, D, rfl, hdb, hrow, hD, hbn⟩
            have hs1 := hbd.size
            have hs2 := hbn.size
            have hdl : db < wn.heap.size := hrow.lt (by omega)
            try (have hpd : pb ≠ db := by omega)
            try (have hpl := Nat.lt_of_lt_of_le hpl hs2)
            try (have hpo := hpo.below hbn (Nat.le_refl _))
            have hdb : wr.heap.size ≤ db := Nat.le_trans hs1 hdb
            clear hs1 hs2
            have hbd := hbd.trans (hbn.mono hbd.size)
            have c3 := (hbn.cell (cell_lt c3)).trans c3
            have c4 := (hbn.cell (cell_lt c4)).trans c4
            obtain ⟨wd, rfl⟩ : ∃ wx : World, wx = wn := ⟨_, rfl⟩
            try dsimp only
            refine hK.out _ _ ?h29 (fun hHeld => ?_)
            case h29 => first | exact ⟨‹_›, ‹_›⟩ | (simp [*, go_sem])
            clear hK K
            try simp only [Act.put, List.setIfInBounds_toArray, List.set_cons_zero, List.set_cons_succ]
            refine wpAnyH_ready (rs := [10]) (by kernel_rfl) (by simp) ?_
            refine AllReadyH.cons (by simp only [List.getElem?_toArray, List.getElem?_cons_succ, List.getElem?_cons_zero]; exact rfl) (fun K hK => ?_) AllReadyH.nil
            go_simp
            (with_reducible refine (one_any _ _ (by omega) (by omega)).mono ?_)
            rintro e wn ⟨rfl, rfl⟩
            try dsimp only
            refine hK.out _ _ ?h31 (fun hHeld => ?_)
            case h31 => first | exact ⟨‹_›, ‹_›⟩ | (simp [*, go_sem])
            clear hK K
            try simp only [Act.put, List.setIfInBounds_toArray, List.set_cons_zero, List.set_cons_succ]
            refine wpAnyH_take (i := 11) (v := ?v32) (by simp only [List.getElem?_toArray, List.getElem?_cons_succ, List.getElem?_cons_zero]; exact rfl) (by kernel_rfl) (by kernel_rfl) (by kernel_rfl) (by intro _ _ _ h; exact h) (Or.inl ⟨by rfl, ?y32⟩) hHeld ?_
            case y32 => (intro w hSw; (try dsimp only at hSw); go_simp; try (with_reducible rfl))
            try simp only [Act.put, List.setIfInBounds_toArray, List.set_cons_zero, List.set_cons_succ]
            refine wpAnyH_ready (rs := [12]) (by kernel_rfl) (by simp) ?_
            refine AllReadyH.cons (by simp only [List.getElem?_toArray, List.getElem?_cons_succ, List.getElem?_cons_zero]; exact rfl) (fun K hK => ?_) AllReadyH.nil
            go_simp
            have hbn : Below wd.heap.size wd (wd.alloc (.cells #[.slice (some ⟨nb, 0, none⟩) g.length nc, .slice (some ⟨db, 0, none⟩) g.length g.length, .int .i64 (L : Int), .slice (some ⟨pb, 0, none⟩) 1 1, .int .u32 (bit k : Int), .nilFunc] 78)) := (Below.refl _ _).alloc (Nat.le_refl _) _
            have hr6 := World.ownsRow_lit (base := wr.heap.size) (e := 78) (size := 6) wd #[.slice (some ⟨nb, 0, none⟩) g.length nc, .slice (some ⟨db, 0, none⟩) g.length g.length, .int .i64 (L : Int), .slice (some ⟨pb, 0, none⟩) 1 1, .int .u32 (bit k : Int), .nilFunc] 1 hbd.size (by unfold maxLen; omega) rfl
            have hsd : wd.heap.size ≠ db := by omega
            have hsp : wd.heap.size ≠ pb := by omega
            have hrow := hrow.below hbn (Nat.le_refl _)
            have hpo := hpo.below hbn (Nat.le_refl _)
            generalize (wd.alloc (.cells #[.slice (some ⟨nb, 0, none⟩) g.length nc, .slice (some ⟨db, 0, none⟩) g.length g.length, .int .i64 (L : Int), .slice (some ⟨pb, 0, none⟩) 1 1, .int .u32 (bit k : Int), .nilFunc] 78)) = wn at *
            have hbd := hbd.trans (hbn.mono hbd.size)
            have c3 := (hbn.cell (cell_lt c3)).trans c3
            have c4 := (hbn.cell (cell_lt c4)).trans c4
            clear hbn
            generalize wd.heap.size = sb at hr6 hsd hsp ⊢
            obtain ⟨wd, rfl⟩ : ∃ wx : World, wx = wn := ⟨_, rfl⟩
            try dsimp only
            refine hK.out _ _ ?h34 (fun hHeld => ?_)
            case h34 => first | exact ⟨‹_›, ‹_›⟩ | (simp [*, go_sem])
            clear hK K
            try simp only [Act.put, List.setIfInBounds_toArray, List.set_cons_zero, List.set_cons_succ]
            refine wpAnyH_take (i := 13) (v := ?v35) (by simp only [List.getElem?_toArray, List.getElem?_cons_succ, List.getElem?_cons_zero]; exact rfl) (by kernel_rfl) (by kernel_rfl) (by kernel_rfl) (by intro _ _ _ h; exact h) (Or.inl ⟨by rfl, ?y35⟩) hHeld ?_
            case y35 => (intro w hSw; (try dsimp only at hSw); go_simp; try (with_reducible rfl))
            try simp only [Act.put, List.setIfInBounds_toArray, List.set_cons_zero, List.set_cons_succ]
            refine wpAnyH_done (by kernel_rfl) ?_ _
            exact rest db pb sb wd ⟨D, hD, hrow, hpo, hdb, hpd, hsd, hsp, by simpa [Own] using hr6, hbd⟩
        case b8_8 =>
          go_simp
          have hbn : Below wd.heap.size wd (wd.alloc (.cells #[.int .i64 (k : Int)] 3)) := (Below.refl _ _).alloc (Nat.le_refl _) _
          have hs2 := hbn.size
          have hpo := own_new wd wr.heap.size 3 (.int .i64 (k : Int)) hbd.size
          have hpl : wd.heap.size < (wd.alloc (.cells #[.int .i64 (k : Int)] 3)).heap.size := by simp
          try (have hpd : wd.heap.size ≠ db := by omega)
          try (have hdl := Nat.lt_of_lt_of_le hdl hs2)
          try (have hrow := hrow.below hbn (Nat.le_refl _))
          clear hs2
          generalize (wd.alloc (.cells #[.int .i64 (k : Int)] 3)) = wn at *
          have hbd := hbd.trans (hbn.mono hbd.size)
          have c3 := (hbn.cell (cell_lt c3)).trans c3
          have c4 := (hbn.cell (cell_lt c4)).trans c4
          clear hbn
          first | generalize wd.heap.size = pb at hpo hpl hpd ⊢ | generalize wd.heap.size = pb at hpo hpl ⊢
          obtain ⟨wd, rfl⟩ : ∃ wx : World, wx = wn := ⟨_, rfl⟩
          try dsimp only
          refine hK.out _ _ ?h36 (fun hHeld => ?_)
          case h36 => first | exact ⟨‹_›, ‹_›⟩ | (simp [*, go_sem])
          clear hK K
          try simp only [Act.put, List.setIfInBounds_toArray, List.set_cons_zero, List.set_cons_succ]
          refine wpAnyH_ready (rs := [4]) (by kernel_rfl) (by simp) ?_
          refine AllReadyH.cons (by simp only [List.getElem?_toArray, List.getElem?_cons_succ, List.getElem?_cons_zero]; exact rfl) (fun K hK => ?_) AllReadyH.nil
          go_simp
          (with_reducible refine (allOf_any _ _ _ _ (by omega)).mono ?_)
          rintro e wn ⟨rfl, rfl⟩
          try dsimp only
          refine hK.out _ _ ?h38 (fun hHeld => ?_)
          case h38 => first | exact ⟨‹_›, ‹_›⟩ | (simp [*, go_sem])
          clear hK K
          try simp only [Act.put, List.setIfInBounds_toArray, List.set_cons_zero, List.set_cons_succ]
          refine wpAnyH_ready (rs := [5]) (by kernel_rfl) (by simp) ?_
          refine AllReadyH.cons (by simp only [List.getElem?_toArray, List.getElem?_cons_succ, List.getElem?_cons_zero]; exact rfl) (fun K hK => ?_) AllReadyH.nil
          go_simp
          (with_reducible refine (distances_any (ht5.below hbd (Nat.le_refl _)) hHl (hni5.below hbd (Nat.le_refl _))).mono ?_)
          rintro e wn ⟨db, D, rfl, hdb, hrow, hD, hbn⟩
          have hs1 := hbd.size
          have hs2 := hbn.size
          have hdl : db < wn.heap.size := hrow.lt (by omega)
          try (have hpd : pb ≠ db := by omega)
          try (have hpl := Nat.lt_of_lt_of_le hpl hs2)
          try (have hpo := hpo.below hbn (Nat.le_refl _))
          have hdb : wr.heap.size ≤ db := Nat.le_trans hs1 hdb
          clear hs1 hs2
          have hbd := hbd.trans (hbn.mono hbd.size)
          have c3 := (hbn.cell (cell_lt c3)).trans c3
          have c4 := (hbn.cell (cell_lt c4)).trans c4
          obtain ⟨wd, rfl⟩ : ∃ wx : World, wx = wn := ⟨_, rfl⟩
          try dsimp only
          refine hK.out _ _ ?h40 (fun hHeld => ?_)
          case h40 => first | exact ⟨‹_›, ‹_›⟩ | (simp [*, go_sem])
          clear hK K
          try simp only [Act.put, List.setIfInBounds_toArray, List.set_cons_zero, List.set_cons_succ]
          refine wpAnyH_ready (rs := [10]) (by kernel_rfl) (by simp) ?_
          refine AllReadyH.cons (by simp only [List.getElem?_toArray, List.getElem?_cons_succ, List.getElem?_cons_zero]; exact rfl) (fun K hK => ?_) AllReadyH.nil
          go_simp
          (with_reducible refine (one_any _ _ (by omega) (by omega)).mono ?_)
          rintro e wn ⟨rfl, rfl⟩
          try dsimp only
          refine hK.out _ _ ?h42 (fun hHeld => ?_)
          case h42 => first | exact ⟨‹_›, ‹_›⟩ | (simp [*, go_sem])
          clear hK K
          try simp only [Act.put, List.setIfInBounds_toArray, List.set_cons_zero, List.set_cons_succ]
          refine wpAnyH_take (i := 11) (v := ?v43) (by simp only [List.getElem?_toArray, List.getElem?_cons_succ, List.getElem?_cons_zero]; exact rfl) (by kernel_rfl) (by kernel_rfl) (by kernel_rfl) (by intro _ _ _ h; exact h) (Or.inl ⟨by rfl, ?y43⟩) hHeld ?_
          case y43 => (intro w hSw; (try dsimp only at hSw); go_simp; try (with_reducible rfl))
          try simp only [Act.put, List.setIfInBounds_toArray, List.set_cons_zero, List.set_cons_succ]
          refine wpAnyH_ready (rs := [12]) (by kernel_rfl) (by simp) ?_
          refine AllReadyH.cons (by simp only [List.getElem?_toArray, List.getElem?_cons_succ, List.getElem?_cons_zero]; exact rfl) (fun K hK => ?_) AllReadyH.nil
          go_simp
          have hbn : Below wd.heap.size wd (wd.alloc (.cells #[.slice (some ⟨nb, 0, none⟩) g.length nc, .slice (some ⟨db, 0, none⟩) g.length g.length, .int .i64 (L : Int), .slice (some ⟨pb, 0, none⟩) 1 1, .int .u32 (bit k : Int), .nilFunc] 78)) := (Below.refl _ _).alloc (Nat.le_refl _) _
          have hr6 := World.ownsRow_lit (base := wr.heap.size) (e := 78) (size := 6) wd #[.slice (some ⟨nb, 0, none⟩) g.length nc, .slice (some ⟨db, 0, none⟩) g.length g.length, .int .i64 (L : Int), .slice (some ⟨pb, 0, none⟩) 1 1, .int .u32 (bit k : Int), .nilFunc] 1 hbd.size (by unfold maxLen; omega) rfl
          have hsd : wd.heap.size ≠ db := by omega
          have hsp : wd.heap.size ≠ pb := by omega
          have hrow := hrow.below hbn (Nat.le_refl _)
          have hpo := hpo.below hbn (Nat.le_refl _)
          generalize (wd.alloc (.cells #[.slice (some ⟨nb, 0, none⟩) g.length nc, .slice (some ⟨db, 0, none⟩) g.length g.length, .int .i64 (L : Int), .slice (some ⟨pb, 0, none⟩) 1 1, .int .u32 (bit k : Int), .nilFunc] 78)) = wn at *
          have hbd := hbd.trans (hbn.mono hbd.size)
          have c3 := (hbn.cell (cell_lt c3)).trans c3
          have c4 := (hbn.cell (cell_lt c4)).trans c4
          clear hbn
          generalize wd.heap.size = sb at hr6 hsd hsp ⊢
          obtain ⟨wd, rfl⟩ : ∃ wx : World, wx = wn := ⟨_, rfl⟩
          try dsimp only
          refine hK.out _ _ ?h45 (fun hHeld => ?_)
          case h45 => first | exact ⟨‹_›, ‹_›⟩ | (simp [*, go_sem])
          clear hK K
          try simp only [Act.put, List.setIfInBounds_toArray, List.set_cons_zero, List.set_cons_succ]
          refine wpAnyH_take (i := 13) (v := ?v46) (by simp only [List.getElem?_toArray, List.getElem?_cons_succ, List.getElem?_cons_zero]; exact rfl) (by kernel_rfl) (by kernel_rfl) (by kernel_rfl) (by intro _ _ _ h; exact h) (Or.inl ⟨by rfl, ?y46⟩) hHeld ?_
          case y46 => (intro w hSw; (try dsimp only at hSw); go_simp; try (with_reducible rfl))
          try simp only [Act.put, List.setIfInBounds_toArray, List.set_cons_zero, List.set_cons_succ]
          refine wpAnyH_done (by kernel_rfl) ?_ _
          exact rest db pb sb wd ⟨D, hD, hrow, hpo, hdb, hpd, hsd, hsp, by simpa [Own] using hr6, hbd⟩
      case rest =>
        intro db pb sb wn ⟨D, hD, hrow, hpo, hdb, hpd, hsd, hsp, hrow6, hbn⟩
        obtain ⟨FV, hFV⟩ : ∃ FV, FV = Value.func (Fn.func 78) #[] #[.pointer (some ⟨w3.heap.size, 0, none⟩), .pointer (some ⟨w3.heap.size + 1, 0, none⟩), .pointer (some ⟨lb, 0, none⟩)] := ⟨_, rfl⟩
        obtain ⟨k0, k1, k2, k3, k4, k5, kfz, ksB, ksl⟩ := row6 hrow6
        have f5 := kfz 5
        have hpb := hpo.lt pb rfl
        have ent : ∀ (args : Array Value) (w : World), (callFunc 78 args).run Tryd.prog w = .ok (.enter 78 args) w := fun args w => run_enter Tryd.func78 (by kernel_rfl) rfl args w
        have hset : ∀ b, b ≠ sb → (wn.setCell ⟨sb, 5, none⟩ FV).heap[b]? = wn.heap[b]? := fun b hb => Below.heap_setCell _ _ _ _ (fun e => hb (by simpa [eq_comm] using e))
        have hrW := hrow6.stored 5 FV
        have hszW : (wn.setCell ⟨sb, 5, none⟩ FV).heap.size = wn.heap.size := by simp
        have hbW : Below w3.heap.size w3 (wn.setCell ⟨sb, 5, none⟩ FV) := (hbq.trans (hbn.mono hbq.size)).setCell (by have := hbq.size; simp; omega) _
        have hdbl := hrow.lt (show 0 < g.length by omega)
        have hpoW : Own (wn.setCell ⟨sb, 5, none⟩ FV) wr.heap.size 3 1 (.slice (some ⟨pb, 0, none⟩) 1 1) 1 [.int .i64 (k : Int)] := hpo.keep fun b hb => hset b (by simp [Value.ownBlock] at hb; omega)
        have hniW : SlI (fun b => b < wr.heap.size) (wn.setCell ⟨sb, 5, none⟩ FV) .u32 (.slice (some ⟨nb, 0, none⟩) g.length nc) (natsI (netsL g)) := (hni5.lowS.below hbn (Nat.le_refl _)).keep fun b hb => hset b (by omega)
        have hflW : SlI (fun b => b = db) (wn.setCell ⟨sb, 5, none⟩ FV) .i64 (.slice (some ⟨db, 0, none⟩) g.length g.length) ((List.range g.length).map D) := (row_list hrow (by omega)).keep fun b hb => hset b (by omega)
        have htW : Tab (wn.setCell ⟨sb, 5, none⟩ FV) := ht.below (hq3.trans (hbW.mono hq3.size)) (Nat.le_refl _)
        have hold : ∀ b, b < wr.heap.size → (wn.setCell ⟨sb, 5, none⟩ FV).heap[b]? = wr.heap[b]? := fun b hb => (hset b (by omega)).trans (hbn.block b hb)
        have cAW := (cell_heap (hold _ (cell_lt cA))).trans cA
        have cFW := (cell_heap (hold _ (cell_lt cF))).trans cF
        have cLW := (cell_heap (hold _ (cell_lt l1))).trans l1
        have hoLW : Own (wn.setCell ⟨sb, 5, none⟩ FV) (w3.heap.size + 2) 3 1 (.slice (some ⟨lb, 0, none⟩) 1 1) 1 [.int .i64 (L : Int)] := hoL.keep fun b hb => hold b (by simp [Value.ownBlock] at hb; omega)
        have hL16 : L ≤ 16 := by omega
        have hGL : GL (fun b => b < wr.heap.size ∨ b = db) 3 78 (wn.setCell ⟨sb, 5, none⟩ FV) wr.heap.size sb (.slice (some ⟨nb, 0, none⟩) g.length nc) (.slice (some ⟨db, 0, none⟩) g.length g.length) FV L (.slice (some ⟨pb, 0, none⟩) 1 1) [k] := by
          refine ⟨by simpa [maskN, List.set] using hrW, by simpa [natsI] using hpoW, fun b hb => ?_, by omega⟩
          have : pb = b := by simpa [Value.ownBlock] using hb
          omega
        have hcn := chord_none HN.out (v := k) (L := L) (D := D) (by rw [hlen]; exact hlt) (by rw [hlen]; exact hD)
        have hcs := fun q => chord_some HN.out (v := k) (L := L) (D := D) (q := q) (by rw [hlen]; exact hlt) (by rw [hlen]; exact hD) hL4
        rw [hlen] at hcn hcs
        have HCN := Lib.hid hcn
        have HCS := Lib.hid hcs
        have hgr := lgrow_any (X := fun b => b < wr.heap.size ∨ b = db) (N := 78) (cb := #[.pointer (some ⟨w3.heap.size, 0, none⟩), .pointer (some ⟨w3.heap.size + 1, 0, none⟩), .pointer (some ⟨lb, 0, none⟩)]) (w0 := wn.setCell ⟨sb, 5, none⟩ FV) (n := g.length) (B := wr.heap.size) (sb := sb) (ft := chFit (netsL g) L) (L := L) (H := netsL g) (av := .slice (some ⟨nb, 0, none⟩) g.length nc) (fv := .slice (some ⟨db, 0, none⟩) g.length g.length) (Dl := (List.range g.length).map D) ent
          (fun W' hX' => ⟨(hniW.keep fun b hb => hX'.2 b (.inl hb)).weak fun _ _ => trivial, (hflW.keep fun b hb => hX'.2 b (.inr hb)).weak fun _ _ => trivial, fun i hi => (cell_heap (hX'.2 0 (by have := cell_lt (ht5 i hi); left; simpa using this))).trans (htW i hi)⟩)
          (fun p v pv W' hX' hp hvn hpL hpv => (chFit2_any ((cell_heap (hX'.2 _ (.inl (cell_lt cA)))).trans cAW) ((cell_heap (hX'.2 _ (.inl (cell_lt cF)))).trans cFW) ((cell_heap (hX'.2 _ (.inl (cell_lt l1)))).trans cLW) (hniW.keep fun b hb => hX'.2 b (.inl hb)) hpv hp.ne (by omega) (fun x hx => by rw [hlen]; exact hp.lt x hx) (by rw [hlen]; exact hvn) (by rw [hlen]; exact h16) HN.out.lt hL16 (by omega)).mono fun e w' h => ⟨h.1, h.2.below _⟩)
          (fun b hb => by rw [hszW]; rcases hb with hb | hb; have := hbn.size; omega; omega) (by have := HN.out.lt; rwa [hlen] at this) h16 hlen.symm (by simp) hL16 (L - 1) [k] (.slice (some ⟨pb, 0, none⟩) 1 1) (wn.setCell ⟨sb, 5, none⟩ FV) (by simp; omega) (PathN.one hlt) (XK.refl _ _) (by rw [hFV] at hGL ⊢; exact hGL) (by rw [hszW]; exact hbn.size)
        have HFV := Lib.hid hFV
        have hszn := hbn.size
        clear hcn hcs hrow6 hrow hpo hrW hpoW hniW hflW htW hni5 ht5 hHl k0 k1 k2 k3 k4 hD kfz
        rw [hFV] at hgr hszW hbW cAW cFW cLW hoLW
        clear hGL hset hold hFV
        go_wp2_with fail
        refine hgr.mono ?_
        clear hgr
        rintro e w6 ⟨pv, rfl, hG3, hK3, -⟩
        have hb6 : Below w3.heap.size w3 w6 := hK3.below hbW (by rw [hszW]; have := hbq.size; omega) (fun b hb => by
          have := hbq.size
          rcases hb with h | h
          · omega
          · have : pb = b := by simpa [Value.ownBlock] using h
            omega)
        have hkeep : ∀ b, b < wr.heap.size → w6.heap[b]? = _ := fun b hb => hK3.block b (by rw [hszW]; omega) (fun h => by
          rcases h with h | h
          · omega
          · have : pb = b := by simpa [Value.ownBlock] using h
            omega)
        have cA6 := (cell_heap (hkeep _ (cell_lt cA))).trans cAW
        have cF6 := (cell_heap (hkeep _ (cell_lt cF))).trans cFW
        have hoL6 := hoLW.keep fun b hb => hkeep b (by simp [Value.ownBlock] at hb; omega)
        have hq6 := hq3.trans (hb6.mono hq3.size)
        clear hkeep hK3 cAW cFW cLW hoLW hbW hszW
        generalize dfsF (candN (netsL g) (farF ((List.range g.length).map D)) L (chFit (netsL g) L)) (finN (netsL g)) (L - 1) [k] = o at *
        cases o with
        | none =>
          have HNO2 := Lib.hid (HNO.out.vertex (by omega) (HCN.out rfl))
          simp only [Option.isSome_none]
          clear cA cF l1 hoL HCN HCS
          go_wp2
          go_roundw
          case rel => exact ⟨k + 1, by omega, by go_num, hoL6, HNO2, hb6, cA6, cF6⟩
          case measure => simp [intOf]; omega
        | some q =>
          have hle := HCS.out q rfl HNO.out
          have hp := HE.out.trans (pick_some hle)
          have hq4 := hle.1.four
          have hq16 := loop_len hle.1.loop.path
          have hde : decide (chF g ≠ []) = true := decide_eq_true (by rw [hp]; intro e; rw [e] at hq4; simp at hq4)
          have HP := Lib.hid hp
          have HDE := Lib.hid hde
          simp only [Option.isSome_some, Option.getD_some] at hG3 ⊢
          obtain ⟨g0, g1, g2, g3, g4, g5, gfz, gsB, gsl⟩ := row6 hG3.row
          have hown := hG3.own
          have hwd := wide_any (hown.ints (xs := natsI q) (by omega)) (by rw [natsI_len]; omega)
          obtain ⟨gb, gc, rfl⟩ := own_some hown (by omega)
          clear hp hde hle cA cF l1 hoL HCN HCS g0 g1 g2 g4 g5 gfz
          go_wp2_with fail
          refine hwd.mono ?_
          rintro e w7 ⟨x, rfl, hx, hb7⟩
          go_wp2
          go_ret2
          rw [HDE.out, HP.out]
          exact ⟨x, rfl, hx.weak hq6.size, hq6.trans (hb7.mono hq6.size)⟩
theorem conChordlessLoop {g0 : List (List Int)} (hsm0 : SmallR g0 1048576) : ∃ (r0 : List Int) (r1 : Bool), (∀ {S0 : Nat → Prop} {v0 : Value} {w : World}, SlR S0 w v0 g0 → Calls Tryd.prog 16 #[.agg #[v0]] w fun e w' => ∃ u0, e = .returned (.tuple #[u0, .bool r1]) ∧ SlI (fun b => b < w'.heap.size) w' .i64 u0 r0 ∧ Below w.heap.size w w') ∧
    (∀ {S0 : Nat → Prop} {v0 : Value} {w : World}, Tab w → SlR S0 w v0 g0 → Calls Tryd.prog 18 #[.agg #[v0]] w fun e w' => ∃ u0, e = .returned (.tuple #[u0, .bool r1]) ∧ Own w' w.heap.size 2 1 u0 r0.length (r0.map (.int .i64)) ∧ Below w.heap.size w w') ∧
    r0.length ≤ 1048576 := by
  exact ⟨natsI (chF g0), decide (chF g0 ≠ []), fun h0 => specChordlessLoop_any h0, fun ht h0 => implChordlessLoop_any ht h0, by rw [natsI_len]; have := chF_len g0; omega⟩
set_option maxHeartbeats 16000000 in
theorem lawChordlessLoop_any {S0 : Nat → Prop} (v0 : Value) (g0 : List (List Int)) (w : World) (ht : Tab w) (hv0 : SlR S0 w v0 g0) :
    Calls Tryd.prog 3 #[.agg #[v0]] w fun e w' => e = .returned (.bool true) ∧ Below w.heap.size w w' := by
  obtain ⟨a0, c0, rfl⟩ := hv0.slice
  have q0 : Below w.heap.size w (w.alloc (.cells #[.slice a0 g0.length c0] 24)) := (Below.refl _ _).alloc (Nat.le_refl _) _
  go_enter Tryd.func3, Tryd.ntmps3
  go_wp2_with fail
  refine (szGraph_any _ _ _ _ (hv0.below q0 (Nat.le_refl _)) (by omega) (by omega)).mono ?_
  rintro e w1 ⟨r1, rfl, hr1, hs1, hm1, hb1⟩
  have q1 := q0.trans (hb1.mono q0.size)
  have z0 := q0.size
  have z1 : w.heap.size + 1 ≤ w1.heap.size := by have := hb1.size; simp at this; omega
  have b0_1 : w1.cell? ⟨w.heap.size, 0, none⟩ = some (.slice a0 g0.length c0) := (hb1.cell (p := ⟨w.heap.size, 0, none⟩) (by simp <;> omega)).trans (by simp [go_sem])
  by_cases hneg1 : r1 < 0
  case pos =>
    go_wp2
    go_ret
    exact ⟨rfl, q1⟩
  have hsm0 : SmallR g0 1048576 := hm1 (by omega)
  obtain ⟨r0, r1, hS, hI, hN0⟩ := conChordlessLoop hsm0
  have hB0 : r0.length ≤ 9223372036854775807 := by omega
  go_wp2_with fail
  refine (toGraphR_any (hv0.below q1 (Nat.le_refl _)) hsm0).mono ?_
  rintro e w2 ⟨x2, rfl, y2_2, hb2⟩
  have q2 := q1.trans (hb2.mono q1.size)
  have z2 := hb2.size
  have b0_2 : w2.cell? ⟨w.heap.size, 0, none⟩ = some (.slice a0 g0.length c0) := (hb2.cell (p := ⟨w.heap.size, 0, none⟩) (cell_lt b0_1)).trans b0_1
  obtain ⟨xa2, xc2, rfl⟩ := y2_2.isSlice
  go_wp2_with fail
  refine (hS (y2_2.rows hsm0)).mono ?_
  rintro e w3 ⟨w0u0, rfl, w0_0_3, hb3⟩
  have q3 := q2.trans (hb3.mono q2.size)
  have z3 := hb3.size
  have b0_3 : w3.cell? ⟨w.heap.size, 0, none⟩ = some (.slice a0 g0.length c0) := (hb3.cell (p := ⟨w.heap.size, 0, none⟩) (cell_lt b0_2)).trans b0_2
  have y2_3 := y2_2.below hb3 (Nat.le_refl _)
  obtain ⟨w0a0, w0c0, rfl⟩ := w0_0_3.slice
  go_wp2_with fail
  refine (toGraphR_any (hv0.below q3 (Nat.le_refl _)) hsm0).mono ?_
  rintro e w4 ⟨x4, rfl, y4_4, hb4⟩
  have q4 := q3.trans (hb4.mono q3.size)
  have z4 := hb4.size
  have b0_4 : w4.cell? ⟨w.heap.size, 0, none⟩ = some (.slice a0 g0.length c0) := (hb4.cell (p := ⟨w.heap.size, 0, none⟩) (cell_lt b0_3)).trans b0_3
  have y2_4 := y2_3.below hb4 (Nat.le_refl _)
  have w0_0_4 := w0_0_3.below hb4 (Nat.le_refl _)
  obtain ⟨xa4, xc4, rfl⟩ := y4_4.isSlice
  have hb5 : Below w4.heap.size w4 (w4.alloc (.cells #[.slice xa4 g0.length xc4] 29)) := (Below.refl _ _).alloc (Nat.le_refl _) _
  obtain ⟨w5, ew5⟩ : ∃ x, x = (w4.alloc (.cells #[.slice xa4 g0.length xc4] 29)) := ⟨_, rfl⟩
  rw [← ew5] at hb5
  have l5_5 : w5.cell? ⟨w4.heap.size, 0, none⟩ = some (.slice xa4 g0.length xc4) := by rw [ew5]; simp [go_sem]
  have zz5 : w5.heap.size = w4.heap.size + 1 := by rw [ew5]; simp
  have q5 := q4.trans (hb5.mono q4.size)
  have z5 := hb5.size
  have b0_5 : w5.cell? ⟨w.heap.size, 0, none⟩ = some (.slice a0 g0.length c0) := (hb5.cell (p := ⟨w.heap.size, 0, none⟩) (cell_lt b0_4)).trans b0_4
  have y2_5 := y2_4.below hb5 (Nat.le_refl _)
  have w0_0_5 := w0_0_4.below hb5 (Nat.le_refl _)
  have y4_5 := y4_4.below hb5 (Nat.le_refl _)
  have b0_5e : (w4.alloc (.cells #[.slice xa4 g0.length xc4] 29)).cell? ⟨w.heap.size, 0, none⟩ = some (.slice a0 g0.length c0) := by rw [← ew5]; exact b0_5
  have l5_5e : (w4.alloc (.cells #[.slice xa4 g0.length xc4] 29)).cell? ⟨w4.heap.size, 0, none⟩ = some (.slice xa4 g0.length xc4) := by rw [← ew5]; exact l5_5
  go_wp2_with fail
  rw [← ew5]
  refine (hI (ht.below q5 (Nat.le_refl _)) (y4_5.rows hsm0)).mono ?_
  rintro e w6 ⟨g0u0, rfl, g0_0_6, hb6⟩
  have q6 := q5.trans (hb6.mono q5.size)
  have z6 := hb6.size
  have b0_6 : w6.cell? ⟨w.heap.size, 0, none⟩ = some (.slice a0 g0.length c0) := (hb6.cell (p := ⟨w.heap.size, 0, none⟩) (cell_lt b0_5)).trans b0_5
  have l5_6 : w6.cell? ⟨w4.heap.size, 0, none⟩ = some (.slice xa4 g0.length xc4) := (hb6.cell (p := ⟨w4.heap.size, 0, none⟩) (cell_lt l5_5)).trans l5_5
  have y2_6 := y2_5.below hb6 (Nat.le_refl _)
  have w0_0_6 := w0_0_5.below hb6 (Nat.le_refl _)
  have y4_6 := y4_5.below hb6 (Nat.le_refl _)
  obtain ⟨g0a0, g0c0, rfl⟩ := g0_0_6.isSlice
  go_wp2_with fail
  refine (eqI_same (Own.ints g0_0_6 hB0) w0_0_6).mono ?_
  rintro e w7 ⟨rfl, hb7⟩
  have q7 := q6.trans (hb7.mono q6.size)
  have z7 := hb7.size
  have b0_7 : w7.cell? ⟨w.heap.size, 0, none⟩ = some (.slice a0 g0.length c0) := (hb7.cell (p := ⟨w.heap.size, 0, none⟩) (cell_lt b0_6)).trans b0_6
  have l5_7 : w7.cell? ⟨w4.heap.size, 0, none⟩ = some (.slice xa4 g0.length xc4) := (hb7.cell (p := ⟨w4.heap.size, 0, none⟩) (cell_lt l5_6)).trans l5_6
  have y2_7 := y2_6.below hb7 (Nat.le_refl _)
  have w0_0_7 := w0_0_6.below hb7 (Nat.le_refl _)
  have y4_7 := y4_6.below hb7 (Nat.le_refl _)
  have g0_0_7 := g0_0_6.below hb7 (Nat.le_refl _)
  go_wp2
  refine wp_region_held_drew (S := (fun w' => w'.cell? ⟨w.heap.size, 0, none⟩ = some (.slice a0 g0.length c0) ∧ w'.cell? ⟨w4.heap.size, 0, none⟩ = some (.slice xa4 g0.length xc4))) (by kernel_rfl) ?_ (fun hHeld => ?_)
  · first | exact ⟨‹_›, ‹_›⟩ | assumption | (simp [*, go_sem])
  refine wpAnyH_take (i := 0) (v := ?v47) (by simp only [List.getElem?_toArray, List.getElem?_cons_zero]; exact rfl) (by kernel_rfl) (by kernel_rfl) (by kernel_rfl) (by intro _ _ _ h; exact h) (Or.inl ⟨by rfl, ?y47⟩) hHeld ?_
  case y47 => (intro w hSw; (try dsimp only at hSw); go_simp; try (with_reducible rfl))
  try simp only [Act.put, List.setIfInBounds_toArray, List.set_cons_zero, List.set_cons_succ]
  refine wpAnyH_take (i := 1) (v := ?v48) (by simp only [List.getElem?_toArray, List.getElem?_cons_succ, List.getElem?_cons_zero]; exact rfl) (by kernel_rfl) (by kernel_rfl) (by kernel_rfl) (by intro _ _ _ h; exact h) (Or.inl ⟨by rfl, ?y48⟩) hHeld ?_
  case y48 => (intro w hSw; (try dsimp only at hSw); go_simp; try (with_reducible rfl))
  try simp only [Act.put, List.setIfInBounds_toArray, List.set_cons_zero, List.set_cons_succ]
  refine wpAnyH_ready (rs := [2]) (by kernel_rfl) (by simp) ?_
  refine AllReadyH.cons (by simp only [List.getElem?_toArray, List.getElem?_cons_succ, List.getElem?_cons_zero]; exact rfl) (fun K hK => ?_) AllReadyH.nil
  go_simp
  have q7d := q7.drew
  have y2_7k := y2_7
  have y2_7 := y2_7.below ((Below.refl w7.heap.size w7).drew) (Nat.le_refl _)
  have w0_0_7k := w0_0_7
  have w0_0_7 := w0_0_7.below ((Below.refl w7.heap.size w7).drew) (Nat.le_refl _)
  have y4_7k := y4_7
  have y4_7 := y4_7.below ((Below.refl w7.heap.size w7).drew) (Nat.le_refl _)
  have g0_0_7k := g0_0_7
  have g0_0_7 := g0_0_7.below ((Below.refl w7.heap.size w7).drew) (Nat.le_refl _)
  refine (toGraph_any _ _ _ (hv0.below q7d (Nat.le_refl _)) hsm0).mono ?_
  rintro e w8 ⟨x8, rfl, y8_8, hb8⟩
  replace hb8 : Below w7.heap.size w7 w8 := ⟨hb8.os, hb8.tape, hb8.output, hb8.size, hb8.block⟩
  replace y2_7 := y2_7k
  replace w0_0_7 := w0_0_7k
  replace y4_7 := y4_7k
  replace g0_0_7 := g0_0_7k
  have q8 := q7.trans (hb8.mono q7.size)
  have z8 := hb8.size
  have b0_8 : w8.cell? ⟨w.heap.size, 0, none⟩ = some (.slice a0 g0.length c0) := (hb8.cell (p := ⟨w.heap.size, 0, none⟩) (cell_lt b0_7)).trans b0_7
  have l5_8 : w8.cell? ⟨w4.heap.size, 0, none⟩ = some (.slice xa4 g0.length xc4) := (hb8.cell (p := ⟨w4.heap.size, 0, none⟩) (cell_lt l5_7)).trans l5_7
  have y2_8 := y2_7.below hb8 (Nat.le_refl _)
  have w0_0_8 := w0_0_7.below hb8 (Nat.le_refl _)
  have y4_8 := y4_7.below hb8 (Nat.le_refl _)
  have g0_0_8 := g0_0_7.below hb8 (Nat.le_refl _)
  try dsimp only
  refine hK.out _ _ ?h50 (fun hHeld => ?_)
  case h50 => first | exact ⟨‹_›, ‹_›⟩ | assumption | (simp [*, go_sem])
  clear hK K
  try simp only [Act.put, List.setIfInBounds_toArray, List.set_cons_zero, List.set_cons_succ]
  refine wpAnyH_ready (rs := [3]) (by kernel_rfl) (by simp) ?_
  refine AllReadyH.cons (by simp only [List.getElem?_toArray, List.getElem?_cons_succ, List.getElem?_cons_zero]; exact rfl) (fun K hK => ?_) AllReadyH.nil
  go_simp
  refine (eqG_same (y4_8.rows hsm0) y8_8).mono ?_
  rintro e w9 ⟨rfl, hb9⟩
  have q9 := q8.trans (hb9.mono q8.size)
  have z9 := hb9.size
  have b0_9 : w9.cell? ⟨w.heap.size, 0, none⟩ = some (.slice a0 g0.length c0) := (hb9.cell (p := ⟨w.heap.size, 0, none⟩) (cell_lt b0_8)).trans b0_8
  have l5_9 : w9.cell? ⟨w4.heap.size, 0, none⟩ = some (.slice xa4 g0.length xc4) := (hb9.cell (p := ⟨w4.heap.size, 0, none⟩) (cell_lt l5_8)).trans l5_8
  have y2_9 := y2_8.below hb9 (Nat.le_refl _)
  have w0_0_9 := w0_0_8.below hb9 (Nat.le_refl _)
  have y4_9 := y4_8.below hb9 (Nat.le_refl _)
  have g0_0_9 := g0_0_8.below hb9 (Nat.le_refl _)
  have y8_9 := y8_8.below hb9 (Nat.le_refl _)
  try dsimp only
  refine hK.out _ _ ?h52 (fun hHeld => ?_)
  case h52 => first | exact ⟨‹_›, ‹_›⟩ | assumption | (simp [*, go_sem])
  clear hK K
  try simp only [Act.put, List.setIfInBounds_toArray, List.set_cons_zero, List.set_cons_succ]
  refine wpAnyH_take (i := 4) (v := ?v53) (by simp only [List.getElem?_toArray, List.getElem?_cons_succ, List.getElem?_cons_zero]; exact rfl) (by kernel_rfl) (by kernel_rfl) (by kernel_rfl) (by intro _ _ _ h; exact h) (Or.inl ⟨by rfl, ?y53⟩) hHeld ?_
  case y53 => (intro w hSw; (try dsimp only at hSw); go_simp; try (with_reducible rfl))
  try simp only [Act.put, List.setIfInBounds_toArray, List.set_cons_zero, List.set_cons_succ]
  refine wpAnyH_done (by kernel_rfl) ?_ _
  go_wp2_with fail
  refine (markG_any y4_9 hsm0 (by omega) (by omega) (by omega)).mono ?_
  rintro e w10 ⟨k10, rfl, hk10, hl10, ht10⟩
  have q10 := ht10.below q9 (by have := q9.size; omega) q9.size
  have z10 := ht10.size
  have b0_10 : w10.cell? ⟨w.heap.size, 0, none⟩ = some (.slice a0 g0.length c0) := (ht10.cell (p := ⟨w.heap.size, 0, none⟩) (cell_lt b0_9) (by have : w.heap.size < w9.heap.size := cell_lt b0_9; show w.heap.size < _ ∨ _ ≤ w.heap.size; omega)).trans b0_9
  have l5_10 : w10.cell? ⟨w4.heap.size, 0, none⟩ = some (.slice xa4 g0.length xc4) := (ht10.cell (p := ⟨w4.heap.size, 0, none⟩) (cell_lt l5_9) (by have : w4.heap.size < w9.heap.size := cell_lt l5_9; show w4.heap.size < _ ∨ _ ≤ w4.heap.size; omega)).trans l5_9
  have y2_10 := y2_9.between ht10 (by omega)
  have w0_0_10 := w0_0_9.between ht10 (fun b (hb : b < w3.heap.size) => ⟨by omega, by omega⟩)
  have g0_0_10 := g0_0_9.between ht10 (by omega)
  have hkn10 : ¬ k10 < 0 := by omega
  go_wp2_with fail
  refine (eqI_same (Own.ints g0_0_10 hB0) w0_0_10).mono ?_
  rintro e w11 ⟨rfl, hb11⟩
  have q11 := q10.trans (hb11.mono q10.size)
  have z11 := hb11.size
  have b0_11 : w11.cell? ⟨w.heap.size, 0, none⟩ = some (.slice a0 g0.length c0) := (hb11.cell (p := ⟨w.heap.size, 0, none⟩) (cell_lt b0_10)).trans b0_10
  have l5_11 : w11.cell? ⟨w4.heap.size, 0, none⟩ = some (.slice xa4 g0.length xc4) := (hb11.cell (p := ⟨w4.heap.size, 0, none⟩) (cell_lt l5_10)).trans l5_10
  have y2_11 := y2_10.below hb11 (Nat.le_refl _)
  have w0_0_11 := w0_0_10.below hb11 (Nat.le_refl _)
  have g0_0_11 := g0_0_10.below hb11 (Nat.le_refl _)
  go_wp2_with fail
  refine (markI_any g0_0_11 hN0).mono ?_
  rintro e w12 ⟨rfl, g0_0_12, ht12⟩
  have q12 := ht12.below q11 (by have := q11.size; omega) q11.size
  have z12 := ht12.size
  have b0_12 : w12.cell? ⟨w.heap.size, 0, none⟩ = some (.slice a0 g0.length c0) := (ht12.cell (p := ⟨w.heap.size, 0, none⟩) (cell_lt b0_11) (by have : w.heap.size < w11.heap.size := cell_lt b0_11; show w.heap.size < _ ∨ _ ≤ w.heap.size; omega)).trans b0_11
  have l5_12 : w12.cell? ⟨w4.heap.size, 0, none⟩ = some (.slice xa4 g0.length xc4) := (ht12.cell (p := ⟨w4.heap.size, 0, none⟩) (cell_lt l5_11) (by have : w4.heap.size < w11.heap.size := cell_lt l5_11; show w4.heap.size < _ ∨ _ ≤ w4.heap.size; omega)).trans l5_11
  have y2_12 := y2_11.between ht12 (by omega)
  have w0_0_12 := w0_0_11.between ht12 (fun b (hb : b < w3.heap.size) => ⟨by omega, by omega⟩)
  go_wp2_with fail
  refine (heldI_any (Own.ints g0_0_12 hB0) hN0).mono ?_
  rintro e w13 ⟨rfl, hb13⟩
  have q13 := q12.trans (hb13.mono q12.size)
  have z13 := hb13.size
  have b0_13 : w13.cell? ⟨w.heap.size, 0, none⟩ = some (.slice a0 g0.length c0) := (hb13.cell (p := ⟨w.heap.size, 0, none⟩) (cell_lt b0_12)).trans b0_12
  have l5_13 : w13.cell? ⟨w4.heap.size, 0, none⟩ = some (.slice xa4 g0.length xc4) := (hb13.cell (p := ⟨w4.heap.size, 0, none⟩) (cell_lt l5_12)).trans l5_12
  have y2_13 := y2_12.below hb13 (Nat.le_refl _)
  have w0_0_13 := w0_0_12.below hb13 (Nat.le_refl _)
  have g0_0_13 := g0_0_12.below hb13 (Nat.le_refl _)
  have hmn13 : ¬ (1 + (r0.length : Int)) < 0 := by omega
  go_wp2_with fail
  refine (toGraphR_any (hv0.below q13 (Nat.le_refl _)) hsm0).mono ?_
  rintro e w14 ⟨x14, rfl, y14_14, hb14⟩
  have q14 := q13.trans (hb14.mono q13.size)
  have z14 := hb14.size
  have b0_14 : w14.cell? ⟨w.heap.size, 0, none⟩ = some (.slice a0 g0.length c0) := (hb14.cell (p := ⟨w.heap.size, 0, none⟩) (cell_lt b0_13)).trans b0_13
  have l5_14 : w14.cell? ⟨w4.heap.size, 0, none⟩ = some (.slice xa4 g0.length xc4) := (hb14.cell (p := ⟨w4.heap.size, 0, none⟩) (cell_lt l5_13)).trans l5_13
  have y2_14 := y2_13.below hb14 (Nat.le_refl _)
  have w0_0_14 := w0_0_13.below hb14 (Nat.le_refl _)
  have g0_0_14 := g0_0_13.below hb14 (Nat.le_refl _)
  obtain ⟨xa14, xc14, rfl⟩ := y14_14.isSlice
  go_wp2_with fail
  refine (hI (ht.below q14 (Nat.le_refl _)) (y14_14.rows hsm0)).mono ?_
  rintro e w15 ⟨h0u0, rfl, h0_0_15, hb15⟩
  have q15 := q14.trans (hb15.mono q14.size)
  have z15 := hb15.size
  have b0_15 : w15.cell? ⟨w.heap.size, 0, none⟩ = some (.slice a0 g0.length c0) := (hb15.cell (p := ⟨w.heap.size, 0, none⟩) (cell_lt b0_14)).trans b0_14
  have l5_15 : w15.cell? ⟨w4.heap.size, 0, none⟩ = some (.slice xa4 g0.length xc4) := (hb15.cell (p := ⟨w4.heap.size, 0, none⟩) (cell_lt l5_14)).trans l5_14
  have y2_15 := y2_14.below hb15 (Nat.le_refl _)
  have w0_0_15 := w0_0_14.below hb15 (Nat.le_refl _)
  have g0_0_15 := g0_0_14.below hb15 (Nat.le_refl _)
  have y14_15 := y14_14.below hb15 (Nat.le_refl _)
  obtain ⟨h0a0, h0c0, rfl⟩ := h0_0_15.isSlice
  go_wp2_with fail
  refine (eqI_same (Own.ints h0_0_15 hB0) w0_0_15).mono ?_
  rintro e w16 ⟨rfl, hb16⟩
  have q16 := q15.trans (hb16.mono q15.size)
  have z16 := hb16.size
  have b0_16 : w16.cell? ⟨w.heap.size, 0, none⟩ = some (.slice a0 g0.length c0) := (hb16.cell (p := ⟨w.heap.size, 0, none⟩) (cell_lt b0_15)).trans b0_15
  have l5_16 : w16.cell? ⟨w4.heap.size, 0, none⟩ = some (.slice xa4 g0.length xc4) := (hb16.cell (p := ⟨w4.heap.size, 0, none⟩) (cell_lt l5_15)).trans l5_15
  have y2_16 := y2_15.below hb16 (Nat.le_refl _)
  have w0_0_16 := w0_0_15.below hb16 (Nat.le_refl _)
  have g0_0_16 := g0_0_15.below hb16 (Nat.le_refl _)
  have y14_16 := y14_15.below hb16 (Nat.le_refl _)
  have h0_0_16 := h0_0_15.below hb16 (Nat.le_refl _)
  go_wp2_with fail
  refine (heldI_any (Own.ints g0_0_16 hB0) hN0).mono ?_
  rintro e w17 ⟨rfl, hb17⟩
  have q17 := q16.trans (hb17.mono q16.size)
  have z17 := hb17.size
  have b0_17 : w17.cell? ⟨w.heap.size, 0, none⟩ = some (.slice a0 g0.length c0) := (hb17.cell (p := ⟨w.heap.size, 0, none⟩) (cell_lt b0_16)).trans b0_16
  have l5_17 : w17.cell? ⟨w4.heap.size, 0, none⟩ = some (.slice xa4 g0.length xc4) := (hb17.cell (p := ⟨w4.heap.size, 0, none⟩) (cell_lt l5_16)).trans l5_16
  have y2_17 := y2_16.below hb17 (Nat.le_refl _)
  have w0_0_17 := w0_0_16.below hb17 (Nat.le_refl _)
  have g0_0_17 := g0_0_16.below hb17 (Nat.le_refl _)
  have y14_17 := y14_16.below hb17 (Nat.le_refl _)
  have h0_0_17 := h0_0_16.below hb17 (Nat.le_refl _)
  have hmn17 : ¬ (1 + (r0.length : Int)) < 0 := by omega
  go_wp2
  go_ret
  exact ⟨rfl, q17⟩
end Go.Proofs.YthpbeiihlembnaaDoor
