/- Ears of the reference: l19Use, EarsOk. -/
import Derived.Test.YtgkkgagnoeedaaaDoorPairs
import Derived.Test.YtgkkgagnoeedaaaDoorOwnS
import Derived.Test.YtgkkgagnoeedaaaDoorEarN
import Derived.Test.YtgkkgagnoeedaaaDoorEar2
import Derived.Test.YtgkkgagnoeedaaaDoorInto2
namespace Go.Proofs.YtgkkgagnoeedaaaDoor
open Go.RowKit
set_option maxHeartbeats 1000000 in
theorem l19Has_any {S : Nat → Prop} {v : Value} {L : List NP} {x y : Nat} {w : World} (hv : SlR S w v (rowsP L)) :
    Calls Tryd.prog 148 #[v, .int .i64 (x : Int), .int .i64 (y : Int)] w fun e w' => e = .returned (.bool (decide (((x, y) : NP) ∈ L))) ∧ w = w' := by
  have hpair := fun i hi => hv.pair (i := i) hi
  have hvl := hv.len
  obtain ⟨a, c, rfl⟩ := hv.slice
  rw [rowsP_len] at *
  clear hv
  go_enter Tryd.func148, Tryd.ntmps148
  go_wp2
  go_loop [7] (fun i => ∃ k : Nat, k ≤ L.length ∧ i = .int .i64 k ∧ RowKit.Hid (((x, y) : NP) ∉ L.take k)) (fun i => L.length - (intOf i).toNat)
  case atStart => exact ⟨0, Nat.zero_le _, rfl, Lib.hid (by simp)⟩
  case round =>
    obtain ⟨k, hk, rfl, HN⟩ := hrel
    by_cases hlt : k < L.length
    case neg =>
      have HE := Lib.hid (show decide (((x, y) : NP) ∈ L) = false from decide_eq_false (by have := HN.out; rwa [List.take_of_length_le (by omega)] at this))
      go_wp2
      go_ret
      exact ⟨ret_bool HE.out.symm, rfl⟩
    obtain ⟨b, off, cap, rb, ro, rc, hve, c0, c1, c2⟩ := hpair k hlt
    simp only [Value.slice.injEq, true_and] at hve
    obtain ⟨rfl, rfl⟩ := hve
    have HT := Lib.hid (show L.take (k + 1) = L.take k ++ [L[k]] from List.take_succ_eq_append_getElem hlt)
    have HM := Lib.hid (List.getElem_mem hlt)
    generalize L[k] = s at *
    obtain ⟨s1, s2⟩ := s
    simp only at c1 c2
    have h1 : (((s1 : Nat) : Int) == (x : Int)) = decide (s1 = x) := by rw [Bool.eq_iff_iff, beq_iff_eq, decide_eq_true_eq]; omega
    have h2 : (((s2 : Nat) : Int) == (y : Int)) = decide (s2 = y) := by rw [Bool.eq_iff_iff, beq_iff_eq, decide_eq_true_eq]; omega
    have h1b : (s1 == x) = decide (s1 = x) := by rw [Bool.eq_iff_iff, beq_iff_eq, decide_eq_true_eq]
    have h2b : (s2 == y) = decide (s2 = y) := by rw [Bool.eq_iff_iff, beq_iff_eq, decide_eq_true_eq]
    clear hpair
    cases hd1 : decide (s1 = x) with
    | false =>
      have HNX := Lib.hid (show ((x, y) : NP) ∉ L.take (k + 1) by
        rw [HT.out, List.mem_append, List.mem_singleton]
        rintro (h | h)
        · exact HN.out h
        · have := congrArg Prod.fst h
          have hd := of_decide_eq_false hd1
          exact hd this.symm)
      rw [hd1] at h1 h1b
      clear hd1 h2 h2b
      go_wp2
      go_round
      case rel => exact ⟨k + 1, by omega, by go_num, HNX⟩
      case measure => simp [intOf]; omega
    | true =>
      cases hd2 : decide (s2 = y) with
      | false =>
        have HNX := Lib.hid (show ((x, y) : NP) ∉ L.take (k + 1) by
          rw [HT.out, List.mem_append, List.mem_singleton]
          rintro (h | h)
          · exact HN.out h
          · have := congrArg Prod.snd h
            have hd := of_decide_eq_false hd2
            exact hd this.symm)
        rw [hd1] at h1 h1b
        rw [hd2] at h2 h2b
        clear hd1 hd2
        go_wp2
        go_round
        case rel => exact ⟨k + 1, by omega, by go_num, HNX⟩
        case measure => simp [intOf]; omega
      | true =>
        have HE := Lib.hid (show decide (((x, y) : NP) ∈ L) = true from decide_eq_true (by
          have e1 := of_decide_eq_true hd1
          have e2 := of_decide_eq_true hd2
          subst e1; subst e2; exact HM.out))
        rw [hd1] at h1 h1b
        rw [hd2] at h2 h2b
        clear hd1 hd2
        go_wp2
        go_ret
        exact ⟨ret_bool HE.out.symm, rfl⟩
set_option maxRecDepth 100000 in
set_option maxHeartbeats 4000000 in
theorem l19Steps_any {S : Nat → Prop} {v : Value} {p : List Nat} {c : Bool} {w : World} (hv : SlI S w .i64 v (natsI p)) (h1 : 1 ≤ p.length) (h32 : p.length ≤ 32) :
    Calls Tryd.prog 135 #[v, .bool c] w fun e w' => ∃ u, e = .returned u ∧ OwnS w' w.heap.size 51 u (rowsP (stepsN p c)) ∧ Below w.heap.size w w' := by
  have hq0 : Below w.heap.size w (w.alloc (.cells #[] 51)) := (Below.refl _ _).alloc (Nat.le_refl _) _
  have hS0 := OwnS.empty w w.heap.size 51 (Nat.le_refl _)
  obtain ⟨eb, eo, ecap, hee, hec⟩ := hv.at_
  have hee := hee (by rw [natsI_len]; omega)
  subst hee
  rw [natsI_len] at *
  have hec0 : ∀ W : World, Below w.heap.size w W → ∀ i, i < p.length → W.cell? ⟨eb, eo + i, none⟩ = some (.int .i64 ((p.getD i 0 : Nat) : Int)) := fun W hb i hi => by
    have h := hec i (by rw [natsI_len]; exact hi)
    refine ((hb.cell (p := ⟨eb, eo + i, none⟩) (cell_lt h)).trans h).trans ?_
    simp [natsI, hi]
  have hstl := stepsN_len p c
  have HSG := Lib.hid (fun i (h : i < (stepsN p c).length) => stepsN_get (c := c) h)
  have hw1 : IntKind.i64.wrap ((p.length : Int) - 1) = (p.length : Int) - 1 := IntWalk.i64_in _ (by omega)
  have hw2 : ((p.length : Int) - 1).toNat = p.length - 1 := by omega
  have hw3 : (0 : Int) ≤ (p.length : Int) - 1 := by omega
  have hw4 : (p.length : Int) - 1 < p.length := by omega
  clear hec hv
  go_enter Tryd.func135, Tryd.ntmps135
  go_wp2
  go_loopw [5, 6] (fun o i wr => ∃ k : Nat, k ≤ p.length - 1 ∧ i = .int .i64 k ∧ OwnS wr w.heap.size 51 o (rowsP ((stepsN p c).take k)) ∧ Below w.heap.size w wr) (fun _ i _ => p.length - (intOf i).toNat)
  case atStart => exact ⟨0, Nat.zero_le _, rfl, by simpa [rowsP] using hS0, hq0⟩
  case round =>
    clear hq0 hS0
    obtain ⟨k, hk, rfl, hR, hq⟩ := hrel
    obtain ⟨wi, rfl⟩ : ∃ wx : World, wx = wr := ⟨_, rfl⟩
    have hx1 : IntKind.i64.wrap ((k : Int) + 1) = (k : Int) + 1 := IntWalk.i64_in _ (by omega)
    have hx2 : ((k : Int) + 1).toNat = k + 1 := by omega
    have hx3 : (0 : Int) ≤ (k : Int) + 1 := by omega
    have hB : w.heap.size ≤ wi.heap.size := hq.size
    by_cases hlt : k < p.length - 1
    case pos =>
      have hkl : k < (stepsN p c).length := by omega
      have hsg := HSG.out k hkl
      rw [if_pos hlt] at hsg
      have HT := Lib.hid (show rowsP ((stepsN p c).take (k + 1)) = rowsP ((stepsN p c).take k) ++ [[((p.getD k 0 : Nat) : Int), ((p.getD (k + 1) 0 : Nat) : Int)]] by
        rw [List.take_succ_eq_append_getElem hkl, rowsP_app, hsg]; rfl)
      have hlen : (rowsP ((stepsN p c).take k)).length = k := by rw [rowsP_len, List.length_take]; omega
      have hcy := fun (W : World) (hb : Below w.heap.size w W) => hec0 W hb k (by omega)
      have hcz := fun (W : World) (hb : Below w.heap.size w W) => hec0 W hb (k + 1) (by omega)
      have ca := hcy _ hq
      have cb := hcz _ hq
      have HEC := Lib.hid hec0
      clear hec0
      have hy1 : decide ((k : Int) + 1 < (p.length : Int)) = true := decide_eq_true (by omega)
      have hy2 : decide (k + 1 < p.length) = true := decide_eq_true (by omega)
      have hy3 : (k : Int) + 1 < (p.length : Int) := by omega
      have hy4 : (k : Int) < (p.length : Int) := by omega
      have hy5 : k < p.length := by omega
      generalize p.getD k 0 = y at *
      generalize p.getD (k + 1) 0 = z at *
      generalize rowsP ((stepsN p c).take k) = F at *
      obtain ⟨oa, oc, rfl⟩ := hR.isSlice
      have HLN := Lib.hid hlen
      have hFk : F.length ≤ 64 := by omega
      clear hlen hsg hkl
      go_wp2
      refine wp_region_held_drew (S := (fun w' => w'.cell? ⟨eb, eo + k, none⟩ = some (.int .i64 (y : Int)) ∧ w'.cell? ⟨eb, eo + (k + 1), none⟩ = some (.int .i64 (z : Int)))) (by kernel_rfl) ?_ (fun hHeld => ?_)
      · first | exact ⟨‹_›, ‹_›⟩ | (simp [*, go_sem])
      have hqd := hq.drew
      have hRd := hR.drawn (Drawn.refl _).drew
      generalize wi.drew = wd at hqd hRd hHeld ⊢
      have hHeld2 := hHeld
      obtain ⟨da, db⟩ := hHeld2
      have hBd : w.heap.size ≤ wd.heap.size := hqd.size
      refine wpAnyH_take (i := 0) (v := ?v1) (by simp only [List.getElem?_toArray, List.getElem?_cons_zero]; exact rfl) (by kernel_rfl) (by kernel_rfl) (by kernel_rfl) (by intro _ _ _ h; exact h) (Or.inl ⟨by rfl, ?y1⟩) hHeld ?_
      case y1 => (intro w hSw; (try dsimp only at hSw); go_simp; try (with_reducible rfl))
      try simp only [Act.put, List.setIfInBounds_toArray, List.set_cons_zero, List.set_cons_succ]
      refine wpAnyH_take (i := 1) (v := ?v2) (by simp only [List.getElem?_toArray, List.getElem?_cons_succ, List.getElem?_cons_zero]; exact rfl) (by kernel_rfl) (by kernel_rfl) (by kernel_rfl) (by intro _ _ _ h; exact h) (Or.inl ⟨by rfl, ?y2⟩) hHeld ?_
      case y2 => (intro w hSw; (try dsimp only at hSw); go_simp; try (with_reducible rfl))
      try simp only [Act.put, List.setIfInBounds_toArray, List.set_cons_zero, List.set_cons_succ]
      refine wpAnyH_take (i := 2) (v := ?v3) (by simp only [List.getElem?_toArray, List.getElem?_cons_succ, List.getElem?_cons_zero]; exact rfl) (by kernel_rfl) (by kernel_rfl) (by kernel_rfl) (by intro _ _ _ h; exact h) (Or.inl ⟨by rfl, ?y3⟩) hHeld ?_
      case y3 => (intro w hSw; (try dsimp only at hSw); go_simp; try (with_reducible rfl))
      try simp only [Act.put, List.setIfInBounds_toArray, List.set_cons_zero, List.set_cons_succ]
      refine wpAnyH_take (i := 3) (v := ?v4) (by simp only [List.getElem?_toArray, List.getElem?_cons_succ, List.getElem?_cons_zero]; exact rfl) (by kernel_rfl) (by kernel_rfl) (by kernel_rfl) (by intro _ _ _ h; exact h) (Or.inl ⟨by rfl, ?y4⟩) hHeld ?_
      case y4 => (intro w hSw; (try dsimp only at hSw); go_simp; try (with_reducible rfl))
      try simp only [Act.put, List.setIfInBounds_toArray, List.set_cons_zero, List.set_cons_succ]
      refine wpAnyH_take (i := 4) (v := ?v5) (by simp only [List.getElem?_toArray, List.getElem?_cons_succ, List.getElem?_cons_zero]; exact rfl) (by kernel_rfl) (by kernel_rfl) (by kernel_rfl) (by intro _ _ _ h; exact h) (Or.inl ⟨by rfl, ?y5⟩) hHeld ?_
      case y5 => (intro w hSw; (try dsimp only at hSw); go_simp; try (with_reducible rfl))
      try simp only [Act.put, List.setIfInBounds_toArray, List.set_cons_zero, List.set_cons_succ]
      refine wpAnyH_take (i := 5) (v := ?v6) (by simp only [List.getElem?_toArray, List.getElem?_cons_succ, List.getElem?_cons_zero]; exact rfl) (by kernel_rfl) (by kernel_rfl) (by kernel_rfl) (by intro _ _ _ h; exact h) (Or.inl ⟨by rfl, ?y6⟩) hHeld ?_
      case y6 => (intro w hSw; (try dsimp only at hSw); go_simp; try (with_reducible rfl))
      try simp only [Act.put, List.setIfInBounds_toArray, List.set_cons_zero, List.set_cons_succ]
      refine wpAnyH_take (i := 6) (v := ?v7) (by simp only [List.getElem?_toArray, List.getElem?_cons_succ, List.getElem?_cons_zero]; exact rfl) (by kernel_rfl) (by kernel_rfl) (by kernel_rfl) (by intro _ _ _ h; exact h) (Or.inl ⟨by rfl, ?y7⟩) hHeld ?_
      case y7 => (intro w hSw; (try dsimp only at hSw); go_simp; try (with_reducible rfl))
      try simp only [Act.put, List.setIfInBounds_toArray, List.set_cons_zero, List.set_cons_succ]
      refine wpAnyH_take (i := 7) (v := ?v8) (by simp only [List.getElem?_toArray, List.getElem?_cons_succ, List.getElem?_cons_zero]; exact rfl) (by kernel_rfl) (by kernel_rfl) (by kernel_rfl) (by intro _ _ _ h; exact h) (Or.inl ⟨by rfl, ?y8⟩) hHeld ?_
      case y8 => (intro w hSw; (try dsimp only at hSw); go_simp; try (with_reducible rfl))
      try simp only [Act.put, List.setIfInBounds_toArray, List.set_cons_zero, List.set_cons_succ]
      refine wpAnyH_take (i := 8) (v := ?v9) (by simp only [List.getElem?_toArray, List.getElem?_cons_succ, List.getElem?_cons_zero]; exact rfl) (by kernel_rfl) (by kernel_rfl) (by kernel_rfl) (by intro _ _ _ h; exact h) (Or.inl ⟨by rfl, ?y9⟩) hHeld ?_
      case y9 => (intro w hSw; (try dsimp only at hSw); go_simp; try (with_reducible rfl))
      try simp only [Act.put, List.setIfInBounds_toArray, List.set_cons_zero, List.set_cons_succ]
      refine wpAnyH_take (i := 9) (v := ?v10) (by simp only [List.getElem?_toArray, List.getElem?_cons_succ, List.getElem?_cons_zero]; exact rfl) (by kernel_rfl) (by kernel_rfl) (by kernel_rfl) (by intro _ _ _ h; exact h) (Or.inl ⟨by rfl, ?y10⟩) hHeld ?_
      case y10 => (intro w hSw; (try dsimp only at hSw); go_simp; try (with_reducible rfl))
      try simp only [Act.put, List.setIfInBounds_toArray, List.set_cons_zero, List.set_cons_succ]
      refine wpAnyH_ready (rs := [10]) (by kernel_rfl) (by simp) ?_
      refine AllReadyH.cons (by simp only [List.getElem?_toArray, List.getElem?_cons_succ, List.getElem?_cons_zero]; exact rfl) (fun K hK => ?_) AllReadyH.nil
      go_simp
      have hba : Below wd.heap.size wd (wd.alloc (.cells #[.int .i64 (y : Int), .int .i64 (z : Int)] 2)) := (Below.refl _ _).alloc (Nat.le_refl _) _
      have hnew := SlI.lit wd 2 [(y : Int), (z : Int)] 2 rfl (by omega) (by omega)
      simp only [List.map_cons, List.map_nil] at hnew
      have hR2 := hRd.below hba (Nat.le_refl _)
      obtain ⟨vs, hvl, hown, hrows⟩ := hR2
      have hRd' := hRd
      obtain ⟨vs', hvl', hown', -⟩ := hRd'
      have hob := hown'.lt
      have hq2 := hqd.trans (hba.mono hqd.size)
      have da := (hba.cell (cell_lt da)).trans da
      have db := (hba.cell (cell_lt db)).trans db
      try dsimp only
      refine hK.out _ _ ?h12 (fun hHeld => ?_)
      case h12 => first | exact ⟨‹_›, ‹_›⟩ | (simp [*, go_sem])
      clear hK K
      try simp only [Act.put, List.setIfInBounds_toArray, List.set_cons_zero, List.set_cons_succ]
      refine wpAnyH_ready (rs := [11]) (by kernel_rfl) (by simp) ?_
      refine AllReadyH.cons (by simp only [List.getElem?_toArray, List.getElem?_cons_succ, List.getElem?_cons_zero]; exact rfl) (fun K hK => ?_) AllReadyH.nil
      go_simp
      have hbb : Below (wd.alloc (.cells #[.int .i64 (y : Int), .int .i64 (z : Int)] 2)).heap.size (wd.alloc (.cells #[.int .i64 (y : Int), .int .i64 (z : Int)] 2)) ((wd.alloc (.cells #[.int .i64 (y : Int), .int .i64 (z : Int)] 2)).alloc (.cells #[.slice (some ⟨wd.heap.size, 0, none⟩) 2 2] 51)) := (Below.refl _ _).alloc (Nat.le_refl _) _
      have da := (hbb.cell (cell_lt da)).trans da
      have db := (hbb.cell (cell_lt db)).trans db
      try dsimp only
      refine hK.out _ _ ?h14 (fun hHeld => ?_)
      case h14 => first | exact ⟨‹_›, ‹_›⟩ | (simp [*, go_sem])
      clear hK K
      try simp only [Act.put, List.setIfInBounds_toArray, List.set_cons_zero, List.set_cons_succ]
      refine wpAnyH_ready (rs := [12]) (by kernel_rfl) (by simp) ?_
      refine AllReadyH.cons (by simp only [List.getElem?_toArray, List.getElem?_cons_succ, List.getElem?_cons_zero]; exact rfl) (fun K hK => ?_) AllReadyH.nil
      rw [if_pos (by rfl)]
      refine opWp_append1S elRows _ _ rfl hown rfl (by simp) rfl rfl (by omega) (by simp; omega) ?_
      intro o5 w5 hown5 hkept hmv
      have hq5 := hkept.below hq2 hq2.size (fun b hb => by have := (hown.lt b hb).1; omega)
      have da := hcy _ hq5
      have db := hcz _ hq5
      have hR5 : OwnS w5 w.heap.size 51 o5 (F ++ [[(y : Int), (z : Int)]]) := OwnS.app (news := [.slice (some ⟨wd.heap.size, 0, none⟩) 2 2]) hvl rfl hrows (fun i hi hi2 => by (obtain rfl : i = 0 := by simp at hi; omega); exact hnew.weak (fun b hb => ⟨by subst hb; exact hBd, by subst hb; simp, fun e => by subst hb; have := (hob _ e).2; omega⟩)) hown5 hkept hmv (by simp)
      try dsimp only
      refine hK.out _ _ ?h16 (fun hHeld => ?_)
      case h16 => first | exact ⟨‹_›, ‹_›⟩ | (simp [*, go_sem])
      clear hK K
      try simp only [Act.put, List.setIfInBounds_toArray, List.set_cons_zero, List.set_cons_succ]
      refine wpAnyH_take (i := 13) (v := ?v17) (by simp only [List.getElem?_toArray, List.getElem?_cons_succ, List.getElem?_cons_zero]; exact rfl) (by kernel_rfl) (by kernel_rfl) (by kernel_rfl) (by intro _ _ _ h; exact h) (Or.inl ⟨by rfl, ?y17⟩) hHeld ?_
      case y17 => (intro w hSw; (try dsimp only at hSw); go_simp; try (with_reducible rfl))
      try simp only [Act.put, List.setIfInBounds_toArray, List.set_cons_zero, List.set_cons_succ]
      refine wpAnyH_done (by kernel_rfl) ?_ _
      go_wp2
      go_roundw
      case rel => exact ⟨k + 1, by omega, by go_num, by rw [HT.out]; exact hR5, hq5⟩
      case measure => simp [intOf]; omega
    have hke : k = p.length - 1 := by omega
    have hy1 : decide ((k : Int) + 1 < (p.length : Int)) = false := decide_eq_false (by omega)
    have hy2 : decide (k + 1 < p.length) = false := decide_eq_false (by omega)
    cases c with
    | false =>
      have HT := Lib.hid (show (stepsN p false).take k = stepsN p false from List.take_of_length_le (by rw [hstl, hke]; simp))
      clear hke
      go_wp2
      go_ret
      exact ⟨_, rfl, by rw [HT.out] at hR; exact hR, hq⟩
    | true =>
      have hkl : k < (stepsN p true).length := by rw [hstl, hke]; simp
      have hsg := HSG.out k hkl
      rw [if_neg (by omega)] at hsg
      have HT := Lib.hid (show rowsP (stepsN p true) = rowsP ((stepsN p true).take k) ++ [[((p.getD (p.length - 1) 0 : Nat) : Int), ((p.getD 0 0 : Nat) : Int)]] by
        have h := List.take_succ_eq_append_getElem hkl
        rw [List.take_of_length_le (by rw [hstl, hke]; simp), hsg] at h
        rw [h, rowsP_app, List.take_left' (by rw [List.length_take]; omega)]; rfl)
      have hlen : (rowsP ((stepsN p true).take k)).length = k := by rw [rowsP_len, List.length_take]; omega
      have hcy := fun (W : World) (hb : Below w.heap.size w W) => hec0 W hb (p.length - 1) (by omega)
      have hcz := fun (W : World) (hb : Below w.heap.size w W) => hec0 W hb 0 (by omega)
      simp only [Nat.add_zero] at hcz
      have ca := hcy _ hq
      have cb := hcz _ hq
      have hy3 : (1 : Int) ≤ (p.length : Int) := by omega
      have hy4 : (0 : Int) < (p.length : Int) := by omega
      have hy5 : 0 < p.length := by omega
      generalize p.getD (p.length - 1) 0 = y at *
      generalize p.getD 0 0 = z at *
      generalize rowsP ((stepsN p true).take k) = F at *
      obtain ⟨oa, oc, rfl⟩ := hR.isSlice
      have HLN := Lib.hid hlen
      have hFk : F.length ≤ 64 := by omega
      clear hlen hsg hkl hke hec0
      go_wp2
      refine wp_region_held_drew (S := (fun w' => w'.cell? ⟨eb, eo + (p.length - 1), none⟩ = some (.int .i64 (y : Int)) ∧ w'.cell? ⟨eb, eo, none⟩ = some (.int .i64 (z : Int)))) (by kernel_rfl) ?_ (fun hHeld => ?_)
      · first | exact ⟨‹_›, ‹_›⟩ | (simp [*, go_sem])
      have hqd := hq.drew
      have hRd := hR.drawn (Drawn.refl _).drew
      generalize wi.drew = wd at hqd hRd hHeld ⊢
      have hHeld2 := hHeld
      obtain ⟨da, db⟩ := hHeld2
      have hBd : w.heap.size ≤ wd.heap.size := hqd.size
      refine wpAnyH_take (i := 0) (v := ?v18) (by simp only [List.getElem?_toArray, List.getElem?_cons_zero]; exact rfl) (by kernel_rfl) (by kernel_rfl) (by kernel_rfl) (by intro _ _ _ h; exact h) (Or.inl ⟨by rfl, ?y18⟩) hHeld ?_
      case y18 => (intro w hSw; (try dsimp only at hSw); go_simp; try (with_reducible rfl))
      try simp only [Act.put, List.setIfInBounds_toArray, List.set_cons_zero, List.set_cons_succ]
      refine wpAnyH_take (i := 1) (v := ?v19) (by simp only [List.getElem?_toArray, List.getElem?_cons_succ, List.getElem?_cons_zero]; exact rfl) (by kernel_rfl) (by kernel_rfl) (by kernel_rfl) (by intro _ _ _ h; exact h) (Or.inl ⟨by rfl, ?y19⟩) hHeld ?_
      case y19 => (intro w hSw; (try dsimp only at hSw); go_simp; try (with_reducible rfl))
      try simp only [Act.put, List.setIfInBounds_toArray, List.set_cons_zero, List.set_cons_succ]
      refine wpAnyH_take (i := 2) (v := ?v20) (by simp only [List.getElem?_toArray, List.getElem?_cons_succ, List.getElem?_cons_zero]; exact rfl) (by kernel_rfl) (by kernel_rfl) (by kernel_rfl) (by intro _ _ _ h; exact h) (Or.inl ⟨by rfl, ?y20⟩) hHeld ?_
      case y20 => (intro w hSw; (try dsimp only at hSw); go_simp; try (with_reducible rfl))
      try simp only [Act.put, List.setIfInBounds_toArray, List.set_cons_zero, List.set_cons_succ]
      refine wpAnyH_take (i := 3) (v := ?v21) (by simp only [List.getElem?_toArray, List.getElem?_cons_succ, List.getElem?_cons_zero]; exact rfl) (by kernel_rfl) (by kernel_rfl) (by kernel_rfl) (by intro _ _ _ h; exact h) (Or.inl ⟨by rfl, ?y21⟩) hHeld ?_
      case y21 => (intro w hSw; (try dsimp only at hSw); go_simp; try (with_reducible rfl))
      try simp only [Act.put, List.setIfInBounds_toArray, List.set_cons_zero, List.set_cons_succ]
      refine wpAnyH_take (i := 4) (v := ?v22) (by simp only [List.getElem?_toArray, List.getElem?_cons_succ, List.getElem?_cons_zero]; exact rfl) (by kernel_rfl) (by kernel_rfl) (by kernel_rfl) (by intro _ _ _ h; exact h) (Or.inl ⟨by rfl, ?y22⟩) hHeld ?_
      case y22 => (intro w hSw; (try dsimp only at hSw); go_simp; try (with_reducible rfl))
      try simp only [Act.put, List.setIfInBounds_toArray, List.set_cons_zero, List.set_cons_succ]
      refine wpAnyH_take (i := 5) (v := ?v23) (by simp only [List.getElem?_toArray, List.getElem?_cons_succ, List.getElem?_cons_zero]; exact rfl) (by kernel_rfl) (by kernel_rfl) (by kernel_rfl) (by intro _ _ _ h; exact h) (Or.inl ⟨by rfl, ?y23⟩) hHeld ?_
      case y23 => (intro w hSw; (try dsimp only at hSw); go_simp; try (with_reducible rfl))
      try simp only [Act.put, List.setIfInBounds_toArray, List.set_cons_zero, List.set_cons_succ]
      refine wpAnyH_take (i := 6) (v := ?v24) (by simp only [List.getElem?_toArray, List.getElem?_cons_succ, List.getElem?_cons_zero]; exact rfl) (by kernel_rfl) (by kernel_rfl) (by kernel_rfl) (by intro _ _ _ h; exact h) (Or.inl ⟨by rfl, ?y24⟩) hHeld ?_
      case y24 => (intro w hSw; (try dsimp only at hSw); go_simp; try (with_reducible rfl))
      try simp only [Act.put, List.setIfInBounds_toArray, List.set_cons_zero, List.set_cons_succ]
      refine wpAnyH_take (i := 7) (v := ?v25) (by simp only [List.getElem?_toArray, List.getElem?_cons_succ, List.getElem?_cons_zero]; exact rfl) (by kernel_rfl) (by kernel_rfl) (by kernel_rfl) (by intro _ _ _ h; exact h) (Or.inl ⟨by rfl, ?y25⟩) hHeld ?_
      case y25 => (intro w hSw; (try dsimp only at hSw); go_simp; try (with_reducible rfl))
      try simp only [Act.put, List.setIfInBounds_toArray, List.set_cons_zero, List.set_cons_succ]
      refine wpAnyH_take (i := 8) (v := ?v26) (by simp only [List.getElem?_toArray, List.getElem?_cons_succ, List.getElem?_cons_zero]; exact rfl) (by kernel_rfl) (by kernel_rfl) (by kernel_rfl) (by intro _ _ _ h; exact h) (Or.inl ⟨by rfl, ?y26⟩) hHeld ?_
      case y26 => (intro w hSw; (try dsimp only at hSw); go_simp; try (with_reducible rfl))
      try simp only [Act.put, List.setIfInBounds_toArray, List.set_cons_zero, List.set_cons_succ]
      refine wpAnyH_take (i := 9) (v := ?v27) (by simp only [List.getElem?_toArray, List.getElem?_cons_succ, List.getElem?_cons_zero]; exact rfl) (by kernel_rfl) (by kernel_rfl) (by kernel_rfl) (by intro _ _ _ h; exact h) (Or.inl ⟨by rfl, ?y27⟩) hHeld ?_
      case y27 => (intro w hSw; (try dsimp only at hSw); go_simp; try (with_reducible rfl))
      try simp only [Act.put, List.setIfInBounds_toArray, List.set_cons_zero, List.set_cons_succ]
      refine wpAnyH_ready (rs := [10]) (by kernel_rfl) (by simp) ?_
      refine AllReadyH.cons (by simp only [List.getElem?_toArray, List.getElem?_cons_succ, List.getElem?_cons_zero]; exact rfl) (fun K hK => ?_) AllReadyH.nil
      go_simp
      have hba : Below wd.heap.size wd (wd.alloc (.cells #[.int .i64 (y : Int), .int .i64 (z : Int)] 2)) := (Below.refl _ _).alloc (Nat.le_refl _) _
      have hnew := SlI.lit wd 2 [(y : Int), (z : Int)] 2 rfl (by omega) (by omega)
      simp only [List.map_cons, List.map_nil] at hnew
      have hR2 := hRd.below hba (Nat.le_refl _)
      obtain ⟨vs, hvl, hown, hrows⟩ := hR2
      have hRd' := hRd
      obtain ⟨vs', hvl', hown', -⟩ := hRd'
      have hob := hown'.lt
      have hq2 := hqd.trans (hba.mono hqd.size)
      have da := (hba.cell (cell_lt da)).trans da
      have db := (hba.cell (cell_lt db)).trans db
      try dsimp only
      refine hK.out _ _ ?h29 (fun hHeld => ?_)
      case h29 => first | exact ⟨‹_›, ‹_›⟩ | (simp [*, go_sem])
      clear hK K
      try simp only [Act.put, List.setIfInBounds_toArray, List.set_cons_zero, List.set_cons_succ]
      refine wpAnyH_ready (rs := [11]) (by kernel_rfl) (by simp) ?_
      refine AllReadyH.cons (by simp only [List.getElem?_toArray, List.getElem?_cons_succ, List.getElem?_cons_zero]; exact rfl) (fun K hK => ?_) AllReadyH.nil
      go_simp
      have hbb : Below (wd.alloc (.cells #[.int .i64 (y : Int), .int .i64 (z : Int)] 2)).heap.size (wd.alloc (.cells #[.int .i64 (y : Int), .int .i64 (z : Int)] 2)) ((wd.alloc (.cells #[.int .i64 (y : Int), .int .i64 (z : Int)] 2)).alloc (.cells #[.slice (some ⟨wd.heap.size, 0, none⟩) 2 2] 51)) := (Below.refl _ _).alloc (Nat.le_refl _) _
      have da := (hbb.cell (cell_lt da)).trans da
      have db := (hbb.cell (cell_lt db)).trans db
      try dsimp only
      refine hK.out _ _ ?h31 (fun hHeld => ?_)
      case h31 => first | exact ⟨‹_›, ‹_›⟩ | (simp [*, go_sem])
      clear hK K
      try simp only [Act.put, List.setIfInBounds_toArray, List.set_cons_zero, List.set_cons_succ]
      refine wpAnyH_ready (rs := [12]) (by kernel_rfl) (by simp) ?_
      refine AllReadyH.cons (by simp only [List.getElem?_toArray, List.getElem?_cons_succ, List.getElem?_cons_zero]; exact rfl) (fun K hK => ?_) AllReadyH.nil
      rw [if_pos (by rfl)]
      refine opWp_append1S elRows _ _ rfl hown rfl (by simp) rfl rfl (by omega) (by simp; omega) ?_
      intro o5 w5 hown5 hkept hmv
      have hq5 := hkept.below hq2 hq2.size (fun b hb => by have := (hown.lt b hb).1; omega)
      have da := hcy _ hq5
      have db := hcz _ hq5
      have hR5 : OwnS w5 w.heap.size 51 o5 (F ++ [[(y : Int), (z : Int)]]) := OwnS.app (news := [.slice (some ⟨wd.heap.size, 0, none⟩) 2 2]) hvl rfl hrows (fun i hi hi2 => by (obtain rfl : i = 0 := by simp at hi; omega); exact hnew.weak (fun b hb => ⟨by subst hb; exact hBd, by subst hb; simp, fun e => by subst hb; have := (hob _ e).2; omega⟩)) hown5 hkept hmv (by simp)
      try dsimp only
      refine hK.out _ _ ?h33 (fun hHeld => ?_)
      case h33 => first | exact ⟨‹_›, ‹_›⟩ | (simp [*, go_sem])
      clear hK K
      try simp only [Act.put, List.setIfInBounds_toArray, List.set_cons_zero, List.set_cons_succ]
      refine wpAnyH_take (i := 13) (v := ?v34) (by simp only [List.getElem?_toArray, List.getElem?_cons_succ, List.getElem?_cons_zero]; exact rfl) (by kernel_rfl) (by kernel_rfl) (by kernel_rfl) (by intro _ _ _ h; exact h) (Or.inl ⟨by rfl, ?y34⟩) hHeld ?_
      case y34 => (intro w hSw; (try dsimp only at hSw); go_simp; try (with_reducible rfl))
      try simp only [Act.put, List.setIfInBounds_toArray, List.set_cons_zero, List.set_cons_succ]
      refine wpAnyH_done (by kernel_rfl) ?_ _
      go_wp2
      go_ret
      exact ⟨_, rfl, by rw [HT.out]; exact hR5, hq5⟩
theorem vok_bad {n m i : Nat} {ear : List Int} {first : Bool} (hi : i < ear.length) (h : vokB n ear m first i = false) : (List.range ear.length).all (vokB n ear m first) = false := by
  cases hb : (List.range ear.length).all (vokB n ear m first) with
  | false => rfl
  | true =>
    rw [List.all_eq_true] at hb
    have := hb i (List.mem_range.2 hi)
    rw [h] at this; cases this
def VokTo (n : Nat) (ear : List Int) (m : Nat) (first : Bool) (k : Nat) : Prop := ∀ i, i < k → vokB n ear m first i = true
theorem VokTo.next {n m k : Nat} {ear : List Int} {first : Bool} (h : VokTo n ear m first k) (hk : vokB n ear m first k = true) : VokTo n ear m first (k + 1) := fun i hi => by
  by_cases e : i = k
  · subst e; exact hk
  · exact h i (by omega)
theorem VokTo.all {n m : Nat} {ear : List Int} {first : Bool} (h : VokTo n ear m first ear.length) : (List.range ear.length).all (vokB n ear m first) = true := by
  rw [List.all_eq_true]; exact fun i hi => h i (List.mem_range.1 hi)
set_option maxRecDepth 100000 in
set_option maxHeartbeats 8000000 in
theorem l19Ear_any {S S1 S2 S3 : Nat → Prop} {m : Nat} {gv ev mv uv : Value} {g : List (List Int)} {ear : List Int} {U : List NP} {w : World} (hg : GOk g) (hm : m < 2 ^ g.length) (hgv : SlR S w gv g) (he : SlI S1 w .i64 ev ear) (hmv : SlI S2 w .i64 mv (bitsI m)) (huv : SlR S3 w uv (rowsP U)) :
    Calls Tryd.prog 84 #[.agg #[gv], ev, mv, uv] w fun e w' => e = .returned (.bool (earB g ear m U (m == 0))) ∧ Below w.heap.size w w' := by
  have hq0 : Below w.heap.size w (w.alloc (.cells #[gv] 27)) := (Below.refl _ _).alloc (Nat.le_refl _) _
  have h16 := hg.hi
  have hm32 : m < 4294967296 := Nat.lt_of_lt_of_le hm (by have := pow_le16 h16; omega)
  have hel := he.len
  have hmz : (bitsI m).length = 0 ↔ m = 0 := by rw [← bitsI_nil hm32]; exact List.length_eq_zero_iff
  have hml := bitsI_len m
  have hf1 : (((bitsI m).length : Int) == 0) = (m == 0) := by rw [Bool.eq_iff_iff, beq_iff_eq, beq_iff_eq, ← hmz]; omega
  have hf2 : ((bitsI m).length == 0) = (m == 0) := by rw [Bool.eq_iff_iff, beq_iff_eq, beq_iff_eq, ← hmz]
  have hw1 : IntKind.i64.wrap ((g.length : Int) - 1) = (g.length : Int) - 1 := IntWalk.i64_in _ (by omega)
  have hw2 : IntKind.i64.wrap ((ear.length : Int) - 1) = (ear.length : Int) - 1 := IntWalk.i64_in _ (by omega)
  have HEE := Lib.hid (show ∀ fb, earB g ear m U fb = (decide ((if fb = true then 3 else 2) ≤ ear.length) && (List.range ear.length).all (vokB g.length ear m fb) && (stepsN (natsOf ear) fb).all (freeB g U)) from fun _ => rfl)
  generalize hfb : (m == 0) = fb at *
  have HFB := Lib.hid hfb
  clear hfb hmz
  have hmh := fun (W : World) (hb : Below w.heap.size w W) (x : Int) => l1Has_any _ _ x W (hmv.below hb (Nat.le_refl _))
  have hus := fun (W : World) (hb : Below w.heap.size w W) (x y : Nat) => l19Has_any (x := x) (y := y) (huv.below hb (Nat.le_refl _))
  have hst := fun (W : World) (hb : Below w.heap.size w W) (p : List Nat) (hp : ear = natsI p) (h1 : 1 ≤ p.length) (h3 : p.length ≤ 32) => l19Steps_any (c := fb) (p := p) (w := W) (v := ev) (by rw [← hp]; exact he.below hb (Nat.le_refl _)) h1 h3
  have heb := fun (W : World) (hb : Below w.heap.size w W) => he.below hb (Nat.le_refl _)
  have hgb := fun (W : World) (hb : Below w.heap.size w W) => hgv.below hb (Nat.le_refl _)
  obtain ⟨ga, gc, rfl⟩ := hgv.slice
  obtain ⟨ma, mc, rfl⟩ := hmv.slice
  obtain ⟨ua, uc, rfl⟩ := huv.slice
  obtain ⟨eb, eo, ecap, hee, hec⟩ := he.at_
  have hgc0 : ∀ W : World, Below w.heap.size w W → ∀ u, u < g.length → ∃ b off c ra rc, Value.slice ga g.length gc = .slice (some ⟨b, off, none⟩) g.length c ∧ W.cell? ⟨b, off + u, none⟩ = some (.slice ra (g.getD u []).length rc) ∧ SlI S W .i64 (.slice ra (g.getD u []).length rc) (g.getD u []) := fun W hb u hu => by
    obtain ⟨a', b, off, cap, f, h1, h2, h3, h4⟩ := hgb W hb
    obtain ⟨h5, h6⟩ := h4 u hu
    obtain ⟨rfl, -⟩ := h3 (by omega)
    have e : g.getD u [] = g[u] := by simp [hu]
    rw [e]
    obtain ⟨ra, rc, h7⟩ := h6.slice
    rw [h7] at h5 h6
    exact ⟨b, off, cap, ra, rc, h1, h5, h6⟩
  by_cases hlen : (if fb = true then 3 else 2) ≤ ear.length
  case neg =>
    have HE := Lib.hid (show earB g ear m U fb = false by rw [HEE.out, decide_eq_false hlen]; rfl)
    obtain ⟨ea, ec, rfl⟩ := he.slice
    rw [HE.out]
    cases fb with
    | true =>
      simp only [if_true] at hlen
      have hx1 : decide ((ear.length : Int) < 3) = true := decide_eq_true (by omega)
      have hx2 : decide (ear.length < 3) = true := decide_eq_true (by omega)
      go_enter Tryd.func84, Tryd.ntmps84
      go_wp2
      go_ret
      exact ⟨rfl, hq0⟩
    | false =>
      simp only [Bool.false_eq_true, if_false] at hlen
      have hx1 : decide ((ear.length : Int) < 2) = true := decide_eq_true (by omega)
      have hx2 : decide (ear.length < 2) = true := decide_eq_true (by omega)
      go_enter Tryd.func84, Tryd.ntmps84
      go_wp2
      go_ret
      exact ⟨rfl, hq0⟩
  have h2 : 2 ≤ ear.length := by split at hlen <;> omega
  have hx1 : fb = true → decide ((ear.length : Int) < 3) = false := fun h => by rw [if_pos h] at hlen; exact decide_eq_false (by omega)
  have hx2 : fb = true → decide (ear.length < 3) = false := fun h => by rw [if_pos h] at hlen; exact decide_eq_false (by omega)
  have hx3 : decide ((ear.length : Int) < 2) = false := decide_eq_false (by omega)
  have hx4 : decide (ear.length < 2) = false := decide_eq_false (by omega)
  have HL := Lib.hid hlen
  have hee := hee (by omega)
  subst hee
  have hcap := he.capOf
  clear hlen
  have hcases : fb = true ∨ fb = false := by cases fb <;> simp
  rcases hcases with hv | hv
  case inl =>
    have hx5 := hx1 hv
    have hx6 := hx2 hv
    clear hx1 hx2
    go_enter Tryd.func84, Tryd.ntmps84
    go_wp2
    go_loopw [10] (fun i wr => ∃ k : Nat, k ≤ ear.length ∧ i = .int .i64 k ∧ RowKit.Hid (VokTo g.length ear m fb k) ∧ Below w.heap.size w wr ∧ wr.cell? ⟨w.heap.size, 0, none⟩ = some (.slice ga g.length gc)) (fun i _ => ear.length - (intOf i).toNat)
    case atStart => exact ⟨0, Nat.zero_le _, rfl, Lib.hid (fun _ h => by omega), hq0, by simp [go_sem]⟩
    case round =>
      clear hq0
      obtain ⟨k, hk, rfl, HV, hq, cg⟩ := hrel
      obtain ⟨wi, rfl⟩ : ∃ wx : World, wx = wr := ⟨_, rfl⟩
      by_cases hlt : k < ear.length
      case pos =>
        have hcx0 := hec k hlt
        have hcx := (hq.cell (p := ⟨eb, eo + k, none⟩) (cell_lt hcx0)).trans hcx0
        have hth := fun (W : World) (hb : Below w.heap.size w W) => l1Has_any _ _ ear[k] W ((heb W hb).take (m := k) (by omega))
        have hmx := fun (W : World) (hb : Below w.heap.size w W) => hmh W hb ear[k]
        have HBAD := Lib.hid (fun h => show earB g ear m U fb = false by rw [HEE.out, vok_bad hlt h]; simp)
        have HNX := Lib.hid (fun h => HV.out.next h)
        have hvd : vokB g.length ear m fb k = (inB ear[k] 0 ((g.length : Int) - 1) && !decide (ear[k] ∈ ear.take k) && (fb || (m.testBit ear[k].toNat == (decide (k = 0) || decide (k = ear.length - 1))))) := by
          rw [vokB, show ear.getD k 0 = ear[k] by simp [hlt]]
        have hmt : 0 ≤ ear[k] → decide (ear[k] ∈ bitsI m) = m.testBit ear[k].toNat := fun h0 => by
          rw [Bool.eq_iff_iff, decide_eq_true_eq, mem_bitsI hm32]
          exact ⟨fun h => h.2, fun h => ⟨h0, h⟩⟩
        have hin0 : inB ear[k] 0 ((g.length : Int) - 1) = true → 0 ≤ ear[k] := fun h => (inB_iff.1 h).1
        have HVD := Lib.hid hvd
        clear hcx0 hvd HV hmh hst
        generalize vokB g.length ear m fb k = vb at *
        generalize ear[k] = x at *
        generalize hdt : decide (x ∈ ear.take k) = dt at *
        clear hdt
        cases hA : inB x 0 ((g.length : Int) - 1) with
        | false =>
          have HE := Lib.hid (HBAD.out (by rw [HVD.out, hA]; rfl))
          clear hin0 hmt
          go_wp2
          go_quiet ((first | (go_at_call 123; exact quiet_same (l1In_any _ _ _ _)) | (go_at_call 104; exact quiet_same (hth _ (hq.drewN' _)))))
          go_wp2
          go_ret
          exact ⟨ret_bool HE.out.symm, hq.drewN' _⟩
        | true =>
          have hx0 := hin0 hA
          rw [hmt hx0] at hmx
          rw [hA, Bool.true_and] at HVD
          clear hin0 hmt hx0
          cases dt with
          | true =>
            have HE := Lib.hid (HBAD.out (by rw [HVD.out]; rfl))
            go_wp2
            go_quiet ((first | (go_at_call 123; exact quiet_same (l1In_any _ _ _ _)) | (go_at_call 104; exact quiet_same (hth _ (hq.drewN' _)))))
            go_wp2
            go_ret
            exact ⟨ret_bool HE.out.symm, hq.drewN' _⟩
          | false =>
            rw [Bool.not_false, Bool.true_and] at HVD
            have he0 : ((k : Int) == 0) = decide (k = 0) := by rw [Bool.eq_iff_iff, beq_iff_eq, decide_eq_true_eq]; omega
            have he0b : (k == 0) = decide (k = 0) := by rw [Bool.eq_iff_iff, beq_iff_eq, decide_eq_true_eq]
            have he1 : ((k : Int) == (ear.length : Int) - 1) = decide (k = ear.length - 1) := by rw [Bool.eq_iff_iff, beq_iff_eq, decide_eq_true_eq]; omega
            generalize he2 : decide (k = ear.length - 1) = e1 at *
            generalize he3 : decide (k = 0) = e0 at *
            generalize m.testBit x.toNat = hb at *
            have HK0 := Lib.hid he3
            clear he2 he3
            have HRG : ∀ b, vb = b → RowKit.Hid (vb = b) := fun _ h => Lib.hid h
            cases e0 <;> cases e1 <;> cases hb
            all_goals
              have hvb := HVD.out
              rw [hv] at hvb
              simp at hvb
              have HVB := Lib.hid hvb
              clear hvb
              go_wp2
              go_quiet ((first | (go_at_call 123; exact quiet_same (l1In_any _ _ _ _)) | (go_at_call 104; exact quiet_same (hth _ (hq.drewN' _)))))
              go_wp2_with (go_at_call 104; refine (hmx _ (hq.drewN' _)).mono ?_; rintro e w' ⟨rfl, rfl⟩)
              first
                | (go_ret; exact ⟨ret_bool (HBAD.out HVB.out).symm, hq.drewN' _⟩)
                | (go_roundw
                   case rel => exact ⟨k + 1, by omega, by go_num, Lib.hid (HNX.out HVB.out), hq.drewN' _, cg⟩
                   case measure => simp [intOf]; omega)
      obtain rfl : k = ear.length := by omega
      subst hv
      have hva := HV.out.all
      obtain ⟨e1, e2, hp⟩ := ear_nats hva
      obtain ⟨p, rfl⟩ : ∃ p, ear = natsI p := ⟨_, e1.symm⟩
      have hnn : natsOf (natsI p) = p := by
        exact natsOf_natsI p
      rw [hnn] at hp
      have HEA := Lib.hid (show earB g (natsI p) m U true = (stepsN p true).all (freeB g U) by rw [HEE.out, hva, decide_eq_true HL.out, hnn]; rfl)
      have hpl : p.length ≤ 16 := by
        have := (nodup_sub (E := List.range g.length) hp.2 (fun x hx => List.mem_range.2 (hp.1 x hx))).1
        rw [List.length_range] at this; omega
      have hp2 : 1 ≤ p.length := by rw [natsI_len] at h2; omega
      have hst1 := hst _ hq p rfl hp2 (by omega)
      have HPS := Lib.hid (steps_lt (c := true) hp2 hp.1)
      have hsl := stepsN_len p true
      have hsl2 : (stepsN p true).length ≤ 64 := by rw [hsl]; simp; omega
      clear hst hec he hcap e1 e2 hva HV HEE hp hnn hsl hmh heb
      generalize hST : stepsN p true = ST at *
      clear hST
      go_wp2_with fail
      refine hst1.mono ?_
      rintro e w2 ⟨su, rfl, hsu, hb2⟩
      have hq2 := hq.trans (hb2.mono hq.size)
      have cg2 := (hb2.cell (cell_lt cg)).trans cg
      have hsr := hsu.rows (by rw [rowsP_len]; omega)
      obtain ⟨sa, sc, rfl⟩ := hsr.slice
      simp only [rowsP_len] at *
      clear hsu hst1 hb2 cg hq
      go_wp2
      go_loopw [13] (fun i wr => ∃ k : Nat, k ≤ ST.length ∧ i = .int .i64 k ∧ RowKit.Hid (∀ s ∈ ST.take k, freeB g U s = true) ∧ Below w.heap.size w wr ∧ Below w2.heap.size w2 wr ∧ wr.cell? ⟨w.heap.size, 0, none⟩ = some (.slice ga g.length gc)) (fun i _ => ST.length - (intOf i).toNat)
      case atStart => exact ⟨0, Nat.zero_le _, rfl, Lib.hid (fun s hs => by simp at hs), hq2, Below.refl _ _, cg2⟩
      case round =>
        clear hq2 cg2
        obtain ⟨k, hk, rfl, HS, hq, hqs, cg⟩ := hrel
        obtain ⟨wi, rfl⟩ : ∃ wx : World, wx = wr := ⟨_, rfl⟩
        by_cases hlt : k < ST.length
        case neg =>
          have HE := Lib.hid (show earB g (natsI p) m U true = true by
            rw [HEA.out, List.all_eq_true]
            intro s hs
            exact HS.out s (by rw [List.take_of_length_le (by omega)]; exact hs))
          go_wp2
          go_ret
          exact ⟨ret_bool HE.out.symm, hq⟩
        obtain ⟨b, off, cap, rb, ro, rc, hve, c0, c1, c2⟩ := (hsr.below hqs (Nat.le_refl _)).pair hlt
        simp only [Value.slice.injEq, true_and] at hve
        obtain ⟨rfl, rfl⟩ := hve
        have HBAD := Lib.hid (fun (h : freeB g U ST[k] = false) => show earB g (natsI p) m U true = false by
          rw [HEA.out]
          cases hb : ST.all (freeB g U) with
          | false => rfl
          | true =>
            rw [List.all_eq_true] at hb
            have := hb _ (List.getElem_mem hlt)
            rw [h] at this; cases this)
        have HNX := Lib.hid (fun (h : freeB g U ST[k] = true) => show ∀ s ∈ ST.take (k + 1), freeB g U s = true from fun s hs => by
          rw [List.take_succ_eq_append_getElem hlt, List.mem_append, List.mem_singleton] at hs
          rcases hs with hs | rfl
          · exact HS.out s hs
          · exact h)
        have hs12 := HPS.out _ (List.getElem_mem hlt)
        have HFD := Lib.hid (show freeB g U ST[k] = (decide ((ST[k].2 : Int) ∈ g.getD ST[k].1 []) && !decide (ST[k] ∈ U)) from rfl)
        generalize freeB g U ST[k] = fr at *
        generalize ST[k] = s at *
        obtain ⟨s1, s2⟩ := s
        simp only at c1 c2 hs12 HFD
        obtain ⟨b5, off5, cp5, ra5, rc5, hve, c5, hrow⟩ := hgc0 _ hq s1 hs12.1
        simp only [Value.slice.injEq, true_and] at hve
        obtain ⟨rfl, rfl⟩ := hve
        have hrh := fun (W : World) (h : SlI S W .i64 (.slice ra5 (g.getD s1 []).length rc5) (g.getD s1 [])) => l1Has_any _ _ (s2 : Int) W h
        have hux := fun (W : World) (hb : Below w.heap.size w W) => hus W hb s1 s2
        clear hus hgb hgc0 HPS hsr HEA
        generalize g.getD s1 [] = row at *
        generalize decide ((s2 : Int) ∈ row) = d1 at *
        generalize decide (((s1, s2) : NP) ∈ U) = d2 at *
        cases d1 with
        | false =>
          have hfr := HFD.out
          rw [Bool.false_and] at hfr
          have HFR := Lib.hid hfr
          clear hfr
          go_wp2
          refine wp_region_held_drew (S := (fun w' => w'.cell? ⟨w.heap.size, 0, none⟩ = some (.slice (some ⟨b5, off5, none⟩) g.length gc) ∧ w'.cell? ⟨b, off + k, none⟩ = some (.slice (some ⟨rb, ro, none⟩) 2 rc) ∧ w'.cell? ⟨rb, ro, none⟩ = some (.int .i64 (s1 : Int)) ∧ w'.cell? ⟨rb, ro + 1, none⟩ = some (.int .i64 (s2 : Int)) ∧ w'.cell? ⟨b5, off5 + s1, none⟩ = some (.slice ra5 row.length rc5))) (by kernel_rfl) ?_ (fun hHeld => ?_)
          · first | exact ⟨‹_›, ‹_›, ‹_›, ‹_›, ‹_›⟩ | assumption | (simp [*, go_sem])
          have hqd := hq.drew
          have hqsd := hqs.drew
          have hrd := hrow.drew
          generalize wi.drew = wd at hqd hqsd hrd hHeld ⊢
          have hHeld2 := hHeld
          obtain ⟨cgd, -, -, -, -⟩ := hHeld2
          refine wpAnyH_take (i := 0) (v := ?v35) (by simp only [List.getElem?_toArray, List.getElem?_cons_zero]; exact rfl) (by kernel_rfl) (by kernel_rfl) (by kernel_rfl) (by intro _ _ _ h; exact h) (Or.inl ⟨by rfl, ?y35⟩) hHeld ?_
          case y35 => (intro w hSw; (try dsimp only at hSw); go_simp; try (with_reducible rfl))
          try simp only [Act.put, List.setIfInBounds_toArray, List.set_cons_zero, List.set_cons_succ]
          refine wpAnyH_take (i := 1) (v := ?v36) (by simp only [List.getElem?_toArray, List.getElem?_cons_succ, List.getElem?_cons_zero]; exact rfl) (by kernel_rfl) (by kernel_rfl) (by kernel_rfl) (by intro _ _ _ h; exact h) (Or.inl ⟨by rfl, ?y36⟩) hHeld ?_
          case y36 => (intro w hSw; (try dsimp only at hSw); go_simp; try (with_reducible rfl))
          try simp only [Act.put, List.setIfInBounds_toArray, List.set_cons_zero, List.set_cons_succ]
          refine wpAnyH_take (i := 2) (v := ?v37) (by simp only [List.getElem?_toArray, List.getElem?_cons_succ, List.getElem?_cons_zero]; exact rfl) (by kernel_rfl) (by kernel_rfl) (by kernel_rfl) (by intro _ _ _ h; exact h) (Or.inl ⟨by rfl, ?y37⟩) hHeld ?_
          case y37 => (intro w hSw; (try dsimp only at hSw); go_simp; try (with_reducible rfl))
          try simp only [Act.put, List.setIfInBounds_toArray, List.set_cons_zero, List.set_cons_succ]
          refine wpAnyH_take (i := 3) (v := ?v38) (by simp only [List.getElem?_toArray, List.getElem?_cons_succ, List.getElem?_cons_zero]; exact rfl) (by kernel_rfl) (by kernel_rfl) (by kernel_rfl) (by intro _ _ _ h; exact h) (Or.inl ⟨by rfl, ?y38⟩) hHeld ?_
          case y38 => (intro w hSw; (try dsimp only at hSw); go_simp; try (with_reducible rfl))
          try simp only [Act.put, List.setIfInBounds_toArray, List.set_cons_zero, List.set_cons_succ]
          refine wpAnyH_take (i := 4) (v := ?v39) (by simp only [List.getElem?_toArray, List.getElem?_cons_succ, List.getElem?_cons_zero]; exact rfl) (by kernel_rfl) (by kernel_rfl) (by kernel_rfl) (by intro _ _ _ h; exact h) (Or.inl ⟨by rfl, ?y39⟩) hHeld ?_
          case y39 => (intro w hSw; (try dsimp only at hSw); go_simp; try (with_reducible rfl))
          try simp only [Act.put, List.setIfInBounds_toArray, List.set_cons_zero, List.set_cons_succ]
          refine wpAnyH_take (i := 5) (v := ?v40) (by simp only [List.getElem?_toArray, List.getElem?_cons_succ, List.getElem?_cons_zero]; exact rfl) (by kernel_rfl) (by kernel_rfl) (by kernel_rfl) (by intro _ _ _ h; exact h) (Or.inl ⟨by rfl, ?y40⟩) hHeld ?_
          case y40 => (intro w hSw; (try dsimp only at hSw); go_simp; try (with_reducible rfl))
          try simp only [Act.put, List.setIfInBounds_toArray, List.set_cons_zero, List.set_cons_succ]
          refine wpAnyH_take (i := 6) (v := ?v41) (by simp only [List.getElem?_toArray, List.getElem?_cons_succ, List.getElem?_cons_zero]; exact rfl) (by kernel_rfl) (by kernel_rfl) (by kernel_rfl) (by intro _ _ _ h; exact h) (Or.inl ⟨by rfl, ?y41⟩) hHeld ?_
          case y41 => (intro w hSw; (try dsimp only at hSw); go_simp; try (with_reducible rfl))
          try simp only [Act.put, List.setIfInBounds_toArray, List.set_cons_zero, List.set_cons_succ]
          refine wpAnyH_take (i := 7) (v := ?v42) (by simp only [List.getElem?_toArray, List.getElem?_cons_succ, List.getElem?_cons_zero]; exact rfl) (by kernel_rfl) (by kernel_rfl) (by kernel_rfl) (by intro _ _ _ h; exact h) (Or.inl ⟨by rfl, ?y42⟩) hHeld ?_
          case y42 => (intro w hSw; (try dsimp only at hSw); go_simp; try (with_reducible rfl))
          try simp only [Act.put, List.setIfInBounds_toArray, List.set_cons_zero, List.set_cons_succ]
          refine wpAnyH_take (i := 8) (v := ?v43) (by simp only [List.getElem?_toArray, List.getElem?_cons_succ, List.getElem?_cons_zero]; exact rfl) (by kernel_rfl) (by kernel_rfl) (by kernel_rfl) (by intro _ _ _ h; exact h) (Or.inl ⟨by rfl, ?y43⟩) hHeld ?_
          case y43 => (intro w hSw; (try dsimp only at hSw); go_simp; try (with_reducible rfl))
          try simp only [Act.put, List.setIfInBounds_toArray, List.set_cons_zero, List.set_cons_succ]
          refine wpAnyH_take (i := 9) (v := ?v44) (by simp only [List.getElem?_toArray, List.getElem?_cons_succ, List.getElem?_cons_zero]; exact rfl) (by kernel_rfl) (by kernel_rfl) (by kernel_rfl) (by intro _ _ _ h; exact h) (Or.inl ⟨by rfl, ?y44⟩) hHeld ?_
          case y44 => (intro w hSw; (try dsimp only at hSw); go_simp; try (with_reducible rfl))
          try simp only [Act.put, List.setIfInBounds_toArray, List.set_cons_zero, List.set_cons_succ]
          refine wpAnyH_take (i := 10) (v := ?v45) (by simp only [List.getElem?_toArray, List.getElem?_cons_succ, List.getElem?_cons_zero]; exact rfl) (by kernel_rfl) (by kernel_rfl) (by kernel_rfl) (by intro _ _ _ h; exact h) (Or.inl ⟨by rfl, ?y45⟩) hHeld ?_
          case y45 => (intro w hSw; (try dsimp only at hSw); go_simp; try (with_reducible rfl))
          try simp only [Act.put, List.setIfInBounds_toArray, List.set_cons_zero, List.set_cons_succ]
          refine wpAnyH_take (i := 11) (v := ?v46) (by simp only [List.getElem?_toArray, List.getElem?_cons_succ, List.getElem?_cons_zero]; exact rfl) (by kernel_rfl) (by kernel_rfl) (by kernel_rfl) (by intro _ _ _ h; exact h) (Or.inl ⟨by rfl, ?y46⟩) hHeld ?_
          case y46 => (intro w hSw; (try dsimp only at hSw); go_simp; try (with_reducible rfl))
          try simp only [Act.put, List.setIfInBounds_toArray, List.set_cons_zero, List.set_cons_succ]
          refine wpAnyH_take (i := 12) (v := ?v47) (by simp only [List.getElem?_toArray, List.getElem?_cons_succ, List.getElem?_cons_zero]; exact rfl) (by kernel_rfl) (by kernel_rfl) (by kernel_rfl) (by intro _ _ _ h; exact h) (Or.inl ⟨by rfl, ?y47⟩) hHeld ?_
          case y47 => (intro w hSw; (try dsimp only at hSw); go_simp; try (with_reducible rfl))
          try simp only [Act.put, List.setIfInBounds_toArray, List.set_cons_zero, List.set_cons_succ]
          refine wpAnyH_take (i := 13) (v := ?v48) (by simp only [List.getElem?_toArray, List.getElem?_cons_succ, List.getElem?_cons_zero]; exact rfl) (by kernel_rfl) (by kernel_rfl) (by kernel_rfl) (by intro _ _ _ h; exact h) (Or.inl ⟨by rfl, ?y48⟩) hHeld ?_
          case y48 => (intro w hSw; (try dsimp only at hSw); go_simp; try (with_reducible rfl))
          try simp only [Act.put, List.setIfInBounds_toArray, List.set_cons_zero, List.set_cons_succ]
          refine wpAnyH_take (i := 14) (v := ?v49) (by simp only [List.getElem?_toArray, List.getElem?_cons_succ, List.getElem?_cons_zero]; exact rfl) (by kernel_rfl) (by kernel_rfl) (by kernel_rfl) (by intro _ _ _ h; exact h) (Or.inl ⟨by rfl, ?y49⟩) hHeld ?_
          case y49 => (intro w hSw; (try dsimp only at hSw); go_simp; try (with_reducible rfl))
          try simp only [Act.put, List.setIfInBounds_toArray, List.set_cons_zero, List.set_cons_succ]
          refine wpAnyH_take (i := 15) (v := ?v50) (by simp only [List.getElem?_toArray, List.getElem?_cons_succ, List.getElem?_cons_zero]; exact rfl) (by kernel_rfl) (by kernel_rfl) (by kernel_rfl) (by intro _ _ _ h; exact h) (Or.inl ⟨by rfl, ?y50⟩) hHeld ?_
          case y50 => (intro w hSw; (try dsimp only at hSw); go_simp; try (with_reducible rfl))
          try simp only [Act.put, List.setIfInBounds_toArray, List.set_cons_zero, List.set_cons_succ]
          refine wpAnyH_ready (rs := [16]) (by kernel_rfl) (by simp) ?_
          refine AllReadyH.cons (by simp only [List.getElem?_toArray, List.getElem?_cons_succ, List.getElem?_cons_zero]; exact rfl) (fun K hK => ?_) AllReadyH.nil
          go_simp
          (with_reducible refine (hrh _ hrd).mono ?_)
          rintro e wn ⟨rfl, rfl⟩
          try dsimp only
          refine hK.out _ _ ?h52 (fun hHeld => ?_)
          case h52 => first | exact ⟨‹_›, ‹_›, ‹_›, ‹_›, ‹_›⟩ | assumption | (simp [*, go_sem])
          clear hK K
          try simp only [Act.put, List.setIfInBounds_toArray, List.set_cons_zero, List.set_cons_succ]
          refine wpAnyH_take (i := 17) (v := ?v53) (by simp only [List.getElem?_toArray, List.getElem?_cons_succ, List.getElem?_cons_zero]; exact rfl) (by kernel_rfl) (by kernel_rfl) (by kernel_rfl) (by intro _ _ _ h; exact h) (Or.inl ⟨by rfl, ?y53⟩) hHeld ?_
          case y53 => (intro w hSw; (try dsimp only at hSw); go_simp; try (with_reducible rfl))
          try simp only [Act.put, List.setIfInBounds_toArray, List.set_cons_zero, List.set_cons_succ]
          refine wpAnyH_take (i := 18) (v := ?v54) (by simp only [List.getElem?_toArray, List.getElem?_cons_succ, List.getElem?_cons_zero]; exact rfl) (by kernel_rfl) (by kernel_rfl) (by kernel_rfl) (by intro _ _ _ h; exact h) (Or.inl ⟨by rfl, ?y54⟩) hHeld ?_
          case y54 => (intro w hSw; (try dsimp only at hSw); go_simp; try (with_reducible rfl))
          try simp only [Act.put, List.setIfInBounds_toArray, List.set_cons_zero, List.set_cons_succ]
          refine wpAnyH_take (i := 19) (by simp only [List.getElem?_toArray, List.getElem?_cons_succ, List.getElem?_cons_zero]; exact rfl) (by kernel_rfl) (by kernel_rfl) (by kernel_rfl) (by intro _ _ _ h; exact h) (Or.inr ⟨by rfl, rfl⟩) hHeld ?_
          try simp only [Act.put, List.setIfInBounds_toArray, List.set_cons_zero, List.set_cons_succ]
          refine wpAnyH_take (i := 20) (by simp only [List.getElem?_toArray, List.getElem?_cons_succ, List.getElem?_cons_zero]; exact rfl) (by kernel_rfl) (by kernel_rfl) (by kernel_rfl) (by intro _ _ _ h; exact h) (Or.inr ⟨by rfl, rfl⟩) hHeld ?_
          try simp only [Act.put, List.setIfInBounds_toArray, List.set_cons_zero, List.set_cons_succ]
          refine wpAnyH_take (i := 21) (by simp only [List.getElem?_toArray, List.getElem?_cons_succ, List.getElem?_cons_zero]; exact rfl) (by kernel_rfl) (by kernel_rfl) (by kernel_rfl) (by intro _ _ _ h; exact h) (Or.inr ⟨by rfl, rfl⟩) hHeld ?_
          try simp only [Act.put, List.setIfInBounds_toArray, List.set_cons_zero, List.set_cons_succ]
          refine wpAnyH_take (i := 22) (by simp only [List.getElem?_toArray, List.getElem?_cons_succ, List.getElem?_cons_zero]; exact rfl) (by kernel_rfl) (by kernel_rfl) (by kernel_rfl) (by intro _ _ _ h; exact h) (Or.inr ⟨by rfl, rfl⟩) hHeld ?_
          try simp only [Act.put, List.setIfInBounds_toArray, List.set_cons_zero, List.set_cons_succ]
          refine wpAnyH_take (i := 23) (by simp only [List.getElem?_toArray, List.getElem?_cons_succ, List.getElem?_cons_zero]; exact rfl) (by kernel_rfl) (by kernel_rfl) (by kernel_rfl) (by intro _ _ _ h; exact h) (Or.inr ⟨by rfl, rfl⟩) hHeld ?_
          try simp only [Act.put, List.setIfInBounds_toArray, List.set_cons_zero, List.set_cons_succ]
          refine wpAnyH_take (i := 24) (by simp only [List.getElem?_toArray, List.getElem?_cons_succ, List.getElem?_cons_zero]; exact rfl) (by kernel_rfl) (by kernel_rfl) (by kernel_rfl) (by intro _ _ _ h; exact h) (Or.inr ⟨by rfl, rfl⟩) hHeld ?_
          try simp only [Act.put, List.setIfInBounds_toArray, List.set_cons_zero, List.set_cons_succ]
          refine wpAnyH_take (i := 25) (by simp only [List.getElem?_toArray, List.getElem?_cons_succ, List.getElem?_cons_zero]; exact rfl) (by kernel_rfl) (by kernel_rfl) (by kernel_rfl) (by intro _ _ _ h; exact h) (Or.inr ⟨by rfl, rfl⟩) hHeld ?_
          try simp only [Act.put, List.setIfInBounds_toArray, List.set_cons_zero, List.set_cons_succ]
          refine wpAnyH_take (i := 26) (by simp only [List.getElem?_toArray, List.getElem?_cons_succ, List.getElem?_cons_zero]; exact rfl) (by kernel_rfl) (by kernel_rfl) (by kernel_rfl) (by intro _ _ _ h; exact h) (Or.inr ⟨by rfl, rfl⟩) hHeld ?_
          try simp only [Act.put, List.setIfInBounds_toArray, List.set_cons_zero, List.set_cons_succ]
          refine wpAnyH_take (i := 27) (by simp only [List.getElem?_toArray, List.getElem?_cons_succ, List.getElem?_cons_zero]; exact rfl) (by kernel_rfl) (by kernel_rfl) (by kernel_rfl) (by intro _ _ _ h; exact h) (Or.inr ⟨by rfl, rfl⟩) hHeld ?_
          try simp only [Act.put, List.setIfInBounds_toArray, List.set_cons_zero, List.set_cons_succ]
          refine wpAnyH_take (i := 28) (by simp only [List.getElem?_toArray, List.getElem?_cons_succ, List.getElem?_cons_zero]; exact rfl) (by kernel_rfl) (by kernel_rfl) (by kernel_rfl) (by intro _ _ _ h; exact h) (Or.inr ⟨by rfl, rfl⟩) hHeld ?_
          try simp only [Act.put, List.setIfInBounds_toArray, List.set_cons_zero, List.set_cons_succ]
          refine wpAnyH_take (i := 29) (by simp only [List.getElem?_toArray, List.getElem?_cons_succ, List.getElem?_cons_zero]; exact rfl) (by kernel_rfl) (by kernel_rfl) (by kernel_rfl) (by intro _ _ _ h; exact h) (Or.inr ⟨by rfl, rfl⟩) hHeld ?_
          try simp only [Act.put, List.setIfInBounds_toArray, List.set_cons_zero, List.set_cons_succ]
          refine wpAnyH_take (i := 30) (by simp only [List.getElem?_toArray, List.getElem?_cons_succ, List.getElem?_cons_zero]; exact rfl) (by kernel_rfl) (by kernel_rfl) (by kernel_rfl) (by intro _ _ _ h; exact h) (Or.inr ⟨by rfl, rfl⟩) hHeld ?_
          try simp only [Act.put, List.setIfInBounds_toArray, List.set_cons_zero, List.set_cons_succ]
          refine wpAnyH_take (i := 31) (by simp only [List.getElem?_toArray, List.getElem?_cons_succ, List.getElem?_cons_zero]; exact rfl) (by kernel_rfl) (by kernel_rfl) (by kernel_rfl) (by intro _ _ _ h; exact h) (Or.inr ⟨by rfl, rfl⟩) hHeld ?_
          try simp only [Act.put, List.setIfInBounds_toArray, List.set_cons_zero, List.set_cons_succ]
          refine wpAnyH_take (i := 32) (by simp only [List.getElem?_toArray, List.getElem?_cons_succ, List.getElem?_cons_zero]; exact rfl) (by kernel_rfl) (by kernel_rfl) (by kernel_rfl) (by intro _ _ _ h; exact h) (Or.inr ⟨by rfl, rfl⟩) hHeld ?_
          try simp only [Act.put, List.setIfInBounds_toArray, List.set_cons_zero, List.set_cons_succ]
          refine wpAnyH_take (i := 33) (v := ?v69) (by simp only [List.getElem?_toArray, List.getElem?_cons_succ, List.getElem?_cons_zero]; exact rfl) (by kernel_rfl) (by kernel_rfl) (by kernel_rfl) (by intro _ _ _ h; exact h) (Or.inl ⟨by rfl, ?y69⟩) hHeld ?_
          case y69 => (intro w hSw; (try dsimp only at hSw); go_simp; try (with_reducible rfl))
          try simp only [Act.put, List.setIfInBounds_toArray, List.set_cons_zero, List.set_cons_succ]
          refine wpAnyH_done (by kernel_rfl) ?_ _
          go_wp2
          go_ret
          exact ⟨ret_bool (HBAD.out HFR.out).symm, hqd⟩
        | true =>
          have hfr := HFD.out
          rw [Bool.true_and] at hfr
          have HFR := Lib.hid hfr
          clear hfr
          go_wp2
          refine wp_region_held_drew (S := (fun w' => w'.cell? ⟨w.heap.size, 0, none⟩ = some (.slice (some ⟨b5, off5, none⟩) g.length gc) ∧ w'.cell? ⟨b, off + k, none⟩ = some (.slice (some ⟨rb, ro, none⟩) 2 rc) ∧ w'.cell? ⟨rb, ro, none⟩ = some (.int .i64 (s1 : Int)) ∧ w'.cell? ⟨rb, ro + 1, none⟩ = some (.int .i64 (s2 : Int)) ∧ w'.cell? ⟨b5, off5 + s1, none⟩ = some (.slice ra5 row.length rc5))) (by kernel_rfl) ?_ (fun hHeld => ?_)
          · first | exact ⟨‹_›, ‹_›, ‹_›, ‹_›, ‹_›⟩ | assumption | (simp [*, go_sem])
          have hqd := hq.drew
          have hqsd := hqs.drew
          have hrd := hrow.drew
          generalize wi.drew = wd at hqd hqsd hrd hHeld ⊢
          have hHeld2 := hHeld
          obtain ⟨cgd, -, -, -, -⟩ := hHeld2
          refine wpAnyH_take (i := 0) (v := ?v70) (by simp only [List.getElem?_toArray, List.getElem?_cons_zero]; exact rfl) (by kernel_rfl) (by kernel_rfl) (by kernel_rfl) (by intro _ _ _ h; exact h) (Or.inl ⟨by rfl, ?y70⟩) hHeld ?_
          case y70 => (intro w hSw; (try dsimp only at hSw); go_simp; try (with_reducible rfl))
          try simp only [Act.put, List.setIfInBounds_toArray, List.set_cons_zero, List.set_cons_succ]
          refine wpAnyH_take (i := 1) (v := ?v71) (by simp only [List.getElem?_toArray, List.getElem?_cons_succ, List.getElem?_cons_zero]; exact rfl) (by kernel_rfl) (by kernel_rfl) (by kernel_rfl) (by intro _ _ _ h; exact h) (Or.inl ⟨by rfl, ?y71⟩) hHeld ?_
          case y71 => (intro w hSw; (try dsimp only at hSw); go_simp; try (with_reducible rfl))
          try simp only [Act.put, List.setIfInBounds_toArray, List.set_cons_zero, List.set_cons_succ]
          refine wpAnyH_take (i := 2) (v := ?v72) (by simp only [List.getElem?_toArray, List.getElem?_cons_succ, List.getElem?_cons_zero]; exact rfl) (by kernel_rfl) (by kernel_rfl) (by kernel_rfl) (by intro _ _ _ h; exact h) (Or.inl ⟨by rfl, ?y72⟩) hHeld ?_
          case y72 => (intro w hSw; (try dsimp only at hSw); go_simp; try (with_reducible rfl))
          try simp only [Act.put, List.setIfInBounds_toArray, List.set_cons_zero, List.set_cons_succ]
          refine wpAnyH_take (i := 3) (v := ?v73) (by simp only [List.getElem?_toArray, List.getElem?_cons_succ, List.getElem?_cons_zero]; exact rfl) (by kernel_rfl) (by kernel_rfl) (by kernel_rfl) (by intro _ _ _ h; exact h) (Or.inl ⟨by rfl, ?y73⟩) hHeld ?_
          case y73 => (intro w hSw; (try dsimp only at hSw); go_simp; try (with_reducible rfl))
          try simp only [Act.put, List.setIfInBounds_toArray, List.set_cons_zero, List.set_cons_succ]
          refine wpAnyH_take (i := 4) (v := ?v74) (by simp only [List.getElem?_toArray, List.getElem?_cons_succ, List.getElem?_cons_zero]; exact rfl) (by kernel_rfl) (by kernel_rfl) (by kernel_rfl) (by intro _ _ _ h; exact h) (Or.inl ⟨by rfl, ?y74⟩) hHeld ?_
          case y74 => (intro w hSw; (try dsimp only at hSw); go_simp; try (with_reducible rfl))
          try simp only [Act.put, List.setIfInBounds_toArray, List.set_cons_zero, List.set_cons_succ]
          refine wpAnyH_take (i := 5) (v := ?v75) (by simp only [List.getElem?_toArray, List.getElem?_cons_succ, List.getElem?_cons_zero]; exact rfl) (by kernel_rfl) (by kernel_rfl) (by kernel_rfl) (by intro _ _ _ h; exact h) (Or.inl ⟨by rfl, ?y75⟩) hHeld ?_
          case y75 => (intro w hSw; (try dsimp only at hSw); go_simp; try (with_reducible rfl))
          try simp only [Act.put, List.setIfInBounds_toArray, List.set_cons_zero, List.set_cons_succ]
          refine wpAnyH_take (i := 6) (v := ?v76) (by simp only [List.getElem?_toArray, List.getElem?_cons_succ, List.getElem?_cons_zero]; exact rfl) (by kernel_rfl) (by kernel_rfl) (by kernel_rfl) (by intro _ _ _ h; exact h) (Or.inl ⟨by rfl, ?y76⟩) hHeld ?_
          case y76 => (intro w hSw; (try dsimp only at hSw); go_simp; try (with_reducible rfl))
          try simp only [Act.put, List.setIfInBounds_toArray, List.set_cons_zero, List.set_cons_succ]
          refine wpAnyH_take (i := 7) (v := ?v77) (by simp only [List.getElem?_toArray, List.getElem?_cons_succ, List.getElem?_cons_zero]; exact rfl) (by kernel_rfl) (by kernel_rfl) (by kernel_rfl) (by intro _ _ _ h; exact h) (Or.inl ⟨by rfl, ?y77⟩) hHeld ?_
          case y77 => (intro w hSw; (try dsimp only at hSw); go_simp; try (with_reducible rfl))
          try simp only [Act.put, List.setIfInBounds_toArray, List.set_cons_zero, List.set_cons_succ]
          refine wpAnyH_take (i := 8) (v := ?v78) (by simp only [List.getElem?_toArray, List.getElem?_cons_succ, List.getElem?_cons_zero]; exact rfl) (by kernel_rfl) (by kernel_rfl) (by kernel_rfl) (by intro _ _ _ h; exact h) (Or.inl ⟨by rfl, ?y78⟩) hHeld ?_
          case y78 => (intro w hSw; (try dsimp only at hSw); go_simp; try (with_reducible rfl))
          try simp only [Act.put, List.setIfInBounds_toArray, List.set_cons_zero, List.set_cons_succ]
          refine wpAnyH_take (i := 9) (v := ?v79) (by simp only [List.getElem?_toArray, List.getElem?_cons_succ, List.getElem?_cons_zero]; exact rfl) (by kernel_rfl) (by kernel_rfl) (by kernel_rfl) (by intro _ _ _ h; exact h) (Or.inl ⟨by rfl, ?y79⟩) hHeld ?_
          case y79 => (intro w hSw; (try dsimp only at hSw); go_simp; try (with_reducible rfl))
          try simp only [Act.put, List.setIfInBounds_toArray, List.set_cons_zero, List.set_cons_succ]
          refine wpAnyH_take (i := 10) (v := ?v80) (by simp only [List.getElem?_toArray, List.getElem?_cons_succ, List.getElem?_cons_zero]; exact rfl) (by kernel_rfl) (by kernel_rfl) (by kernel_rfl) (by intro _ _ _ h; exact h) (Or.inl ⟨by rfl, ?y80⟩) hHeld ?_
          case y80 => (intro w hSw; (try dsimp only at hSw); go_simp; try (with_reducible rfl))
          try simp only [Act.put, List.setIfInBounds_toArray, List.set_cons_zero, List.set_cons_succ]
          refine wpAnyH_take (i := 11) (v := ?v81) (by simp only [List.getElem?_toArray, List.getElem?_cons_succ, List.getElem?_cons_zero]; exact rfl) (by kernel_rfl) (by kernel_rfl) (by kernel_rfl) (by intro _ _ _ h; exact h) (Or.inl ⟨by rfl, ?y81⟩) hHeld ?_
          case y81 => (intro w hSw; (try dsimp only at hSw); go_simp; try (with_reducible rfl))
          try simp only [Act.put, List.setIfInBounds_toArray, List.set_cons_zero, List.set_cons_succ]
          refine wpAnyH_take (i := 12) (v := ?v82) (by simp only [List.getElem?_toArray, List.getElem?_cons_succ, List.getElem?_cons_zero]; exact rfl) (by kernel_rfl) (by kernel_rfl) (by kernel_rfl) (by intro _ _ _ h; exact h) (Or.inl ⟨by rfl, ?y82⟩) hHeld ?_
          case y82 => (intro w hSw; (try dsimp only at hSw); go_simp; try (with_reducible rfl))
          try simp only [Act.put, List.setIfInBounds_toArray, List.set_cons_zero, List.set_cons_succ]
          refine wpAnyH_take (i := 13) (v := ?v83) (by simp only [List.getElem?_toArray, List.getElem?_cons_succ, List.getElem?_cons_zero]; exact rfl) (by kernel_rfl) (by kernel_rfl) (by kernel_rfl) (by intro _ _ _ h; exact h) (Or.inl ⟨by rfl, ?y83⟩) hHeld ?_
          case y83 => (intro w hSw; (try dsimp only at hSw); go_simp; try (with_reducible rfl))
          try simp only [Act.put, List.setIfInBounds_toArray, List.set_cons_zero, List.set_cons_succ]
          refine wpAnyH_take (i := 14) (v := ?v84) (by simp only [List.getElem?_toArray, List.getElem?_cons_succ, List.getElem?_cons_zero]; exact rfl) (by kernel_rfl) (by kernel_rfl) (by kernel_rfl) (by intro _ _ _ h; exact h) (Or.inl ⟨by rfl, ?y84⟩) hHeld ?_
          case y84 => (intro w hSw; (try dsimp only at hSw); go_simp; try (with_reducible rfl))
          try simp only [Act.put, List.setIfInBounds_toArray, List.set_cons_zero, List.set_cons_succ]
          refine wpAnyH_take (i := 15) (v := ?v85) (by simp only [List.getElem?_toArray, List.getElem?_cons_succ, List.getElem?_cons_zero]; exact rfl) (by kernel_rfl) (by kernel_rfl) (by kernel_rfl) (by intro _ _ _ h; exact h) (Or.inl ⟨by rfl, ?y85⟩) hHeld ?_
          case y85 => (intro w hSw; (try dsimp only at hSw); go_simp; try (with_reducible rfl))
          try simp only [Act.put, List.setIfInBounds_toArray, List.set_cons_zero, List.set_cons_succ]
          refine wpAnyH_ready (rs := [16]) (by kernel_rfl) (by simp) ?_
          refine AllReadyH.cons (by simp only [List.getElem?_toArray, List.getElem?_cons_succ, List.getElem?_cons_zero]; exact rfl) (fun K hK => ?_) AllReadyH.nil
          go_simp
          (with_reducible refine (hrh _ hrd).mono ?_)
          rintro e wn ⟨rfl, rfl⟩
          try dsimp only
          refine hK.out _ _ ?h87 (fun hHeld => ?_)
          case h87 => first | exact ⟨‹_›, ‹_›, ‹_›, ‹_›, ‹_›⟩ | assumption | (simp [*, go_sem])
          clear hK K
          try simp only [Act.put, List.setIfInBounds_toArray, List.set_cons_zero, List.set_cons_succ]
          refine wpAnyH_take (i := 17) (v := ?v88) (by simp only [List.getElem?_toArray, List.getElem?_cons_succ, List.getElem?_cons_zero]; exact rfl) (by kernel_rfl) (by kernel_rfl) (by kernel_rfl) (by intro _ _ _ h; exact h) (Or.inl ⟨by rfl, ?y88⟩) hHeld ?_
          case y88 => (intro w hSw; (try dsimp only at hSw); go_simp; try (with_reducible rfl))
          try simp only [Act.put, List.setIfInBounds_toArray, List.set_cons_zero, List.set_cons_succ]
          refine wpAnyH_take (i := 18) (v := ?v89) (by simp only [List.getElem?_toArray, List.getElem?_cons_succ, List.getElem?_cons_zero]; exact rfl) (by kernel_rfl) (by kernel_rfl) (by kernel_rfl) (by intro _ _ _ h; exact h) (Or.inl ⟨by rfl, ?y89⟩) hHeld ?_
          case y89 => (intro w hSw; (try dsimp only at hSw); go_simp; try (with_reducible rfl))
          try simp only [Act.put, List.setIfInBounds_toArray, List.set_cons_zero, List.set_cons_succ]
          refine wpAnyH_take (i := 19) (v := ?v90) (by simp only [List.getElem?_toArray, List.getElem?_cons_succ, List.getElem?_cons_zero]; exact rfl) (by kernel_rfl) (by kernel_rfl) (by kernel_rfl) (by intro _ _ _ h; exact h) (Or.inl ⟨by rfl, ?y90⟩) hHeld ?_
          case y90 => (intro w hSw; (try dsimp only at hSw); go_simp; try (with_reducible rfl))
          try simp only [Act.put, List.setIfInBounds_toArray, List.set_cons_zero, List.set_cons_succ]
          refine wpAnyH_take (i := 20) (v := ?v91) (by simp only [List.getElem?_toArray, List.getElem?_cons_succ, List.getElem?_cons_zero]; exact rfl) (by kernel_rfl) (by kernel_rfl) (by kernel_rfl) (by intro _ _ _ h; exact h) (Or.inl ⟨by rfl, ?y91⟩) hHeld ?_
          case y91 => (intro w hSw; (try dsimp only at hSw); go_simp; try (with_reducible rfl))
          try simp only [Act.put, List.setIfInBounds_toArray, List.set_cons_zero, List.set_cons_succ]
          refine wpAnyH_take (i := 21) (v := ?v92) (by simp only [List.getElem?_toArray, List.getElem?_cons_succ, List.getElem?_cons_zero]; exact rfl) (by kernel_rfl) (by kernel_rfl) (by kernel_rfl) (by intro _ _ _ h; exact h) (Or.inl ⟨by rfl, ?y92⟩) hHeld ?_
          case y92 => (intro w hSw; (try dsimp only at hSw); go_simp; try (with_reducible rfl))
          try simp only [Act.put, List.setIfInBounds_toArray, List.set_cons_zero, List.set_cons_succ]
          refine wpAnyH_take (i := 22) (v := ?v93) (by simp only [List.getElem?_toArray, List.getElem?_cons_succ, List.getElem?_cons_zero]; exact rfl) (by kernel_rfl) (by kernel_rfl) (by kernel_rfl) (by intro _ _ _ h; exact h) (Or.inl ⟨by rfl, ?y93⟩) hHeld ?_
          case y93 => (intro w hSw; (try dsimp only at hSw); go_simp; try (with_reducible rfl))
          try simp only [Act.put, List.setIfInBounds_toArray, List.set_cons_zero, List.set_cons_succ]
          refine wpAnyH_take (i := 23) (v := ?v94) (by simp only [List.getElem?_toArray, List.getElem?_cons_succ, List.getElem?_cons_zero]; exact rfl) (by kernel_rfl) (by kernel_rfl) (by kernel_rfl) (by intro _ _ _ h; exact h) (Or.inl ⟨by rfl, ?y94⟩) hHeld ?_
          case y94 => (intro w hSw; (try dsimp only at hSw); go_simp; try (with_reducible rfl))
          try simp only [Act.put, List.setIfInBounds_toArray, List.set_cons_zero, List.set_cons_succ]
          refine wpAnyH_take (i := 24) (v := ?v95) (by simp only [List.getElem?_toArray, List.getElem?_cons_succ, List.getElem?_cons_zero]; exact rfl) (by kernel_rfl) (by kernel_rfl) (by kernel_rfl) (by intro _ _ _ h; exact h) (Or.inl ⟨by rfl, ?y95⟩) hHeld ?_
          case y95 => (intro w hSw; (try dsimp only at hSw); go_simp; try (with_reducible rfl))
          try simp only [Act.put, List.setIfInBounds_toArray, List.set_cons_zero, List.set_cons_succ]
          refine wpAnyH_take (i := 25) (v := ?v96) (by simp only [List.getElem?_toArray, List.getElem?_cons_succ, List.getElem?_cons_zero]; exact rfl) (by kernel_rfl) (by kernel_rfl) (by kernel_rfl) (by intro _ _ _ h; exact h) (Or.inl ⟨by rfl, ?y96⟩) hHeld ?_
          case y96 => (intro w hSw; (try dsimp only at hSw); go_simp; try (with_reducible rfl))
          try simp only [Act.put, List.setIfInBounds_toArray, List.set_cons_zero, List.set_cons_succ]
          refine wpAnyH_take (i := 26) (v := ?v97) (by simp only [List.getElem?_toArray, List.getElem?_cons_succ, List.getElem?_cons_zero]; exact rfl) (by kernel_rfl) (by kernel_rfl) (by kernel_rfl) (by intro _ _ _ h; exact h) (Or.inl ⟨by rfl, ?y97⟩) hHeld ?_
          case y97 => (intro w hSw; (try dsimp only at hSw); go_simp; try (with_reducible rfl))
          try simp only [Act.put, List.setIfInBounds_toArray, List.set_cons_zero, List.set_cons_succ]
          refine wpAnyH_take (i := 27) (v := ?v98) (by simp only [List.getElem?_toArray, List.getElem?_cons_succ, List.getElem?_cons_zero]; exact rfl) (by kernel_rfl) (by kernel_rfl) (by kernel_rfl) (by intro _ _ _ h; exact h) (Or.inl ⟨by rfl, ?y98⟩) hHeld ?_
          case y98 => (intro w hSw; (try dsimp only at hSw); go_simp; try (with_reducible rfl))
          try simp only [Act.put, List.setIfInBounds_toArray, List.set_cons_zero, List.set_cons_succ]
          refine wpAnyH_take (i := 28) (v := ?v99) (by simp only [List.getElem?_toArray, List.getElem?_cons_succ, List.getElem?_cons_zero]; exact rfl) (by kernel_rfl) (by kernel_rfl) (by kernel_rfl) (by intro _ _ _ h; exact h) (Or.inl ⟨by rfl, ?y99⟩) hHeld ?_
          case y99 => (intro w hSw; (try dsimp only at hSw); go_simp; try (with_reducible rfl))
          try simp only [Act.put, List.setIfInBounds_toArray, List.set_cons_zero, List.set_cons_succ]
          refine wpAnyH_take (i := 29) (v := ?v100) (by simp only [List.getElem?_toArray, List.getElem?_cons_succ, List.getElem?_cons_zero]; exact rfl) (by kernel_rfl) (by kernel_rfl) (by kernel_rfl) (by intro _ _ _ h; exact h) (Or.inl ⟨by rfl, ?y100⟩) hHeld ?_
          case y100 => (intro w hSw; (try dsimp only at hSw); go_simp; try (with_reducible rfl))
          try simp only [Act.put, List.setIfInBounds_toArray, List.set_cons_zero, List.set_cons_succ]
          refine wpAnyH_take (i := 30) (v := ?v101) (by simp only [List.getElem?_toArray, List.getElem?_cons_succ, List.getElem?_cons_zero]; exact rfl) (by kernel_rfl) (by kernel_rfl) (by kernel_rfl) (by intro _ _ _ h; exact h) (Or.inl ⟨by rfl, ?y101⟩) hHeld ?_
          case y101 => (intro w hSw; (try dsimp only at hSw); go_simp; try (with_reducible rfl))
          try simp only [Act.put, List.setIfInBounds_toArray, List.set_cons_zero, List.set_cons_succ]
          refine wpAnyH_take (i := 31) (v := ?v102) (by simp only [List.getElem?_toArray, List.getElem?_cons_succ, List.getElem?_cons_zero]; exact rfl) (by kernel_rfl) (by kernel_rfl) (by kernel_rfl) (by intro _ _ _ h; exact h) (Or.inl ⟨by rfl, ?y102⟩) hHeld ?_
          case y102 => (intro w hSw; (try dsimp only at hSw); go_simp; try (with_reducible rfl))
          try simp only [Act.put, List.setIfInBounds_toArray, List.set_cons_zero, List.set_cons_succ]
          refine wpAnyH_ready (rs := [32]) (by kernel_rfl) (by simp) ?_
          refine AllReadyH.cons (by simp only [List.getElem?_toArray, List.getElem?_cons_succ, List.getElem?_cons_zero]; exact rfl) (fun K hK => ?_) AllReadyH.nil
          go_simp
          (with_reducible refine (hux _ hqd).mono ?_)
          rintro e wn ⟨rfl, rfl⟩
          try dsimp only
          refine hK.out _ _ ?h104 (fun hHeld => ?_)
          case h104 => first | exact ⟨‹_›, ‹_›, ‹_›, ‹_›, ‹_›⟩ | assumption | (simp [*, go_sem])
          clear hK K
          try simp only [Act.put, List.setIfInBounds_toArray, List.set_cons_zero, List.set_cons_succ]
          refine wpAnyH_take (i := 33) (v := ?v105) (by simp only [List.getElem?_toArray, List.getElem?_cons_succ, List.getElem?_cons_zero]; exact rfl) (by kernel_rfl) (by kernel_rfl) (by kernel_rfl) (by intro _ _ _ h; exact h) (Or.inl ⟨by rfl, ?y105⟩) hHeld ?_
          case y105 => (intro w hSw; (try dsimp only at hSw); go_simp; try (with_reducible rfl))
          try simp only [Act.put, List.setIfInBounds_toArray, List.set_cons_zero, List.set_cons_succ]
          refine wpAnyH_done (by kernel_rfl) ?_ _
          cases d2 with
          | true =>
            have HFR2 := Lib.hid (show fr = false from HFR.out)
            go_wp2
            go_ret
            exact ⟨ret_bool (HBAD.out HFR2.out).symm, hqd⟩
          | false =>
            have HFR2 := Lib.hid (show fr = true from HFR.out)
            go_wp2
            go_roundw
            case rel => exact ⟨k + 1, by omega, by go_num, Lib.hid (HNX.out HFR2.out), hqd, hqsd, cgd⟩
            case measure => simp [intOf]; omega
  case inr =>
    clear hx1 hx2
    go_enter Tryd.func84, Tryd.ntmps84
    go_wp2
    go_loopw [10] (fun i wr => ∃ k : Nat, k ≤ ear.length ∧ i = .int .i64 k ∧ RowKit.Hid (VokTo g.length ear m fb k) ∧ Below w.heap.size w wr ∧ wr.cell? ⟨w.heap.size, 0, none⟩ = some (.slice ga g.length gc)) (fun i _ => ear.length - (intOf i).toNat)
    case atStart => exact ⟨0, Nat.zero_le _, rfl, Lib.hid (fun _ h => by omega), hq0, by simp [go_sem]⟩
    case round =>
      clear hq0
      obtain ⟨k, hk, rfl, HV, hq, cg⟩ := hrel
      obtain ⟨wi, rfl⟩ : ∃ wx : World, wx = wr := ⟨_, rfl⟩
      by_cases hlt : k < ear.length
      case pos =>
        have hcx0 := hec k hlt
        have hcx := (hq.cell (p := ⟨eb, eo + k, none⟩) (cell_lt hcx0)).trans hcx0
        have hth := fun (W : World) (hb : Below w.heap.size w W) => l1Has_any _ _ ear[k] W ((heb W hb).take (m := k) (by omega))
        have hmx := fun (W : World) (hb : Below w.heap.size w W) => hmh W hb ear[k]
        have HBAD := Lib.hid (fun h => show earB g ear m U fb = false by rw [HEE.out, vok_bad hlt h]; simp)
        have HNX := Lib.hid (fun h => HV.out.next h)
        have hvd : vokB g.length ear m fb k = (inB ear[k] 0 ((g.length : Int) - 1) && !decide (ear[k] ∈ ear.take k) && (fb || (m.testBit ear[k].toNat == (decide (k = 0) || decide (k = ear.length - 1))))) := by
          rw [vokB, show ear.getD k 0 = ear[k] by simp [hlt]]
        have hmt : 0 ≤ ear[k] → decide (ear[k] ∈ bitsI m) = m.testBit ear[k].toNat := fun h0 => by
          rw [Bool.eq_iff_iff, decide_eq_true_eq, mem_bitsI hm32]
          exact ⟨fun h => h.2, fun h => ⟨h0, h⟩⟩
        have hin0 : inB ear[k] 0 ((g.length : Int) - 1) = true → 0 ≤ ear[k] := fun h => (inB_iff.1 h).1
        have HVD := Lib.hid hvd
        clear hcx0 hvd HV hmh hst
        generalize vokB g.length ear m fb k = vb at *
        generalize ear[k] = x at *
        generalize hdt : decide (x ∈ ear.take k) = dt at *
        clear hdt
        cases hA : inB x 0 ((g.length : Int) - 1) with
        | false =>
          have HE := Lib.hid (HBAD.out (by rw [HVD.out, hA]; rfl))
          clear hin0 hmt
          go_wp2
          go_quiet ((first | (go_at_call 123; exact quiet_same (l1In_any _ _ _ _)) | (go_at_call 104; exact quiet_same (hth _ (hq.drewN' _)))))
          go_wp2
          go_ret
          exact ⟨ret_bool HE.out.symm, hq.drewN' _⟩
        | true =>
          have hx0 := hin0 hA
          rw [hmt hx0] at hmx
          rw [hA, Bool.true_and] at HVD
          clear hin0 hmt hx0
          cases dt with
          | true =>
            have HE := Lib.hid (HBAD.out (by rw [HVD.out]; rfl))
            go_wp2
            go_quiet ((first | (go_at_call 123; exact quiet_same (l1In_any _ _ _ _)) | (go_at_call 104; exact quiet_same (hth _ (hq.drewN' _)))))
            go_wp2
            go_ret
            exact ⟨ret_bool HE.out.symm, hq.drewN' _⟩
          | false =>
            rw [Bool.not_false, Bool.true_and] at HVD
            have he0 : ((k : Int) == 0) = decide (k = 0) := by rw [Bool.eq_iff_iff, beq_iff_eq, decide_eq_true_eq]; omega
            have he0b : (k == 0) = decide (k = 0) := by rw [Bool.eq_iff_iff, beq_iff_eq, decide_eq_true_eq]
            have he1 : ((k : Int) == (ear.length : Int) - 1) = decide (k = ear.length - 1) := by rw [Bool.eq_iff_iff, beq_iff_eq, decide_eq_true_eq]; omega
            generalize he2 : decide (k = ear.length - 1) = e1 at *
            generalize he3 : decide (k = 0) = e0 at *
            generalize m.testBit x.toNat = hb at *
            have HK0 := Lib.hid he3
            clear he2 he3
            have HRG : ∀ b, vb = b → RowKit.Hid (vb = b) := fun _ h => Lib.hid h
            cases e0 <;> cases e1 <;> cases hb
            all_goals
              have hvb := HVD.out
              rw [hv] at hvb
              simp at hvb
              have HVB := Lib.hid hvb
              clear hvb
              go_wp2
              go_quiet ((first | (go_at_call 123; exact quiet_same (l1In_any _ _ _ _)) | (go_at_call 104; exact quiet_same (hth _ (hq.drewN' _)))))
              go_wp2_with (go_at_call 104; refine (hmx _ (hq.drewN' _)).mono ?_; rintro e w' ⟨rfl, rfl⟩)
              first
                | (go_ret; exact ⟨ret_bool (HBAD.out HVB.out).symm, hq.drewN' _⟩)
                | (go_roundw
                   case rel => exact ⟨k + 1, by omega, by go_num, Lib.hid (HNX.out HVB.out), hq.drewN' _, cg⟩
                   case measure => simp [intOf]; omega)
      obtain rfl : k = ear.length := by omega
      subst hv
      have hva := HV.out.all
      obtain ⟨e1, e2, hp⟩ := ear_nats hva
      obtain ⟨p, rfl⟩ : ∃ p, ear = natsI p := ⟨_, e1.symm⟩
      have hnn : natsOf (natsI p) = p := by
        exact natsOf_natsI p
      rw [hnn] at hp
      have HEA := Lib.hid (show earB g (natsI p) m U false = (stepsN p false).all (freeB g U) by rw [HEE.out, hva, decide_eq_true HL.out, hnn]; rfl)
      have hpl : p.length ≤ 16 := by
        have := (nodup_sub (E := List.range g.length) hp.2 (fun x hx => List.mem_range.2 (hp.1 x hx))).1
        rw [List.length_range] at this; omega
      have hp2 : 1 ≤ p.length := by rw [natsI_len] at h2; omega
      have hst1 := hst _ hq p rfl hp2 (by omega)
      have HPS := Lib.hid (steps_lt (c := false) hp2 hp.1)
      have hsl := stepsN_len p false
      have hsl2 : (stepsN p false).length ≤ 64 := by rw [hsl]; simp; omega
      clear hst hec he hcap e1 e2 hva HV HEE hp hnn hsl hmh heb
      generalize hST : stepsN p false = ST at *
      clear hST
      go_wp2_with fail
      refine hst1.mono ?_
      rintro e w2 ⟨su, rfl, hsu, hb2⟩
      have hq2 := hq.trans (hb2.mono hq.size)
      have cg2 := (hb2.cell (cell_lt cg)).trans cg
      have hsr := hsu.rows (by rw [rowsP_len]; omega)
      obtain ⟨sa, sc, rfl⟩ := hsr.slice
      simp only [rowsP_len] at *
      clear hsu hst1 hb2 cg hq
      go_wp2
      go_loopw [13] (fun i wr => ∃ k : Nat, k ≤ ST.length ∧ i = .int .i64 k ∧ RowKit.Hid (∀ s ∈ ST.take k, freeB g U s = true) ∧ Below w.heap.size w wr ∧ Below w2.heap.size w2 wr ∧ wr.cell? ⟨w.heap.size, 0, none⟩ = some (.slice ga g.length gc)) (fun i _ => ST.length - (intOf i).toNat)
      case atStart => exact ⟨0, Nat.zero_le _, rfl, Lib.hid (fun s hs => by simp at hs), hq2, Below.refl _ _, cg2⟩
      case round =>
        clear hq2 cg2
        obtain ⟨k, hk, rfl, HS, hq, hqs, cg⟩ := hrel
        obtain ⟨wi, rfl⟩ : ∃ wx : World, wx = wr := ⟨_, rfl⟩
        by_cases hlt : k < ST.length
        case neg =>
          have HE := Lib.hid (show earB g (natsI p) m U false = true by
            rw [HEA.out, List.all_eq_true]
            intro s hs
            exact HS.out s (by rw [List.take_of_length_le (by omega)]; exact hs))
          go_wp2
          go_ret
          exact ⟨ret_bool HE.out.symm, hq⟩
        obtain ⟨b, off, cap, rb, ro, rc, hve, c0, c1, c2⟩ := (hsr.below hqs (Nat.le_refl _)).pair hlt
        simp only [Value.slice.injEq, true_and] at hve
        obtain ⟨rfl, rfl⟩ := hve
        have HBAD := Lib.hid (fun (h : freeB g U ST[k] = false) => show earB g (natsI p) m U false = false by
          rw [HEA.out]
          cases hb : ST.all (freeB g U) with
          | false => rfl
          | true =>
            rw [List.all_eq_true] at hb
            have := hb _ (List.getElem_mem hlt)
            rw [h] at this; cases this)
        have HNX := Lib.hid (fun (h : freeB g U ST[k] = true) => show ∀ s ∈ ST.take (k + 1), freeB g U s = true from fun s hs => by
          rw [List.take_succ_eq_append_getElem hlt, List.mem_append, List.mem_singleton] at hs
          rcases hs with hs | rfl
          · exact HS.out s hs
          · exact h)
        have hs12 := HPS.out _ (List.getElem_mem hlt)
        have HFD := Lib.hid (show freeB g U ST[k] = (decide ((ST[k].2 : Int) ∈ g.getD ST[k].1 []) && !decide (ST[k] ∈ U)) from rfl)
        generalize freeB g U ST[k] = fr at *
        generalize ST[k] = s at *
        obtain ⟨s1, s2⟩ := s
        simp only at c1 c2 hs12 HFD
        obtain ⟨b5, off5, cp5, ra5, rc5, hve, c5, hrow⟩ := hgc0 _ hq s1 hs12.1
        simp only [Value.slice.injEq, true_and] at hve
        obtain ⟨rfl, rfl⟩ := hve
        have hrh := fun (W : World) (h : SlI S W .i64 (.slice ra5 (g.getD s1 []).length rc5) (g.getD s1 [])) => l1Has_any _ _ (s2 : Int) W h
        have hux := fun (W : World) (hb : Below w.heap.size w W) => hus W hb s1 s2
        clear hus hgb hgc0 HPS hsr HEA
        generalize g.getD s1 [] = row at *
        generalize decide ((s2 : Int) ∈ row) = d1 at *
        generalize decide (((s1, s2) : NP) ∈ U) = d2 at *
        cases d1 with
        | false =>
          have hfr := HFD.out
          rw [Bool.false_and] at hfr
          have HFR := Lib.hid hfr
          clear hfr
          go_wp2
          refine wp_region_held_drew (S := (fun w' => w'.cell? ⟨w.heap.size, 0, none⟩ = some (.slice (some ⟨b5, off5, none⟩) g.length gc) ∧ w'.cell? ⟨b, off + k, none⟩ = some (.slice (some ⟨rb, ro, none⟩) 2 rc) ∧ w'.cell? ⟨rb, ro, none⟩ = some (.int .i64 (s1 : Int)) ∧ w'.cell? ⟨rb, ro + 1, none⟩ = some (.int .i64 (s2 : Int)) ∧ w'.cell? ⟨b5, off5 + s1, none⟩ = some (.slice ra5 row.length rc5))) (by kernel_rfl) ?_ (fun hHeld => ?_)
          · first | exact ⟨‹_›, ‹_›, ‹_›, ‹_›, ‹_›⟩ | assumption | (simp [*, go_sem])
          have hqd := hq.drew
          have hqsd := hqs.drew
          have hrd := hrow.drew
          generalize wi.drew = wd at hqd hqsd hrd hHeld ⊢
          have hHeld2 := hHeld
          obtain ⟨cgd, -, -, -, -⟩ := hHeld2
          refine wpAnyH_take (i := 0) (v := ?v106) (by simp only [List.getElem?_toArray, List.getElem?_cons_zero]; exact rfl) (by kernel_rfl) (by kernel_rfl) (by kernel_rfl) (by intro _ _ _ h; exact h) (Or.inl ⟨by rfl, ?y106⟩) hHeld ?_
          case y106 => (intro w hSw; (try dsimp only at hSw); go_simp; try (with_reducible rfl))
          try simp only [Act.put, List.setIfInBounds_toArray, List.set_cons_zero, List.set_cons_succ]
          refine wpAnyH_take (i := 1) (v := ?v107) (by simp only [List.getElem?_toArray, List.getElem?_cons_succ, List.getElem?_cons_zero]; exact rfl) (by kernel_rfl) (by kernel_rfl) (by kernel_rfl) (by intro _ _ _ h; exact h) (Or.inl ⟨by rfl, ?y107⟩) hHeld ?_
          case y107 => (intro w hSw; (try dsimp only at hSw); go_simp; try (with_reducible rfl))
          try simp only [Act.put, List.setIfInBounds_toArray, List.set_cons_zero, List.set_cons_succ]
          refine wpAnyH_take (i := 2) (v := ?v108) (by simp only [List.getElem?_toArray, List.getElem?_cons_succ, List.getElem?_cons_zero]; exact rfl) (by kernel_rfl) (by kernel_rfl) (by kernel_rfl) (by intro _ _ _ h; exact h) (Or.inl ⟨by rfl, ?y108⟩) hHeld ?_
          case y108 => (intro w hSw; (try dsimp only at hSw); go_simp; try (with_reducible rfl))
          try simp only [Act.put, List.setIfInBounds_toArray, List.set_cons_zero, List.set_cons_succ]
          refine wpAnyH_take (i := 3) (v := ?v109) (by simp only [List.getElem?_toArray, List.getElem?_cons_succ, List.getElem?_cons_zero]; exact rfl) (by kernel_rfl) (by kernel_rfl) (by kernel_rfl) (by intro _ _ _ h; exact h) (Or.inl ⟨by rfl, ?y109⟩) hHeld ?_
          case y109 => (intro w hSw; (try dsimp only at hSw); go_simp; try (with_reducible rfl))
          try simp only [Act.put, List.setIfInBounds_toArray, List.set_cons_zero, List.set_cons_succ]
          refine wpAnyH_take (i := 4) (v := ?v110) (by simp only [List.getElem?_toArray, List.getElem?_cons_succ, List.getElem?_cons_zero]; exact rfl) (by kernel_rfl) (by kernel_rfl) (by kernel_rfl) (by intro _ _ _ h; exact h) (Or.inl ⟨by rfl, ?y110⟩) hHeld ?_
          case y110 => (intro w hSw; (try dsimp only at hSw); go_simp; try (with_reducible rfl))
          try simp only [Act.put, List.setIfInBounds_toArray, List.set_cons_zero, List.set_cons_succ]
          refine wpAnyH_take (i := 5) (v := ?v111) (by simp only [List.getElem?_toArray, List.getElem?_cons_succ, List.getElem?_cons_zero]; exact rfl) (by kernel_rfl) (by kernel_rfl) (by kernel_rfl) (by intro _ _ _ h; exact h) (Or.inl ⟨by rfl, ?y111⟩) hHeld ?_
          case y111 => (intro w hSw; (try dsimp only at hSw); go_simp; try (with_reducible rfl))
          try simp only [Act.put, List.setIfInBounds_toArray, List.set_cons_zero, List.set_cons_succ]
          refine wpAnyH_take (i := 6) (v := ?v112) (by simp only [List.getElem?_toArray, List.getElem?_cons_succ, List.getElem?_cons_zero]; exact rfl) (by kernel_rfl) (by kernel_rfl) (by kernel_rfl) (by intro _ _ _ h; exact h) (Or.inl ⟨by rfl, ?y112⟩) hHeld ?_
          case y112 => (intro w hSw; (try dsimp only at hSw); go_simp; try (with_reducible rfl))
          try simp only [Act.put, List.setIfInBounds_toArray, List.set_cons_zero, List.set_cons_succ]
          refine wpAnyH_take (i := 7) (v := ?v113) (by simp only [List.getElem?_toArray, List.getElem?_cons_succ, List.getElem?_cons_zero]; exact rfl) (by kernel_rfl) (by kernel_rfl) (by kernel_rfl) (by intro _ _ _ h; exact h) (Or.inl ⟨by rfl, ?y113⟩) hHeld ?_
          case y113 => (intro w hSw; (try dsimp only at hSw); go_simp; try (with_reducible rfl))
          try simp only [Act.put, List.setIfInBounds_toArray, List.set_cons_zero, List.set_cons_succ]
          refine wpAnyH_take (i := 8) (v := ?v114) (by simp only [List.getElem?_toArray, List.getElem?_cons_succ, List.getElem?_cons_zero]; exact rfl) (by kernel_rfl) (by kernel_rfl) (by kernel_rfl) (by intro _ _ _ h; exact h) (Or.inl ⟨by rfl, ?y114⟩) hHeld ?_
          case y114 => (intro w hSw; (try dsimp only at hSw); go_simp; try (with_reducible rfl))
          try simp only [Act.put, List.setIfInBounds_toArray, List.set_cons_zero, List.set_cons_succ]
          refine wpAnyH_take (i := 9) (v := ?v115) (by simp only [List.getElem?_toArray, List.getElem?_cons_succ, List.getElem?_cons_zero]; exact rfl) (by kernel_rfl) (by kernel_rfl) (by kernel_rfl) (by intro _ _ _ h; exact h) (Or.inl ⟨by rfl, ?y115⟩) hHeld ?_
          case y115 => (intro w hSw; (try dsimp only at hSw); go_simp; try (with_reducible rfl))
          try simp only [Act.put, List.setIfInBounds_toArray, List.set_cons_zero, List.set_cons_succ]
          refine wpAnyH_take (i := 10) (v := ?v116) (by simp only [List.getElem?_toArray, List.getElem?_cons_succ, List.getElem?_cons_zero]; exact rfl) (by kernel_rfl) (by kernel_rfl) (by kernel_rfl) (by intro _ _ _ h; exact h) (Or.inl ⟨by rfl, ?y116⟩) hHeld ?_
          case y116 => (intro w hSw; (try dsimp only at hSw); go_simp; try (with_reducible rfl))
          try simp only [Act.put, List.setIfInBounds_toArray, List.set_cons_zero, List.set_cons_succ]
          refine wpAnyH_take (i := 11) (v := ?v117) (by simp only [List.getElem?_toArray, List.getElem?_cons_succ, List.getElem?_cons_zero]; exact rfl) (by kernel_rfl) (by kernel_rfl) (by kernel_rfl) (by intro _ _ _ h; exact h) (Or.inl ⟨by rfl, ?y117⟩) hHeld ?_
          case y117 => (intro w hSw; (try dsimp only at hSw); go_simp; try (with_reducible rfl))
          try simp only [Act.put, List.setIfInBounds_toArray, List.set_cons_zero, List.set_cons_succ]
          refine wpAnyH_take (i := 12) (v := ?v118) (by simp only [List.getElem?_toArray, List.getElem?_cons_succ, List.getElem?_cons_zero]; exact rfl) (by kernel_rfl) (by kernel_rfl) (by kernel_rfl) (by intro _ _ _ h; exact h) (Or.inl ⟨by rfl, ?y118⟩) hHeld ?_
          case y118 => (intro w hSw; (try dsimp only at hSw); go_simp; try (with_reducible rfl))
          try simp only [Act.put, List.setIfInBounds_toArray, List.set_cons_zero, List.set_cons_succ]
          refine wpAnyH_take (i := 13) (v := ?v119) (by simp only [List.getElem?_toArray, List.getElem?_cons_succ, List.getElem?_cons_zero]; exact rfl) (by kernel_rfl) (by kernel_rfl) (by kernel_rfl) (by intro _ _ _ h; exact h) (Or.inl ⟨by rfl, ?y119⟩) hHeld ?_
          case y119 => (intro w hSw; (try dsimp only at hSw); go_simp; try (with_reducible rfl))
          try simp only [Act.put, List.setIfInBounds_toArray, List.set_cons_zero, List.set_cons_succ]
          refine wpAnyH_take (i := 14) (v := ?v120) (by simp only [List.getElem?_toArray, List.getElem?_cons_succ, List.getElem?_cons_zero]; exact rfl) (by kernel_rfl) (by kernel_rfl) (by kernel_rfl) (by intro _ _ _ h; exact h) (Or.inl ⟨by rfl, ?y120⟩) hHeld ?_
          case y120 => (intro w hSw; (try dsimp only at hSw); go_simp; try (with_reducible rfl))
          try simp only [Act.put, List.setIfInBounds_toArray, List.set_cons_zero, List.set_cons_succ]
          refine wpAnyH_take (i := 15) (v := ?v121) (by simp only [List.getElem?_toArray, List.getElem?_cons_succ, List.getElem?_cons_zero]; exact rfl) (by kernel_rfl) (by kernel_rfl) (by kernel_rfl) (by intro _ _ _ h; exact h) (Or.inl ⟨by rfl, ?y121⟩) hHeld ?_
          case y121 => (intro w hSw; (try dsimp only at hSw); go_simp; try (with_reducible rfl))
          try simp only [Act.put, List.setIfInBounds_toArray, List.set_cons_zero, List.set_cons_succ]
          refine wpAnyH_ready (rs := [16]) (by kernel_rfl) (by simp) ?_
          refine AllReadyH.cons (by simp only [List.getElem?_toArray, List.getElem?_cons_succ, List.getElem?_cons_zero]; exact rfl) (fun K hK => ?_) AllReadyH.nil
          go_simp
          (with_reducible refine (hrh _ hrd).mono ?_)
          rintro e wn ⟨rfl, rfl⟩
          try dsimp only
          refine hK.out _ _ ?h123 (fun hHeld => ?_)
          case h123 => first | exact ⟨‹_›, ‹_›, ‹_›, ‹_›, ‹_›⟩ | assumption | (simp [*, go_sem])
          clear hK K
          try simp only [Act.put, List.setIfInBounds_toArray, List.set_cons_zero, List.set_cons_succ]
          refine wpAnyH_take (i := 17) (v := ?v124) (by simp only [List.getElem?_toArray, List.getElem?_cons_succ, List.getElem?_cons_zero]; exact rfl) (by kernel_rfl) (by kernel_rfl) (by kernel_rfl) (by intro _ _ _ h; exact h) (Or.inl ⟨by rfl, ?y124⟩) hHeld ?_
          case y124 => (intro w hSw; (try dsimp only at hSw); go_simp; try (with_reducible rfl))
          try simp only [Act.put, List.setIfInBounds_toArray, List.set_cons_zero, List.set_cons_succ]
          refine wpAnyH_take (i := 18) (v := ?v125) (by simp only [List.getElem?_toArray, List.getElem?_cons_succ, List.getElem?_cons_zero]; exact rfl) (by kernel_rfl) (by kernel_rfl) (by kernel_rfl) (by intro _ _ _ h; exact h) (Or.inl ⟨by rfl, ?y125⟩) hHeld ?_
          case y125 => (intro w hSw; (try dsimp only at hSw); go_simp; try (with_reducible rfl))
          try simp only [Act.put, List.setIfInBounds_toArray, List.set_cons_zero, List.set_cons_succ]
          refine wpAnyH_take (i := 19) (by simp only [List.getElem?_toArray, List.getElem?_cons_succ, List.getElem?_cons_zero]; exact rfl) (by kernel_rfl) (by kernel_rfl) (by kernel_rfl) (by intro _ _ _ h; exact h) (Or.inr ⟨by rfl, rfl⟩) hHeld ?_
          try simp only [Act.put, List.setIfInBounds_toArray, List.set_cons_zero, List.set_cons_succ]
          refine wpAnyH_take (i := 20) (by simp only [List.getElem?_toArray, List.getElem?_cons_succ, List.getElem?_cons_zero]; exact rfl) (by kernel_rfl) (by kernel_rfl) (by kernel_rfl) (by intro _ _ _ h; exact h) (Or.inr ⟨by rfl, rfl⟩) hHeld ?_
          try simp only [Act.put, List.setIfInBounds_toArray, List.set_cons_zero, List.set_cons_succ]
          refine wpAnyH_take (i := 21) (by simp only [List.getElem?_toArray, List.getElem?_cons_succ, List.getElem?_cons_zero]; exact rfl) (by kernel_rfl) (by kernel_rfl) (by kernel_rfl) (by intro _ _ _ h; exact h) (Or.inr ⟨by rfl, rfl⟩) hHeld ?_
          try simp only [Act.put, List.setIfInBounds_toArray, List.set_cons_zero, List.set_cons_succ]
          refine wpAnyH_take (i := 22) (by simp only [List.getElem?_toArray, List.getElem?_cons_succ, List.getElem?_cons_zero]; exact rfl) (by kernel_rfl) (by kernel_rfl) (by kernel_rfl) (by intro _ _ _ h; exact h) (Or.inr ⟨by rfl, rfl⟩) hHeld ?_
          try simp only [Act.put, List.setIfInBounds_toArray, List.set_cons_zero, List.set_cons_succ]
          refine wpAnyH_take (i := 23) (by simp only [List.getElem?_toArray, List.getElem?_cons_succ, List.getElem?_cons_zero]; exact rfl) (by kernel_rfl) (by kernel_rfl) (by kernel_rfl) (by intro _ _ _ h; exact h) (Or.inr ⟨by rfl, rfl⟩) hHeld ?_
          try simp only [Act.put, List.setIfInBounds_toArray, List.set_cons_zero, List.set_cons_succ]
          refine wpAnyH_take (i := 24) (by simp only [List.getElem?_toArray, List.getElem?_cons_succ, List.getElem?_cons_zero]; exact rfl) (by kernel_rfl) (by kernel_rfl) (by kernel_rfl) (by intro _ _ _ h; exact h) (Or.inr ⟨by rfl, rfl⟩) hHeld ?_
          try simp only [Act.put, List.setIfInBounds_toArray, List.set_cons_zero, List.set_cons_succ]
          refine wpAnyH_take (i := 25) (by simp only [List.getElem?_toArray, List.getElem?_cons_succ, List.getElem?_cons_zero]; exact rfl) (by kernel_rfl) (by kernel_rfl) (by kernel_rfl) (by intro _ _ _ h; exact h) (Or.inr ⟨by rfl, rfl⟩) hHeld ?_
          try simp only [Act.put, List.setIfInBounds_toArray, List.set_cons_zero, List.set_cons_succ]
          refine wpAnyH_take (i := 26) (by simp only [List.getElem?_toArray, List.getElem?_cons_succ, List.getElem?_cons_zero]; exact rfl) (by kernel_rfl) (by kernel_rfl) (by kernel_rfl) (by intro _ _ _ h; exact h) (Or.inr ⟨by rfl, rfl⟩) hHeld ?_
          try simp only [Act.put, List.setIfInBounds_toArray, List.set_cons_zero, List.set_cons_succ]
          refine wpAnyH_take (i := 27) (by simp only [List.getElem?_toArray, List.getElem?_cons_succ, List.getElem?_cons_zero]; exact rfl) (by kernel_rfl) (by kernel_rfl) (by kernel_rfl) (by intro _ _ _ h; exact h) (Or.inr ⟨by rfl, rfl⟩) hHeld ?_
          try simp only [Act.put, List.setIfInBounds_toArray, List.set_cons_zero, List.set_cons_succ]
          refine wpAnyH_take (i := 28) (by simp only [List.getElem?_toArray, List.getElem?_cons_succ, List.getElem?_cons_zero]; exact rfl) (by kernel_rfl) (by kernel_rfl) (by kernel_rfl) (by intro _ _ _ h; exact h) (Or.inr ⟨by rfl, rfl⟩) hHeld ?_
          try simp only [Act.put, List.setIfInBounds_toArray, List.set_cons_zero, List.set_cons_succ]
          refine wpAnyH_take (i := 29) (by simp only [List.getElem?_toArray, List.getElem?_cons_succ, List.getElem?_cons_zero]; exact rfl) (by kernel_rfl) (by kernel_rfl) (by kernel_rfl) (by intro _ _ _ h; exact h) (Or.inr ⟨by rfl, rfl⟩) hHeld ?_
          try simp only [Act.put, List.setIfInBounds_toArray, List.set_cons_zero, List.set_cons_succ]
          refine wpAnyH_take (i := 30) (by simp only [List.getElem?_toArray, List.getElem?_cons_succ, List.getElem?_cons_zero]; exact rfl) (by kernel_rfl) (by kernel_rfl) (by kernel_rfl) (by intro _ _ _ h; exact h) (Or.inr ⟨by rfl, rfl⟩) hHeld ?_
          try simp only [Act.put, List.setIfInBounds_toArray, List.set_cons_zero, List.set_cons_succ]
          refine wpAnyH_take (i := 31) (by simp only [List.getElem?_toArray, List.getElem?_cons_succ, List.getElem?_cons_zero]; exact rfl) (by kernel_rfl) (by kernel_rfl) (by kernel_rfl) (by intro _ _ _ h; exact h) (Or.inr ⟨by rfl, rfl⟩) hHeld ?_
          try simp only [Act.put, List.setIfInBounds_toArray, List.set_cons_zero, List.set_cons_succ]
          refine wpAnyH_take (i := 32) (by simp only [List.getElem?_toArray, List.getElem?_cons_succ, List.getElem?_cons_zero]; exact rfl) (by kernel_rfl) (by kernel_rfl) (by kernel_rfl) (by intro _ _ _ h; exact h) (Or.inr ⟨by rfl, rfl⟩) hHeld ?_
          try simp only [Act.put, List.setIfInBounds_toArray, List.set_cons_zero, List.set_cons_succ]
          refine wpAnyH_take (i := 33) (v := ?v140) (by simp only [List.getElem?_toArray, List.getElem?_cons_succ, List.getElem?_cons_zero]; exact rfl) (by kernel_rfl) (by kernel_rfl) (by kernel_rfl) (by intro _ _ _ h; exact h) (Or.inl ⟨by rfl, ?y140⟩) hHeld ?_
          case y140 => (intro w hSw; (try dsimp only at hSw); go_simp; try (with_reducible rfl))
          try simp only [Act.put, List.setIfInBounds_toArray, List.set_cons_zero, List.set_cons_succ]
          refine wpAnyH_done (by kernel_rfl) ?_ _
          go_wp2
          go_ret
          exact ⟨ret_bool (HBAD.out HFR.out).symm, hqd⟩
        | true =>
          have hfr := HFD.out
          rw [Bool.true_and] at hfr
          have HFR := Lib.hid hfr
          clear hfr
          go_wp2
          refine wp_region_held_drew (S := (fun w' => w'.cell? ⟨w.heap.size, 0, none⟩ = some (.slice (some ⟨b5, off5, none⟩) g.length gc) ∧ w'.cell? ⟨b, off + k, none⟩ = some (.slice (some ⟨rb, ro, none⟩) 2 rc) ∧ w'.cell? ⟨rb, ro, none⟩ = some (.int .i64 (s1 : Int)) ∧ w'.cell? ⟨rb, ro + 1, none⟩ = some (.int .i64 (s2 : Int)) ∧ w'.cell? ⟨b5, off5 + s1, none⟩ = some (.slice ra5 row.length rc5))) (by kernel_rfl) ?_ (fun hHeld => ?_)
          · first | exact ⟨‹_›, ‹_›, ‹_›, ‹_›, ‹_›⟩ | assumption | (simp [*, go_sem])
          have hqd := hq.drew
          have hqsd := hqs.drew
          have hrd := hrow.drew
          generalize wi.drew = wd at hqd hqsd hrd hHeld ⊢
          have hHeld2 := hHeld
          obtain ⟨cgd, -, -, -, -⟩ := hHeld2
          refine wpAnyH_take (i := 0) (v := ?v141) (by simp only [List.getElem?_toArray, List.getElem?_cons_zero]; exact rfl) (by kernel_rfl) (by kernel_rfl) (by kernel_rfl) (by intro _ _ _ h; exact h) (Or.inl ⟨by rfl, ?y141⟩) hHeld ?_
          case y141 => (intro w hSw; (try dsimp only at hSw); go_simp; try (with_reducible rfl))
          try simp only [Act.put, List.setIfInBounds_toArray, List.set_cons_zero, List.set_cons_succ]
          refine wpAnyH_take (i := 1) (v := ?v142) (by simp only [List.getElem?_toArray, List.getElem?_cons_succ, List.getElem?_cons_zero]; exact rfl) (by kernel_rfl) (by kernel_rfl) (by kernel_rfl) (by intro _ _ _ h; exact h) (Or.inl ⟨by rfl, ?y142⟩) hHeld ?_
          case y142 => (intro w hSw; (try dsimp only at hSw); go_simp; try (with_reducible rfl))
          try simp only [Act.put, List.setIfInBounds_toArray, List.set_cons_zero, List.set_cons_succ]
          refine wpAnyH_take (i := 2) (v := ?v143) (by simp only [List.getElem?_toArray, List.getElem?_cons_succ, List.getElem?_cons_zero]; exact rfl) (by kernel_rfl) (by kernel_rfl) (by kernel_rfl) (by intro _ _ _ h; exact h) (Or.inl ⟨by rfl, ?y143⟩) hHeld ?_
          case y143 => (intro w hSw; (try dsimp only at hSw); go_simp; try (with_reducible rfl))
          try simp only [Act.put, List.setIfInBounds_toArray, List.set_cons_zero, List.set_cons_succ]
          refine wpAnyH_take (i := 3) (v := ?v144) (by simp only [List.getElem?_toArray, List.getElem?_cons_succ, List.getElem?_cons_zero]; exact rfl) (by kernel_rfl) (by kernel_rfl) (by kernel_rfl) (by intro _ _ _ h; exact h) (Or.inl ⟨by rfl, ?y144⟩) hHeld ?_
          case y144 => (intro w hSw; (try dsimp only at hSw); go_simp; try (with_reducible rfl))
          try simp only [Act.put, List.setIfInBounds_toArray, List.set_cons_zero, List.set_cons_succ]
          refine wpAnyH_take (i := 4) (v := ?v145) (by simp only [List.getElem?_toArray, List.getElem?_cons_succ, List.getElem?_cons_zero]; exact rfl) (by kernel_rfl) (by kernel_rfl) (by kernel_rfl) (by intro _ _ _ h; exact h) (Or.inl ⟨by rfl, ?y145⟩) hHeld ?_
          case y145 => (intro w hSw; (try dsimp only at hSw); go_simp; try (with_reducible rfl))
          try simp only [Act.put, List.setIfInBounds_toArray, List.set_cons_zero, List.set_cons_succ]
          refine wpAnyH_take (i := 5) (v := ?v146) (by simp only [List.getElem?_toArray, List.getElem?_cons_succ, List.getElem?_cons_zero]; exact rfl) (by kernel_rfl) (by kernel_rfl) (by kernel_rfl) (by intro _ _ _ h; exact h) (Or.inl ⟨by rfl, ?y146⟩) hHeld ?_
          case y146 => (intro w hSw; (try dsimp only at hSw); go_simp; try (with_reducible rfl))
          try simp only [Act.put, List.setIfInBounds_toArray, List.set_cons_zero, List.set_cons_succ]
          refine wpAnyH_take (i := 6) (v := ?v147) (by simp only [List.getElem?_toArray, List.getElem?_cons_succ, List.getElem?_cons_zero]; exact rfl) (by kernel_rfl) (by kernel_rfl) (by kernel_rfl) (by intro _ _ _ h; exact h) (Or.inl ⟨by rfl, ?y147⟩) hHeld ?_
          case y147 => (intro w hSw; (try dsimp only at hSw); go_simp; try (with_reducible rfl))
          try simp only [Act.put, List.setIfInBounds_toArray, List.set_cons_zero, List.set_cons_succ]
          refine wpAnyH_take (i := 7) (v := ?v148) (by simp only [List.getElem?_toArray, List.getElem?_cons_succ, List.getElem?_cons_zero]; exact rfl) (by kernel_rfl) (by kernel_rfl) (by kernel_rfl) (by intro _ _ _ h; exact h) (Or.inl ⟨by rfl, ?y148⟩) hHeld ?_
          case y148 => (intro w hSw; (try dsimp only at hSw); go_simp; try (with_reducible rfl))
          try simp only [Act.put, List.setIfInBounds_toArray, List.set_cons_zero, List.set_cons_succ]
          refine wpAnyH_take (i := 8) (v := ?v149) (by simp only [List.getElem?_toArray, List.getElem?_cons_succ, List.getElem?_cons_zero]; exact rfl) (by kernel_rfl) (by kernel_rfl) (by kernel_rfl) (by intro _ _ _ h; exact h) (Or.inl ⟨by rfl, ?y149⟩) hHeld ?_
          case y149 => (intro w hSw; (try dsimp only at hSw); go_simp; try (with_reducible rfl))
          try simp only [Act.put, List.setIfInBounds_toArray, List.set_cons_zero, List.set_cons_succ]
          refine wpAnyH_take (i := 9) (v := ?v150) (by simp only [List.getElem?_toArray, List.getElem?_cons_succ, List.getElem?_cons_zero]; exact rfl) (by kernel_rfl) (by kernel_rfl) (by kernel_rfl) (by intro _ _ _ h; exact h) (Or.inl ⟨by rfl, ?y150⟩) hHeld ?_
          case y150 => (intro w hSw; (try dsimp only at hSw); go_simp; try (with_reducible rfl))
          try simp only [Act.put, List.setIfInBounds_toArray, List.set_cons_zero, List.set_cons_succ]
          refine wpAnyH_take (i := 10) (v := ?v151) (by simp only [List.getElem?_toArray, List.getElem?_cons_succ, List.getElem?_cons_zero]; exact rfl) (by kernel_rfl) (by kernel_rfl) (by kernel_rfl) (by intro _ _ _ h; exact h) (Or.inl ⟨by rfl, ?y151⟩) hHeld ?_
          case y151 => (intro w hSw; (try dsimp only at hSw); go_simp; try (with_reducible rfl))
          try simp only [Act.put, List.setIfInBounds_toArray, List.set_cons_zero, List.set_cons_succ]
          refine wpAnyH_take (i := 11) (v := ?v152) (by simp only [List.getElem?_toArray, List.getElem?_cons_succ, List.getElem?_cons_zero]; exact rfl) (by kernel_rfl) (by kernel_rfl) (by kernel_rfl) (by intro _ _ _ h; exact h) (Or.inl ⟨by rfl, ?y152⟩) hHeld ?_
          case y152 => (intro w hSw; (try dsimp only at hSw); go_simp; try (with_reducible rfl))
          try simp only [Act.put, List.setIfInBounds_toArray, List.set_cons_zero, List.set_cons_succ]
          refine wpAnyH_take (i := 12) (v := ?v153) (by simp only [List.getElem?_toArray, List.getElem?_cons_succ, List.getElem?_cons_zero]; exact rfl) (by kernel_rfl) (by kernel_rfl) (by kernel_rfl) (by intro _ _ _ h; exact h) (Or.inl ⟨by rfl, ?y153⟩) hHeld ?_
          case y153 => (intro w hSw; (try dsimp only at hSw); go_simp; try (with_reducible rfl))
          try simp only [Act.put, List.setIfInBounds_toArray, List.set_cons_zero, List.set_cons_succ]
          refine wpAnyH_take (i := 13) (v := ?v154) (by simp only [List.getElem?_toArray, List.getElem?_cons_succ, List.getElem?_cons_zero]; exact rfl) (by kernel_rfl) (by kernel_rfl) (by kernel_rfl) (by intro _ _ _ h; exact h) (Or.inl ⟨by rfl, ?y154⟩) hHeld ?_
          case y154 => (intro w hSw; (try dsimp only at hSw); go_simp; try (with_reducible rfl))
          try simp only [Act.put, List.setIfInBounds_toArray, List.set_cons_zero, List.set_cons_succ]
          refine wpAnyH_take (i := 14) (v := ?v155) (by simp only [List.getElem?_toArray, List.getElem?_cons_succ, List.getElem?_cons_zero]; exact rfl) (by kernel_rfl) (by kernel_rfl) (by kernel_rfl) (by intro _ _ _ h; exact h) (Or.inl ⟨by rfl, ?y155⟩) hHeld ?_
          case y155 => (intro w hSw; (try dsimp only at hSw); go_simp; try (with_reducible rfl))
          try simp only [Act.put, List.setIfInBounds_toArray, List.set_cons_zero, List.set_cons_succ]
          refine wpAnyH_take (i := 15) (v := ?v156) (by simp only [List.getElem?_toArray, List.getElem?_cons_succ, List.getElem?_cons_zero]; exact rfl) (by kernel_rfl) (by kernel_rfl) (by kernel_rfl) (by intro _ _ _ h; exact h) (Or.inl ⟨by rfl, ?y156⟩) hHeld ?_
          case y156 => (intro w hSw; (try dsimp only at hSw); go_simp; try (with_reducible rfl))
          try simp only [Act.put, List.setIfInBounds_toArray, List.set_cons_zero, List.set_cons_succ]
          refine wpAnyH_ready (rs := [16]) (by kernel_rfl) (by simp) ?_
          refine AllReadyH.cons (by simp only [List.getElem?_toArray, List.getElem?_cons_succ, List.getElem?_cons_zero]; exact rfl) (fun K hK => ?_) AllReadyH.nil
          go_simp
          (with_reducible refine (hrh _ hrd).mono ?_)
          rintro e wn ⟨rfl, rfl⟩
          try dsimp only
          refine hK.out _ _ ?h158 (fun hHeld => ?_)
          case h158 => first | exact ⟨‹_›, ‹_›, ‹_›, ‹_›, ‹_›⟩ | assumption | (simp [*, go_sem])
          clear hK K
          try simp only [Act.put, List.setIfInBounds_toArray, List.set_cons_zero, List.set_cons_succ]
          refine wpAnyH_take (i := 17) (v := ?v159) (by simp only [List.getElem?_toArray, List.getElem?_cons_succ, List.getElem?_cons_zero]; exact rfl) (by kernel_rfl) (by kernel_rfl) (by kernel_rfl) (by intro _ _ _ h; exact h) (Or.inl ⟨by rfl, ?y159⟩) hHeld ?_
          case y159 => (intro w hSw; (try dsimp only at hSw); go_simp; try (with_reducible rfl))
          try simp only [Act.put, List.setIfInBounds_toArray, List.set_cons_zero, List.set_cons_succ]
          refine wpAnyH_take (i := 18) (v := ?v160) (by simp only [List.getElem?_toArray, List.getElem?_cons_succ, List.getElem?_cons_zero]; exact rfl) (by kernel_rfl) (by kernel_rfl) (by kernel_rfl) (by intro _ _ _ h; exact h) (Or.inl ⟨by rfl, ?y160⟩) hHeld ?_
          case y160 => (intro w hSw; (try dsimp only at hSw); go_simp; try (with_reducible rfl))
          try simp only [Act.put, List.setIfInBounds_toArray, List.set_cons_zero, List.set_cons_succ]
          refine wpAnyH_take (i := 19) (v := ?v161) (by simp only [List.getElem?_toArray, List.getElem?_cons_succ, List.getElem?_cons_zero]; exact rfl) (by kernel_rfl) (by kernel_rfl) (by kernel_rfl) (by intro _ _ _ h; exact h) (Or.inl ⟨by rfl, ?y161⟩) hHeld ?_
          case y161 => (intro w hSw; (try dsimp only at hSw); go_simp; try (with_reducible rfl))
          try simp only [Act.put, List.setIfInBounds_toArray, List.set_cons_zero, List.set_cons_succ]
          refine wpAnyH_take (i := 20) (v := ?v162) (by simp only [List.getElem?_toArray, List.getElem?_cons_succ, List.getElem?_cons_zero]; exact rfl) (by kernel_rfl) (by kernel_rfl) (by kernel_rfl) (by intro _ _ _ h; exact h) (Or.inl ⟨by rfl, ?y162⟩) hHeld ?_
          case y162 => (intro w hSw; (try dsimp only at hSw); go_simp; try (with_reducible rfl))
          try simp only [Act.put, List.setIfInBounds_toArray, List.set_cons_zero, List.set_cons_succ]
          refine wpAnyH_take (i := 21) (v := ?v163) (by simp only [List.getElem?_toArray, List.getElem?_cons_succ, List.getElem?_cons_zero]; exact rfl) (by kernel_rfl) (by kernel_rfl) (by kernel_rfl) (by intro _ _ _ h; exact h) (Or.inl ⟨by rfl, ?y163⟩) hHeld ?_
          case y163 => (intro w hSw; (try dsimp only at hSw); go_simp; try (with_reducible rfl))
          try simp only [Act.put, List.setIfInBounds_toArray, List.set_cons_zero, List.set_cons_succ]
          refine wpAnyH_take (i := 22) (v := ?v164) (by simp only [List.getElem?_toArray, List.getElem?_cons_succ, List.getElem?_cons_zero]; exact rfl) (by kernel_rfl) (by kernel_rfl) (by kernel_rfl) (by intro _ _ _ h; exact h) (Or.inl ⟨by rfl, ?y164⟩) hHeld ?_
          case y164 => (intro w hSw; (try dsimp only at hSw); go_simp; try (with_reducible rfl))
          try simp only [Act.put, List.setIfInBounds_toArray, List.set_cons_zero, List.set_cons_succ]
          refine wpAnyH_take (i := 23) (v := ?v165) (by simp only [List.getElem?_toArray, List.getElem?_cons_succ, List.getElem?_cons_zero]; exact rfl) (by kernel_rfl) (by kernel_rfl) (by kernel_rfl) (by intro _ _ _ h; exact h) (Or.inl ⟨by rfl, ?y165⟩) hHeld ?_
          case y165 => (intro w hSw; (try dsimp only at hSw); go_simp; try (with_reducible rfl))
          try simp only [Act.put, List.setIfInBounds_toArray, List.set_cons_zero, List.set_cons_succ]
          refine wpAnyH_take (i := 24) (v := ?v166) (by simp only [List.getElem?_toArray, List.getElem?_cons_succ, List.getElem?_cons_zero]; exact rfl) (by kernel_rfl) (by kernel_rfl) (by kernel_rfl) (by intro _ _ _ h; exact h) (Or.inl ⟨by rfl, ?y166⟩) hHeld ?_
          case y166 => (intro w hSw; (try dsimp only at hSw); go_simp; try (with_reducible rfl))
          try simp only [Act.put, List.setIfInBounds_toArray, List.set_cons_zero, List.set_cons_succ]
          refine wpAnyH_take (i := 25) (v := ?v167) (by simp only [List.getElem?_toArray, List.getElem?_cons_succ, List.getElem?_cons_zero]; exact rfl) (by kernel_rfl) (by kernel_rfl) (by kernel_rfl) (by intro _ _ _ h; exact h) (Or.inl ⟨by rfl, ?y167⟩) hHeld ?_
          case y167 => (intro w hSw; (try dsimp only at hSw); go_simp; try (with_reducible rfl))
          try simp only [Act.put, List.setIfInBounds_toArray, List.set_cons_zero, List.set_cons_succ]
          refine wpAnyH_take (i := 26) (v := ?v168) (by simp only [List.getElem?_toArray, List.getElem?_cons_succ, List.getElem?_cons_zero]; exact rfl) (by kernel_rfl) (by kernel_rfl) (by kernel_rfl) (by intro _ _ _ h; exact h) (Or.inl ⟨by rfl, ?y168⟩) hHeld ?_
          case y168 => (intro w hSw; (try dsimp only at hSw); go_simp; try (with_reducible rfl))
          try simp only [Act.put, List.setIfInBounds_toArray, List.set_cons_zero, List.set_cons_succ]
          refine wpAnyH_take (i := 27) (v := ?v169) (by simp only [List.getElem?_toArray, List.getElem?_cons_succ, List.getElem?_cons_zero]; exact rfl) (by kernel_rfl) (by kernel_rfl) (by kernel_rfl) (by intro _ _ _ h; exact h) (Or.inl ⟨by rfl, ?y169⟩) hHeld ?_
          case y169 => (intro w hSw; (try dsimp only at hSw); go_simp; try (with_reducible rfl))
          try simp only [Act.put, List.setIfInBounds_toArray, List.set_cons_zero, List.set_cons_succ]
          refine wpAnyH_take (i := 28) (v := ?v170) (by simp only [List.getElem?_toArray, List.getElem?_cons_succ, List.getElem?_cons_zero]; exact rfl) (by kernel_rfl) (by kernel_rfl) (by kernel_rfl) (by intro _ _ _ h; exact h) (Or.inl ⟨by rfl, ?y170⟩) hHeld ?_
          case y170 => (intro w hSw; (try dsimp only at hSw); go_simp; try (with_reducible rfl))
          try simp only [Act.put, List.setIfInBounds_toArray, List.set_cons_zero, List.set_cons_succ]
          refine wpAnyH_take (i := 29) (v := ?v171) (by simp only [List.getElem?_toArray, List.getElem?_cons_succ, List.getElem?_cons_zero]; exact rfl) (by kernel_rfl) (by kernel_rfl) (by kernel_rfl) (by intro _ _ _ h; exact h) (Or.inl ⟨by rfl, ?y171⟩) hHeld ?_
          case y171 => (intro w hSw; (try dsimp only at hSw); go_simp; try (with_reducible rfl))
          try simp only [Act.put, List.setIfInBounds_toArray, List.set_cons_zero, List.set_cons_succ]
          refine wpAnyH_take (i := 30) (v := ?v172) (by simp only [List.getElem?_toArray, List.getElem?_cons_succ, List.getElem?_cons_zero]; exact rfl) (by kernel_rfl) (by kernel_rfl) (by kernel_rfl) (by intro _ _ _ h; exact h) (Or.inl ⟨by rfl, ?y172⟩) hHeld ?_
          case y172 => (intro w hSw; (try dsimp only at hSw); go_simp; try (with_reducible rfl))
          try simp only [Act.put, List.setIfInBounds_toArray, List.set_cons_zero, List.set_cons_succ]
          refine wpAnyH_take (i := 31) (v := ?v173) (by simp only [List.getElem?_toArray, List.getElem?_cons_succ, List.getElem?_cons_zero]; exact rfl) (by kernel_rfl) (by kernel_rfl) (by kernel_rfl) (by intro _ _ _ h; exact h) (Or.inl ⟨by rfl, ?y173⟩) hHeld ?_
          case y173 => (intro w hSw; (try dsimp only at hSw); go_simp; try (with_reducible rfl))
          try simp only [Act.put, List.setIfInBounds_toArray, List.set_cons_zero, List.set_cons_succ]
          refine wpAnyH_ready (rs := [32]) (by kernel_rfl) (by simp) ?_
          refine AllReadyH.cons (by simp only [List.getElem?_toArray, List.getElem?_cons_succ, List.getElem?_cons_zero]; exact rfl) (fun K hK => ?_) AllReadyH.nil
          go_simp
          (with_reducible refine (hux _ hqd).mono ?_)
          rintro e wn ⟨rfl, rfl⟩
          try dsimp only
          refine hK.out _ _ ?h175 (fun hHeld => ?_)
          case h175 => first | exact ⟨‹_›, ‹_›, ‹_›, ‹_›, ‹_›⟩ | assumption | (simp [*, go_sem])
          clear hK K
          try simp only [Act.put, List.setIfInBounds_toArray, List.set_cons_zero, List.set_cons_succ]
          refine wpAnyH_take (i := 33) (v := ?v176) (by simp only [List.getElem?_toArray, List.getElem?_cons_succ, List.getElem?_cons_zero]; exact rfl) (by kernel_rfl) (by kernel_rfl) (by kernel_rfl) (by intro _ _ _ h; exact h) (Or.inl ⟨by rfl, ?y176⟩) hHeld ?_
          case y176 => (intro w hSw; (try dsimp only at hSw); go_simp; try (with_reducible rfl))
          try simp only [Act.put, List.setIfInBounds_toArray, List.set_cons_zero, List.set_cons_succ]
          refine wpAnyH_done (by kernel_rfl) ?_ _
          cases d2 with
          | true =>
            have HFR2 := Lib.hid (show fr = false from HFR.out)
            go_wp2
            go_ret
            exact ⟨ret_bool (HBAD.out HFR2.out).symm, hqd⟩
          | false =>
            have HFR2 := Lib.hid (show fr = true from HFR.out)
            go_wp2
            go_roundw
            case rel => exact ⟨k + 1, by omega, by go_num, Lib.hid (HNX.out HFR2.out), hqd, hqsd, cgd⟩
            case measure => simp [intOf]; omega
theorem maskL_natsI {p : List Nat} {k : Nat} (hk : k < p.length) : maskL ((natsI p).take (k + 1)) = maskL ((natsI p).take k) ||| bit (p.getD k 0) := by
  rw [maskL_take (by rw [natsI_len]; exact hk), natsI_at _ hk, Int.toNat_natCast]; simp [hk]
set_option maxRecDepth 100000 in
set_option maxHeartbeats 8000000 in
theorem l19UseK_any {S : Nat → Prop} {B m : Nat} {ev mv uv : Value} {p : List Nat} {U : List NP} {w : World} (he : SlI S w .i64 ev (natsI p)) (hp1 : 1 ≤ p.length) (hp : ∀ a ∈ p, a < 16) (hp32 : p.length ≤ 32) (hm32 : m < 65536) (hmv : OwnB w B 2 mv m) (huv : OwnS w B 51 uv (rowsP U)) (hU : U.length ≤ 4096) (hB : B ≤ w.heap.size) :
    Calls Tryd.prog 67 #[ev, mv, uv] w fun e w' => ∃ mv' uv', e = .returned (.tuple #[mv', uv']) ∧ OwnB w' B 2 mv' (m ||| maskL (natsI p)) ∧ OwnS w' B 51 uv' (rowsP (useU U (stepsN p (m == 0)))) ∧ Below B w w' ∧ ∀ b, b < w.heap.size → uv.ownBlock ≠ some b → w'.heap[b]? = w.heap[b]? := by
  have hmz : (bitsI m).length = 0 ↔ m = 0 := by rw [← bitsI_nil (show m < 4294967296 by omega)]; exact List.length_eq_zero_iff
  have hml := bitsI_len m
  have hf1 : (((bitsI m).length : Int) == 0) = (m == 0) := by rw [Bool.eq_iff_iff, beq_iff_eq, beq_iff_eq, ← hmz]; omega
  have hf2 : ((bitsI m).length == 0) = (m == 0) := by rw [Bool.eq_iff_iff, beq_iff_eq, beq_iff_eq, ← hmz]
  have hsl := stepsN_len p (m == 0)
  have hsl2 : (stepsN p (m == 0)).length ≤ 64 := by rw [hsl]; split <;> omega
  have hst := l19Steps_any (c := (m == 0)) he hp1 hp32
  generalize (m == 0) = fb at *
  generalize stepsN p fb = ST at *
  obtain ⟨ma, mc, rfl⟩ := hmv.isSlice
  obtain ⟨eb, eo, ecap, hee, hec⟩ := he.at_
  have hee := hee (by rw [natsI_len]; omega)
  subst hee
  rw [natsI_len] at *
  obtain ⟨ua, uc, rfl⟩ := huv.isSlice
  simp only [rowsP_len] at *
  have hec0 : ∀ W : World, Below w.heap.size w W → ∀ i, i < p.length → W.cell? ⟨eb, eo + i, none⟩ = some (.int .i64 ((p.getD i 0 : Nat) : Int)) := fun W hb i hi => by
    have h := hec i (by rw [natsI_len]; exact hi)
    refine ((hb.cell (p := ⟨eb, eo + i, none⟩) (cell_lt h)).trans h).trans ?_
    simp [natsI, hi]
  have hp16 : ∀ i, i < p.length → p.getD i 0 < 16 := fun i hi => by
    have : p.getD i 0 = p[i] := by simp [hi]
    rw [this]; exact hp _ (List.getElem_mem _)
  have hmk : ∀ k, m ||| maskL ((natsI p).take k) < 65536 := fun k => by
    have : maskL ((natsI p).take k) < 2 ^ 16 := maskL_lt fun x hx => by
      obtain ⟨a, ha, rfl⟩ := List.mem_map.1 (List.mem_of_mem_take hx)
      have := hp a ha; omega
    exact Nat.or_lt_two_pow (n := 16) hm32 this
  have hm0 : m ||| maskL ((natsI p).take 0) = m := by simp [maskL]
  have HEC := Lib.hid hec0
  have HP16 := Lib.hid hp16
  have HMK := Lib.hid hmk
  clear hec hsl hmz hec0 hp16 hmk
  go_enter Tryd.func67, Tryd.ntmps67
  go_wp2_with fail
  refine hst.mono ?_
  rintro e w1 ⟨su, rfl, hsu, hb1⟩
  have hsr0 := hsu.rowsB (by rw [rowsP_len]; omega)
  obtain ⟨sa, sc, rfl⟩ := hsr0.slice
  simp only [rowsP_len] at *
  have hmv1 : OwnB w1 B 2 (.slice ma (bitsI m).length mc) (m ||| maskL ((natsI p).take 0)) := by rw [hm0]; exact hmv.below hb1 (Nat.le_refl _)
  clear hst hsu hm0
  go_wp2
  go_loopw [1, 9] (fun v i wr => ∃ k : Nat, k ≤ p.length ∧ i = .int .i64 k ∧ OwnB wr B 2 v (m ||| maskL ((natsI p).take k)) ∧ Below w1.heap.size w1 wr) (fun _ i _ => p.length - (intOf i).toNat)
  case atStart => exact ⟨0, Nat.zero_le _, rfl, hmv1, Below.refl _ _⟩
  case round =>
    clear hmv1
    obtain ⟨k, hk, rfl, hv, hq1⟩ := hrel
    obtain ⟨wi, rfl⟩ : ∃ wx : World, wx = wr := ⟨_, rfl⟩
    have hq := hb1.trans (hq1.mono hb1.size)
    by_cases hlt : k < p.length
    case pos =>
      have ca := HEC.out _ hq k hlt
      have hy := HP16.out k hlt
      have HM := Lib.hid (show m ||| maskL ((natsI p).take (k + 1)) = m ||| maskL ((natsI p).take k) ||| bit (p.getD k 0) by rw [maskL_natsI hlt, Nat.or_assoc])
      have hm2 := HMK.out k
      have hBi : B ≤ wi.heap.size := Nat.le_trans hB hq.size
      generalize p.getD k 0 = y at *
      generalize m ||| maskL ((natsI p).take k) = M at *
      obtain ⟨va, vc, rfl⟩ := hv.isSlice
      go_wp2_with fail
      refine (intoB_any (x := y) hv hBi (by omega) (by omega)).mono ?_
      rintro e w2 ⟨v2, rfl, hv2, hb2⟩
      go_wp2
      go_roundw
      case rel => exact ⟨k + 1, by omega, by go_num, by rw [HM.out]; exact hv2, hq1.trans (hb2.mono hq1.size)⟩
      case measure => simp [intOf]; omega
    obtain rfl : k = p.length := by omega
    rw [List.take_of_length_le (by rw [natsI_len]; exact Nat.le_refl _)] at hv
    have hu0 : OwnS wi B 51 (.slice ua U.length uc) (rowsP (useU U (ST.take 0))) := by rw [List.take_zero, useU_nil]; exact huv.below hq (Nat.le_refl _)
    have hs0 : SlR (Off1 wi (.slice ua U.length uc)) wi (.slice sa ST.length sc) (rowsP ST) := (hsr0.below hq1 (Nat.le_refl _)).weak fun b hb => ⟨Nat.lt_of_lt_of_le hb.2 hq1.size, fun e => by
      obtain ⟨vs, _, ho, _⟩ := huv
      have := (ho.lt b e).2; have := hb.1; omega⟩
    have hqB := hq.mono hB
    generalize hMM : m ||| maskL (natsI p) = M at *
    have HMM := Lib.hid hMM
    clear hMM
    obtain ⟨va, vc, rfl⟩ := hv.isSlice
    have HK1 : RowKit.Hid (∀ b, b < w.heap.size → (Value.slice ua U.length uc).ownBlock ≠ some b → wi.heap[b]? = w.heap[b]?) := Lib.hid (fun b hb _ => hq.block b hb)
    have HK2 : RowKit.Hid (∀ b, (Value.slice ua U.length uc).ownBlock = some b → (Value.slice ua U.length uc).ownBlock = some b ∨ w.heap.size ≤ b) := Lib.hid (fun b hb => .inl hb)
    clear hq1 hsr0 hq
    go_wp2
    go_loopw [2, 10] (fun u i wr => ∃ k : Nat, k ≤ ST.length ∧ i = .int .i64 k ∧ OwnS wr B 51 u (rowsP (useU U (ST.take k))) ∧ SlR (Off1 wr u) wr (.slice sa ST.length sc) (rowsP ST) ∧ OwnB wr B 2 (.slice va (bitsI M).length vc) M ∧ Below B w wr ∧ RowKit.Hid (∀ b, b < w.heap.size → (Value.slice ua U.length uc).ownBlock ≠ some b → wr.heap[b]? = w.heap[b]?) ∧ RowKit.Hid (∀ b, u.ownBlock = some b → (Value.slice ua U.length uc).ownBlock = some b ∨ w.heap.size ≤ b)) (fun _ i _ => ST.length - (intOf i).toNat)
    case atStart => exact ⟨0, Nat.zero_le _, rfl, hu0, hs0, hv, hqB, HK1, HK2⟩
    case round =>
      clear hu0 hs0 hv hqB HK1 HK2
      obtain ⟨k, hk, rfl, hu, hs, hv, hq, HK1, HK2⟩ := hrel
      obtain ⟨wi, rfl⟩ : ∃ wx : World, wx = wr := ⟨_, rfl⟩
      obtain ⟨oa, oc, rfl⟩ := hu.isSlice
      by_cases hlt : k < ST.length
      case neg =>
        obtain rfl : k = ST.length := by omega
        have hu2 : OwnS wi B 51 (.slice oa (rowsP (useU U (ST.take ST.length))).length oc) (rowsP (useU U ST)) := by have h := hu; rw [List.take_length] at h ⊢; exact h
        go_wp2
        go_ret2
        exact ⟨.slice va (bitsI M).length vc, .slice oa (rowsP (useU U (ST.take ST.length))).length oc, rfl, by rw [HMM.out]; exact hv, hu2, hq, HK1.out⟩
      obtain ⟨b, off, cap, rb, ro, rc, hve, c0, c1, c2, hSb, hSr⟩ := hs.pairS hlt
      simp only [Value.slice.injEq, true_and] at hve
      obtain ⟨rfl, rfl⟩ := hve
      have HT := Lib.hid (show rowsP (useU U (ST.take (k + 1))) = rowsP (useU U (ST.take k)) ++ [[(ST[k].1 : Int), (ST[k].2 : Int)], [(ST[k].2 : Int), (ST[k].1 : Int)]] by rw [useU_take hlt, rowsP_app]; rfl)
      have hFl : (rowsP (useU U (ST.take k))).length ≤ 8192 := by rw [rowsP_len, useU_len, List.length_take]; omega
      generalize rowsP (useU U (ST.take k)) = F at *
      generalize ST[k] = s at *
      obtain ⟨y, z⟩ := s
      simp only at c1 c2 HT
      have hBi : B ≤ wi.heap.size := Nat.le_trans hB hq.size
      go_wp2
      refine wp_region_held_drew (S := (fun w' => w'.cell? ⟨b, off + k, none⟩ = some (.slice (some ⟨rb, ro, none⟩) 2 rc) ∧ w'.cell? ⟨rb, ro, none⟩ = some (.int .i64 (y : Int)) ∧ w'.cell? ⟨rb, ro + 1, none⟩ = some (.int .i64 (z : Int)))) (by kernel_rfl) ?_ (fun hHeld => ?_)
      · first | exact ⟨‹_›, ‹_›, ‹_›⟩ | assumption | (simp [*, go_sem])
      have hdb := (Below.refl wi.heap.size wi).drew
      have hqd := hq.drew
      have hud := hu.below hdb (Nat.le_refl _)
      have hsd := hs.offBelow hdb
      have hvd := hv.below hdb (Nat.le_refl _)
      have hSbd : Off1 wi.drew (.slice oa F.length oc) b := hSb
      have hSrd : Off1 wi.drew (.slice oa F.length oc) rb := hSr
      have hBd : B ≤ wi.drew.heap.size := hBi
      have hws : w.heap.size ≤ wi.drew.heap.size := hq.size
      have HKd : RowKit.Hid (∀ b, b < w.heap.size → (Value.slice ua U.length uc).ownBlock ≠ some b → wi.drew.heap[b]? = w.heap[b]?) := HK1
      generalize wi.drew = wd at hqd hud hsd hvd hSbd hSrd hBd hHeld hws HKd ⊢
      obtain ⟨N, hN⟩ : ∃ n, n = wd.heap.size := ⟨_, rfl⟩
      have hob : ∀ x, (Value.slice oa F.length oc).ownBlock = some x → x < N := (by obtain ⟨_, _, ho, _⟩ := hud; intro x hx; rw [hN]; exact (ho.lt x hx).2)
      have hNl : N ≤ wd.heap.size := Nat.le_of_eq hN
      have hBN : B ≤ N := by omega
      clear hN
      have hHeld2 := hHeld
      obtain ⟨d0, d1, d2⟩ := hHeld2
      refine wpAnyH_take (i := 0) (v := ?v177) (by simp only [List.getElem?_toArray, List.getElem?_cons_zero]; exact rfl) (by kernel_rfl) (by kernel_rfl) (by kernel_rfl) (by intro _ _ _ h; exact h) (Or.inl ⟨by rfl, ?y177⟩) hHeld ?_
      case y177 => (intro w hSw; (try dsimp only at hSw); go_simp; try (with_reducible rfl))
      try simp only [Act.put, List.setIfInBounds_toArray, List.set_cons_zero, List.set_cons_succ]
      refine wpAnyH_take (i := 1) (v := ?v178) (by simp only [List.getElem?_toArray, List.getElem?_cons_succ, List.getElem?_cons_zero]; exact rfl) (by kernel_rfl) (by kernel_rfl) (by kernel_rfl) (by intro _ _ _ h; exact h) (Or.inl ⟨by rfl, ?y178⟩) hHeld ?_
      case y178 => (intro w hSw; (try dsimp only at hSw); go_simp; try (with_reducible rfl))
      try simp only [Act.put, List.setIfInBounds_toArray, List.set_cons_zero, List.set_cons_succ]
      refine wpAnyH_take (i := 2) (v := ?v179) (by simp only [List.getElem?_toArray, List.getElem?_cons_succ, List.getElem?_cons_zero]; exact rfl) (by kernel_rfl) (by kernel_rfl) (by kernel_rfl) (by intro _ _ _ h; exact h) (Or.inl ⟨by rfl, ?y179⟩) hHeld ?_
      case y179 => (intro w hSw; (try dsimp only at hSw); go_simp; try (with_reducible rfl))
      try simp only [Act.put, List.setIfInBounds_toArray, List.set_cons_zero, List.set_cons_succ]
      refine wpAnyH_take (i := 3) (v := ?v180) (by simp only [List.getElem?_toArray, List.getElem?_cons_succ, List.getElem?_cons_zero]; exact rfl) (by kernel_rfl) (by kernel_rfl) (by kernel_rfl) (by intro _ _ _ h; exact h) (Or.inl ⟨by rfl, ?y180⟩) hHeld ?_
      case y180 => (intro w hSw; (try dsimp only at hSw); go_simp; try (with_reducible rfl))
      try simp only [Act.put, List.setIfInBounds_toArray, List.set_cons_zero, List.set_cons_succ]
      refine wpAnyH_take (i := 4) (v := ?v181) (by simp only [List.getElem?_toArray, List.getElem?_cons_succ, List.getElem?_cons_zero]; exact rfl) (by kernel_rfl) (by kernel_rfl) (by kernel_rfl) (by intro _ _ _ h; exact h) (Or.inl ⟨by rfl, ?y181⟩) hHeld ?_
      case y181 => (intro w hSw; (try dsimp only at hSw); go_simp; try (with_reducible rfl))
      try simp only [Act.put, List.setIfInBounds_toArray, List.set_cons_zero, List.set_cons_succ]
      refine wpAnyH_take (i := 5) (v := ?v182) (by simp only [List.getElem?_toArray, List.getElem?_cons_succ, List.getElem?_cons_zero]; exact rfl) (by kernel_rfl) (by kernel_rfl) (by kernel_rfl) (by intro _ _ _ h; exact h) (Or.inl ⟨by rfl, ?y182⟩) hHeld ?_
      case y182 => (intro w hSw; (try dsimp only at hSw); go_simp; try (with_reducible rfl))
      try simp only [Act.put, List.setIfInBounds_toArray, List.set_cons_zero, List.set_cons_succ]
      refine wpAnyH_take (i := 6) (v := ?v183) (by simp only [List.getElem?_toArray, List.getElem?_cons_succ, List.getElem?_cons_zero]; exact rfl) (by kernel_rfl) (by kernel_rfl) (by kernel_rfl) (by intro _ _ _ h; exact h) (Or.inl ⟨by rfl, ?y183⟩) hHeld ?_
      case y183 => (intro w hSw; (try dsimp only at hSw); go_simp; try (with_reducible rfl))
      try simp only [Act.put, List.setIfInBounds_toArray, List.set_cons_zero, List.set_cons_succ]
      refine wpAnyH_take (i := 7) (v := ?v184) (by simp only [List.getElem?_toArray, List.getElem?_cons_succ, List.getElem?_cons_zero]; exact rfl) (by kernel_rfl) (by kernel_rfl) (by kernel_rfl) (by intro _ _ _ h; exact h) (Or.inl ⟨by rfl, ?y184⟩) hHeld ?_
      case y184 => (intro w hSw; (try dsimp only at hSw); go_simp; try (with_reducible rfl))
      try simp only [Act.put, List.setIfInBounds_toArray, List.set_cons_zero, List.set_cons_succ]
      refine wpAnyH_take (i := 8) (v := ?v185) (by simp only [List.getElem?_toArray, List.getElem?_cons_succ, List.getElem?_cons_zero]; exact rfl) (by kernel_rfl) (by kernel_rfl) (by kernel_rfl) (by intro _ _ _ h; exact h) (Or.inl ⟨by rfl, ?y185⟩) hHeld ?_
      case y185 => (intro w hSw; (try dsimp only at hSw); go_simp; try (with_reducible rfl))
      try simp only [Act.put, List.setIfInBounds_toArray, List.set_cons_zero, List.set_cons_succ]
      refine wpAnyH_take (i := 9) (v := ?v186) (by simp only [List.getElem?_toArray, List.getElem?_cons_succ, List.getElem?_cons_zero]; exact rfl) (by kernel_rfl) (by kernel_rfl) (by kernel_rfl) (by intro _ _ _ h; exact h) (Or.inl ⟨by rfl, ?y186⟩) hHeld ?_
      case y186 => (intro w hSw; (try dsimp only at hSw); go_simp; try (with_reducible rfl))
      try simp only [Act.put, List.setIfInBounds_toArray, List.set_cons_zero, List.set_cons_succ]
      refine wpAnyH_take (i := 10) (v := ?v187) (by simp only [List.getElem?_toArray, List.getElem?_cons_succ, List.getElem?_cons_zero]; exact rfl) (by kernel_rfl) (by kernel_rfl) (by kernel_rfl) (by intro _ _ _ h; exact h) (Or.inl ⟨by rfl, ?y187⟩) hHeld ?_
      case y187 => (intro w hSw; (try dsimp only at hSw); go_simp; try (with_reducible rfl))
      try simp only [Act.put, List.setIfInBounds_toArray, List.set_cons_zero, List.set_cons_succ]
      refine wpAnyH_take (i := 11) (v := ?v188) (by simp only [List.getElem?_toArray, List.getElem?_cons_succ, List.getElem?_cons_zero]; exact rfl) (by kernel_rfl) (by kernel_rfl) (by kernel_rfl) (by intro _ _ _ h; exact h) (Or.inl ⟨by rfl, ?y188⟩) hHeld ?_
      case y188 => (intro w hSw; (try dsimp only at hSw); go_simp; try (with_reducible rfl))
      try simp only [Act.put, List.setIfInBounds_toArray, List.set_cons_zero, List.set_cons_succ]
      refine wpAnyH_take (i := 12) (v := ?v189) (by simp only [List.getElem?_toArray, List.getElem?_cons_succ, List.getElem?_cons_zero]; exact rfl) (by kernel_rfl) (by kernel_rfl) (by kernel_rfl) (by intro _ _ _ h; exact h) (Or.inl ⟨by rfl, ?y189⟩) hHeld ?_
      case y189 => (intro w hSw; (try dsimp only at hSw); go_simp; try (with_reducible rfl))
      try simp only [Act.put, List.setIfInBounds_toArray, List.set_cons_zero, List.set_cons_succ]
      refine wpAnyH_take (i := 14) (v := ?v190) (by simp only [List.getElem?_toArray, List.getElem?_cons_succ, List.getElem?_cons_zero]; exact rfl) (by kernel_rfl) (by kernel_rfl) (by kernel_rfl) (by intro _ _ _ h; exact h) (Or.inl ⟨by rfl, ?y190⟩) hHeld ?_
      case y190 => (intro w hSw; (try dsimp only at hSw); go_simp; try (with_reducible rfl))
      try simp only [Act.put, List.setIfInBounds_toArray, List.set_cons_zero, List.set_cons_succ]
      refine wpAnyH_take (i := 15) (v := ?v191) (by simp only [List.getElem?_toArray, List.getElem?_cons_succ, List.getElem?_cons_zero]; exact rfl) (by kernel_rfl) (by kernel_rfl) (by kernel_rfl) (by intro _ _ _ h; exact h) (Or.inl ⟨by rfl, ?y191⟩) hHeld ?_
      case y191 => (intro w hSw; (try dsimp only at hSw); go_simp; try (with_reducible rfl))
      try simp only [Act.put, List.setIfInBounds_toArray, List.set_cons_zero, List.set_cons_succ]
      refine wpAnyH_take (i := 16) (v := ?v192) (by simp only [List.getElem?_toArray, List.getElem?_cons_succ, List.getElem?_cons_zero]; exact rfl) (by kernel_rfl) (by kernel_rfl) (by kernel_rfl) (by intro _ _ _ h; exact h) (Or.inl ⟨by rfl, ?y192⟩) hHeld ?_
      case y192 => (intro w hSw; (try dsimp only at hSw); go_simp; try (with_reducible rfl))
      try simp only [Act.put, List.setIfInBounds_toArray, List.set_cons_zero, List.set_cons_succ]
      refine wpAnyH_take (i := 17) (v := ?v193) (by simp only [List.getElem?_toArray, List.getElem?_cons_succ, List.getElem?_cons_zero]; exact rfl) (by kernel_rfl) (by kernel_rfl) (by kernel_rfl) (by intro _ _ _ h; exact h) (Or.inl ⟨by rfl, ?y193⟩) hHeld ?_
      case y193 => (intro w hSw; (try dsimp only at hSw); go_simp; try (with_reducible rfl))
      try simp only [Act.put, List.setIfInBounds_toArray, List.set_cons_zero, List.set_cons_succ]
      refine wpAnyH_take (i := 18) (v := ?v194) (by simp only [List.getElem?_toArray, List.getElem?_cons_succ, List.getElem?_cons_zero]; exact rfl) (by kernel_rfl) (by kernel_rfl) (by kernel_rfl) (by intro _ _ _ h; exact h) (Or.inl ⟨by rfl, ?y194⟩) hHeld ?_
      case y194 => (intro w hSw; (try dsimp only at hSw); go_simp; try (with_reducible rfl))
      try simp only [Act.put, List.setIfInBounds_toArray, List.set_cons_zero, List.set_cons_succ]
      refine wpAnyH_take (i := 19) (v := ?v195) (by simp only [List.getElem?_toArray, List.getElem?_cons_succ, List.getElem?_cons_zero]; exact rfl) (by kernel_rfl) (by kernel_rfl) (by kernel_rfl) (by intro _ _ _ h; exact h) (Or.inl ⟨by rfl, ?y195⟩) hHeld ?_
      case y195 => (intro w hSw; (try dsimp only at hSw); go_simp; try (with_reducible rfl))
      try simp only [Act.put, List.setIfInBounds_toArray, List.set_cons_zero, List.set_cons_succ]
      refine wpAnyH_take (i := 20) (v := ?v196) (by simp only [List.getElem?_toArray, List.getElem?_cons_succ, List.getElem?_cons_zero]; exact rfl) (by kernel_rfl) (by kernel_rfl) (by kernel_rfl) (by intro _ _ _ h; exact h) (Or.inl ⟨by rfl, ?y196⟩) hHeld ?_
      case y196 => (intro w hSw; (try dsimp only at hSw); go_simp; try (with_reducible rfl))
      try simp only [Act.put, List.setIfInBounds_toArray, List.set_cons_zero, List.set_cons_succ]
      refine wpAnyH_take (i := 21) (v := ?v197) (by simp only [List.getElem?_toArray, List.getElem?_cons_succ, List.getElem?_cons_zero]; exact rfl) (by kernel_rfl) (by kernel_rfl) (by kernel_rfl) (by intro _ _ _ h; exact h) (Or.inl ⟨by rfl, ?y197⟩) hHeld ?_
      case y197 => (intro w hSw; (try dsimp only at hSw); go_simp; try (with_reducible rfl))
      try simp only [Act.put, List.setIfInBounds_toArray, List.set_cons_zero, List.set_cons_succ]
      refine wpAnyH_take (i := 22) (v := ?v198) (by simp only [List.getElem?_toArray, List.getElem?_cons_succ, List.getElem?_cons_zero]; exact rfl) (by kernel_rfl) (by kernel_rfl) (by kernel_rfl) (by intro _ _ _ h; exact h) (Or.inl ⟨by rfl, ?y198⟩) hHeld ?_
      case y198 => (intro w hSw; (try dsimp only at hSw); go_simp; try (with_reducible rfl))
      try simp only [Act.put, List.setIfInBounds_toArray, List.set_cons_zero, List.set_cons_succ]
      refine wpAnyH_take (i := 23) (v := ?v199) (by simp only [List.getElem?_toArray, List.getElem?_cons_succ, List.getElem?_cons_zero]; exact rfl) (by kernel_rfl) (by kernel_rfl) (by kernel_rfl) (by intro _ _ _ h; exact h) (Or.inl ⟨by rfl, ?y199⟩) hHeld ?_
      case y199 => (intro w hSw; (try dsimp only at hSw); go_simp; try (with_reducible rfl))
      try simp only [Act.put, List.setIfInBounds_toArray, List.set_cons_zero, List.set_cons_succ]
      refine wpAnyH_take (i := 24) (v := ?v200) (by simp only [List.getElem?_toArray, List.getElem?_cons_succ, List.getElem?_cons_zero]; exact rfl) (by kernel_rfl) (by kernel_rfl) (by kernel_rfl) (by intro _ _ _ h; exact h) (Or.inl ⟨by rfl, ?y200⟩) hHeld ?_
      case y200 => (intro w hSw; (try dsimp only at hSw); go_simp; try (with_reducible rfl))
      try simp only [Act.put, List.setIfInBounds_toArray, List.set_cons_zero, List.set_cons_succ]
      refine wpAnyH_take (i := 25) (v := ?v201) (by simp only [List.getElem?_toArray, List.getElem?_cons_succ, List.getElem?_cons_zero]; exact rfl) (by kernel_rfl) (by kernel_rfl) (by kernel_rfl) (by intro _ _ _ h; exact h) (Or.inl ⟨by rfl, ?y201⟩) hHeld ?_
      case y201 => (intro w hSw; (try dsimp only at hSw); go_simp; try (with_reducible rfl))
      try simp only [Act.put, List.setIfInBounds_toArray, List.set_cons_zero, List.set_cons_succ]
      refine wpAnyH_ready (rs := [13, 26]) (by kernel_rfl) (by simp) ?_
      refine (AllReadyH.cons (by simp only [List.getElem?_toArray, List.getElem?_cons_succ, List.getElem?_cons_zero]; exact rfl) (fun K hK => ?b202_13) (AllReadyH.cons (by simp only [List.getElem?_toArray, List.getElem?_cons_succ, List.getElem?_cons_zero]; exact rfl) (fun K hK => ?b202_26) AllReadyH.nil))
      case b202_13 =>
        go_simp
        obtain ⟨hbx, hn1⟩ := lit2 wd 2 (y : Int) (z : Int) hNl
        generalize hW : wd.alloc (.cells #[.int .i64 (y : Int), .int .i64 (z : Int)] 2) = wn at hbx hn1 ⊢
        clear hW
        have HKd : RowKit.Hid (∀ b, b < w.heap.size → (Value.slice ua U.length uc).ownBlock ≠ some b → wn.heap[b]? = w.heap[b]?) := Lib.hid (fun b hb hn => (hbx.block b (Nat.lt_of_lt_of_le hb hws)).trans (HKd.out b hb hn))
        have hws := Nat.le_trans hws hbx.size
        obtain ⟨n1, hn1e⟩ : ∃ n, n = wd.heap.size := ⟨_, rfl⟩
        rw [← hn1e] at hn1 ⊢
        have hqd := hqd.trans (hbx.mono hBd)
        have hud := hud.below hbx (Nat.le_refl _)
        have hsd := hsd.offBelow hbx
        have hvd := hvd.below hbx (Nat.le_refl _)
        have hSbd : Off1 wn (.slice oa F.length oc) b := ⟨Nat.lt_of_lt_of_le hSbd.1 hbx.size, hSbd.2⟩
        have hSrd : Off1 wn (.slice oa F.length oc) rb := ⟨Nat.lt_of_lt_of_le hSrd.1 hbx.size, hSrd.2⟩
        have hBd := Nat.le_trans hBd hbx.size
        have hNl := Nat.le_trans hNl hbx.size
        have d0 := (hbx.cell (cell_lt d0)).trans d0
        have d1 := (hbx.cell (cell_lt d1)).trans d1
        have d2 := (hbx.cell (cell_lt d2)).trans d2
        try (have hn2 := hn2.below hbx (Nat.le_refl _))
        clear hn1e
        obtain ⟨wd, rfl⟩ : ∃ wx : World, wx = wn := ⟨_, rfl⟩
        try dsimp only
        refine hK.out _ _ ?h203 (fun hHeld => ?_)
        case h203 => first | exact ⟨‹_›, ‹_›, ‹_›⟩ | assumption | (simp [*, go_sem])
        clear hK K
        try simp only [Act.put, List.setIfInBounds_toArray, List.set_cons_zero, List.set_cons_succ]
        refine wpAnyH_ready (rs := [26]) (by kernel_rfl) (by simp) ?_
        refine AllReadyH.cons (by simp only [List.getElem?_toArray, List.getElem?_cons_succ, List.getElem?_cons_zero]; exact rfl) (fun K hK => ?_) AllReadyH.nil
        go_simp
        obtain ⟨hbx, hn2⟩ := lit2 wd 2 (z : Int) (y : Int) hNl
        generalize hW : wd.alloc (.cells #[.int .i64 (z : Int), .int .i64 (y : Int)] 2) = wn at hbx hn2 ⊢
        clear hW
        have HKd : RowKit.Hid (∀ b, b < w.heap.size → (Value.slice ua U.length uc).ownBlock ≠ some b → wn.heap[b]? = w.heap[b]?) := Lib.hid (fun b hb hn => (hbx.block b (Nat.lt_of_lt_of_le hb hws)).trans (HKd.out b hb hn))
        have hws := Nat.le_trans hws hbx.size
        obtain ⟨n2, hn2e⟩ : ∃ n, n = wd.heap.size := ⟨_, rfl⟩
        rw [← hn2e] at hn2 ⊢
        have hqd := hqd.trans (hbx.mono hBd)
        have hud := hud.below hbx (Nat.le_refl _)
        have hsd := hsd.offBelow hbx
        have hvd := hvd.below hbx (Nat.le_refl _)
        have hSbd : Off1 wn (.slice oa F.length oc) b := ⟨Nat.lt_of_lt_of_le hSbd.1 hbx.size, hSbd.2⟩
        have hSrd : Off1 wn (.slice oa F.length oc) rb := ⟨Nat.lt_of_lt_of_le hSrd.1 hbx.size, hSrd.2⟩
        have hBd := Nat.le_trans hBd hbx.size
        have hNl := Nat.le_trans hNl hbx.size
        have d0 := (hbx.cell (cell_lt d0)).trans d0
        have d1 := (hbx.cell (cell_lt d1)).trans d1
        have d2 := (hbx.cell (cell_lt d2)).trans d2
        try (have hn1 := hn1.below hbx (Nat.le_refl _))
        clear hn2e
        obtain ⟨wd, rfl⟩ : ∃ wx : World, wx = wn := ⟨_, rfl⟩
        try dsimp only
        refine hK.out _ _ ?h205 (fun hHeld => ?_)
        case h205 => first | exact ⟨‹_›, ‹_›, ‹_›⟩ | assumption | (simp [*, go_sem])
        clear hK K
        try simp only [Act.put, List.setIfInBounds_toArray, List.set_cons_zero, List.set_cons_succ]
        refine wpAnyH_ready (rs := [27]) (by kernel_rfl) (by simp) ?_
        refine AllReadyH.cons (by simp only [List.getElem?_toArray, List.getElem?_cons_succ, List.getElem?_cons_zero]; exact rfl) (fun K hK => ?_) AllReadyH.nil
        go_simp
        have hbb : Below wd.heap.size wd (wd.alloc (.cells #[.slice (some ⟨n1, 0, none⟩) 2 2, .slice (some ⟨n2, 0, none⟩) 2 2] 51)) := (Below.refl _ _).alloc (Nat.le_refl _) _
        have d0 := (hbb.cell (cell_lt d0)).trans d0
        have d1 := (hbb.cell (cell_lt d1)).trans d1
        have d2 := (hbb.cell (cell_lt d2)).trans d2
        obtain ⟨vs, hvl, hown, hrows⟩ := hud
        try dsimp only
        refine hK.out _ _ ?h207 (fun hHeld => ?_)
        case h207 => first | exact ⟨‹_›, ‹_›, ‹_›⟩ | assumption | (simp [*, go_sem])
        clear hK K
        try simp only [Act.put, List.setIfInBounds_toArray, List.set_cons_zero, List.set_cons_succ]
        refine wpAnyH_ready (rs := [28]) (by kernel_rfl) (by simp) ?_
        refine AllReadyH.cons (by simp only [List.getElem?_toArray, List.getElem?_cons_succ, List.getElem?_cons_zero]; exact rfl) (fun K hK => ?_) AllReadyH.nil
        rw [if_pos (by rfl)]
        refine opWp_append2 elRows _ _ rfl hown rfl rfl rfl rfl rfl (by omega) hBd ?_
        intro o5 w5 hown5 hkept hmv
        have HK5 : RowKit.Hid (∀ b, b < w.heap.size → (Value.slice ua U.length uc).ownBlock ≠ some b → w5.heap[b]? = w.heap[b]?) := Lib.hid (fun b hb hn => (hkept.2.2.2.2 b (Nat.lt_of_lt_of_le hb hws) (fun e => (HK2.out b e.symm).elim hn (fun h => by omega))).trans (HKd.out b hb hn))
        have HK6 : RowKit.Hid (∀ b, o5.ownBlock = some b → (Value.slice ua U.length uc).ownBlock = some b ∨ w.heap.size ≤ b) := Lib.hid (fun b hb => hmv.elim (fun h => HK2.out b (by rw [← h]; exact hb)) (fun h => Or.inr (by rw [h] at hb; have := hbb.size; have e : _ = b := (Option.some.inj hb); omega)))
        have hq5 := hkept.below hqd hBd (fun x hx => (hown.lt x hx).1)
        have d0 := (World.cell?_of_block (a := ⟨b, off + k, none⟩) (hkept.2.2.2.2 b hSbd.1 (fun e => hSbd.2 e.symm))).trans ‹World.cell? wd ⟨b, off + k, none⟩ = _›
        have d1 := (World.cell?_of_block (a := ⟨rb, ro, none⟩) (hkept.2.2.2.2 rb hSrd.1 (fun e => hSrd.2 e.symm))).trans ‹World.cell? wd ⟨rb, ro, none⟩ = _›
        have d2 := (World.cell?_of_block (a := ⟨rb, ro + 1, none⟩) (hkept.2.2.2.2 rb hSrd.1 (fun e => hSrd.2 e.symm))).trans ‹World.cell? wd ⟨rb, ro + 1, none⟩ = _›
        have hu5 : OwnS w5 B 51 o5 (F ++ [[(y : Int), (z : Int)], [(z : Int), (y : Int)]]) := OwnS.app (news := [.slice (some ⟨n1, 0, none⟩) 2 2, .slice (some ⟨n2, 0, none⟩) 2 2]) hvl rfl hrows (fun i hi hi2 => by (match i, hi with | 0, _ => exact hn1.low3S.weak (fun x hx => ⟨Nat.le_trans hBN hx.1, hx.2, fun e => by have := hob x e; have := hx.1; omega⟩) | 1, _ => exact hn2.low3S.weak (fun x hx => ⟨Nat.le_trans hBN hx.1, hx.2, fun e => by have := hob x e; have := hx.1; omega⟩))) hown5 hkept hmv (by simp)
        have hs5 := hsd.offApp hkept hmv (by simp)
        have hv5 : OwnB w5 B 2 (.slice va (bitsI M).length vc) M := Own.kept hvd hkept (fun x hx e => own_typeS hvd hown (by decide) x hx e)
        try dsimp only
        refine hK.out _ _ ?h209 (fun hHeld => ?_)
        case h209 => first | exact ⟨‹_›, ‹_›, ‹_›⟩ | assumption | (simp [*, go_sem])
        clear hK K
        try simp only [Act.put, List.setIfInBounds_toArray, List.set_cons_zero, List.set_cons_succ]
        refine wpAnyH_take (i := 29) (v := ?v210) (by simp only [List.getElem?_toArray, List.getElem?_cons_succ, List.getElem?_cons_zero]; exact rfl) (by kernel_rfl) (by kernel_rfl) (by kernel_rfl) (by intro _ _ _ h; exact h) (Or.inl ⟨by rfl, ?y210⟩) hHeld ?_
        case y210 => (intro w hSw; (try dsimp only at hSw); go_simp; try (with_reducible rfl))
        try simp only [Act.put, List.setIfInBounds_toArray, List.set_cons_zero, List.set_cons_succ]
        refine wpAnyH_done (by kernel_rfl) ?_ _
        go_wp2
        go_roundw
        case rel => exact ⟨k + 1, by omega, by go_num, by rw [HT.out]; exact hu5, hs5, hv5, hq5, HK5, HK6⟩
        case measure => simp [intOf]; omega
      case b202_26 =>
        go_simp
        obtain ⟨hbx, hn2⟩ := lit2 wd 2 (z : Int) (y : Int) hNl
        generalize hW : wd.alloc (.cells #[.int .i64 (z : Int), .int .i64 (y : Int)] 2) = wn at hbx hn2 ⊢
        clear hW
        have HKd : RowKit.Hid (∀ b, b < w.heap.size → (Value.slice ua U.length uc).ownBlock ≠ some b → wn.heap[b]? = w.heap[b]?) := Lib.hid (fun b hb hn => (hbx.block b (Nat.lt_of_lt_of_le hb hws)).trans (HKd.out b hb hn))
        have hws := Nat.le_trans hws hbx.size
        obtain ⟨n2, hn2e⟩ : ∃ n, n = wd.heap.size := ⟨_, rfl⟩
        rw [← hn2e] at hn2 ⊢
        have hqd := hqd.trans (hbx.mono hBd)
        have hud := hud.below hbx (Nat.le_refl _)
        have hsd := hsd.offBelow hbx
        have hvd := hvd.below hbx (Nat.le_refl _)
        have hSbd : Off1 wn (.slice oa F.length oc) b := ⟨Nat.lt_of_lt_of_le hSbd.1 hbx.size, hSbd.2⟩
        have hSrd : Off1 wn (.slice oa F.length oc) rb := ⟨Nat.lt_of_lt_of_le hSrd.1 hbx.size, hSrd.2⟩
        have hBd := Nat.le_trans hBd hbx.size
        have hNl := Nat.le_trans hNl hbx.size
        have d0 := (hbx.cell (cell_lt d0)).trans d0
        have d1 := (hbx.cell (cell_lt d1)).trans d1
        have d2 := (hbx.cell (cell_lt d2)).trans d2
        try (have hn1 := hn1.below hbx (Nat.le_refl _))
        clear hn2e
        obtain ⟨wd, rfl⟩ : ∃ wx : World, wx = wn := ⟨_, rfl⟩
        try dsimp only
        refine hK.out _ _ ?h211 (fun hHeld => ?_)
        case h211 => first | exact ⟨‹_›, ‹_›, ‹_›⟩ | assumption | (simp [*, go_sem])
        clear hK K
        try simp only [Act.put, List.setIfInBounds_toArray, List.set_cons_zero, List.set_cons_succ]
        refine wpAnyH_ready (rs := [13]) (by kernel_rfl) (by simp) ?_
        refine AllReadyH.cons (by simp only [List.getElem?_toArray, List.getElem?_cons_succ, List.getElem?_cons_zero]; exact rfl) (fun K hK => ?_) AllReadyH.nil
        go_simp
        obtain ⟨hbx, hn1⟩ := lit2 wd 2 (y : Int) (z : Int) hNl
        generalize hW : wd.alloc (.cells #[.int .i64 (y : Int), .int .i64 (z : Int)] 2) = wn at hbx hn1 ⊢
        clear hW
        have HKd : RowKit.Hid (∀ b, b < w.heap.size → (Value.slice ua U.length uc).ownBlock ≠ some b → wn.heap[b]? = w.heap[b]?) := Lib.hid (fun b hb hn => (hbx.block b (Nat.lt_of_lt_of_le hb hws)).trans (HKd.out b hb hn))
        have hws := Nat.le_trans hws hbx.size
        obtain ⟨n1, hn1e⟩ : ∃ n, n = wd.heap.size := ⟨_, rfl⟩
        rw [← hn1e] at hn1 ⊢
        have hqd := hqd.trans (hbx.mono hBd)
        have hud := hud.below hbx (Nat.le_refl _)
        have hsd := hsd.offBelow hbx
        have hvd := hvd.below hbx (Nat.le_refl _)
        have hSbd : Off1 wn (.slice oa F.length oc) b := ⟨Nat.lt_of_lt_of_le hSbd.1 hbx.size, hSbd.2⟩
        have hSrd : Off1 wn (.slice oa F.length oc) rb := ⟨Nat.lt_of_lt_of_le hSrd.1 hbx.size, hSrd.2⟩
        have hBd := Nat.le_trans hBd hbx.size
        have hNl := Nat.le_trans hNl hbx.size
        have d0 := (hbx.cell (cell_lt d0)).trans d0
        have d1 := (hbx.cell (cell_lt d1)).trans d1
        have d2 := (hbx.cell (cell_lt d2)).trans d2
        try (have hn2 := hn2.below hbx (Nat.le_refl _))
        clear hn1e
        obtain ⟨wd, rfl⟩ : ∃ wx : World, wx = wn := ⟨_, rfl⟩
        try dsimp only
        refine hK.out _ _ ?h213 (fun hHeld => ?_)
        case h213 => first | exact ⟨‹_›, ‹_›, ‹_›⟩ | assumption | (simp [*, go_sem])
        clear hK K
        try simp only [Act.put, List.setIfInBounds_toArray, List.set_cons_zero, List.set_cons_succ]
        refine wpAnyH_ready (rs := [27]) (by kernel_rfl) (by simp) ?_
        refine AllReadyH.cons (by simp only [List.getElem?_toArray, List.getElem?_cons_succ, List.getElem?_cons_zero]; exact rfl) (fun K hK => ?_) AllReadyH.nil
        go_simp
        have hbb : Below wd.heap.size wd (wd.alloc (.cells #[.slice (some ⟨n1, 0, none⟩) 2 2, .slice (some ⟨n2, 0, none⟩) 2 2] 51)) := (Below.refl _ _).alloc (Nat.le_refl _) _
        have d0 := (hbb.cell (cell_lt d0)).trans d0
        have d1 := (hbb.cell (cell_lt d1)).trans d1
        have d2 := (hbb.cell (cell_lt d2)).trans d2
        obtain ⟨vs, hvl, hown, hrows⟩ := hud
        try dsimp only
        refine hK.out _ _ ?h215 (fun hHeld => ?_)
        case h215 => first | exact ⟨‹_›, ‹_›, ‹_›⟩ | assumption | (simp [*, go_sem])
        clear hK K
        try simp only [Act.put, List.setIfInBounds_toArray, List.set_cons_zero, List.set_cons_succ]
        refine wpAnyH_ready (rs := [28]) (by kernel_rfl) (by simp) ?_
        refine AllReadyH.cons (by simp only [List.getElem?_toArray, List.getElem?_cons_succ, List.getElem?_cons_zero]; exact rfl) (fun K hK => ?_) AllReadyH.nil
        rw [if_pos (by rfl)]
        refine opWp_append2 elRows _ _ rfl hown rfl rfl rfl rfl rfl (by omega) hBd ?_
        intro o5 w5 hown5 hkept hmv
        have HK5 : RowKit.Hid (∀ b, b < w.heap.size → (Value.slice ua U.length uc).ownBlock ≠ some b → w5.heap[b]? = w.heap[b]?) := Lib.hid (fun b hb hn => (hkept.2.2.2.2 b (Nat.lt_of_lt_of_le hb hws) (fun e => (HK2.out b e.symm).elim hn (fun h => by omega))).trans (HKd.out b hb hn))
        have HK6 : RowKit.Hid (∀ b, o5.ownBlock = some b → (Value.slice ua U.length uc).ownBlock = some b ∨ w.heap.size ≤ b) := Lib.hid (fun b hb => hmv.elim (fun h => HK2.out b (by rw [← h]; exact hb)) (fun h => Or.inr (by rw [h] at hb; have := hbb.size; have e : _ = b := (Option.some.inj hb); omega)))
        have hq5 := hkept.below hqd hBd (fun x hx => (hown.lt x hx).1)
        have d0 := (World.cell?_of_block (a := ⟨b, off + k, none⟩) (hkept.2.2.2.2 b hSbd.1 (fun e => hSbd.2 e.symm))).trans ‹World.cell? wd ⟨b, off + k, none⟩ = _›
        have d1 := (World.cell?_of_block (a := ⟨rb, ro, none⟩) (hkept.2.2.2.2 rb hSrd.1 (fun e => hSrd.2 e.symm))).trans ‹World.cell? wd ⟨rb, ro, none⟩ = _›
        have d2 := (World.cell?_of_block (a := ⟨rb, ro + 1, none⟩) (hkept.2.2.2.2 rb hSrd.1 (fun e => hSrd.2 e.symm))).trans ‹World.cell? wd ⟨rb, ro + 1, none⟩ = _›
        have hu5 : OwnS w5 B 51 o5 (F ++ [[(y : Int), (z : Int)], [(z : Int), (y : Int)]]) := OwnS.app (news := [.slice (some ⟨n1, 0, none⟩) 2 2, .slice (some ⟨n2, 0, none⟩) 2 2]) hvl rfl hrows (fun i hi hi2 => by (match i, hi with | 0, _ => exact hn1.low3S.weak (fun x hx => ⟨Nat.le_trans hBN hx.1, hx.2, fun e => by have := hob x e; have := hx.1; omega⟩) | 1, _ => exact hn2.low3S.weak (fun x hx => ⟨Nat.le_trans hBN hx.1, hx.2, fun e => by have := hob x e; have := hx.1; omega⟩))) hown5 hkept hmv (by simp)
        have hs5 := hsd.offApp hkept hmv (by simp)
        have hv5 : OwnB w5 B 2 (.slice va (bitsI M).length vc) M := Own.kept hvd hkept (fun x hx e => own_typeS hvd hown (by decide) x hx e)
        try dsimp only
        refine hK.out _ _ ?h217 (fun hHeld => ?_)
        case h217 => first | exact ⟨‹_›, ‹_›, ‹_›⟩ | assumption | (simp [*, go_sem])
        clear hK K
        try simp only [Act.put, List.setIfInBounds_toArray, List.set_cons_zero, List.set_cons_succ]
        refine wpAnyH_take (i := 29) (v := ?v218) (by simp only [List.getElem?_toArray, List.getElem?_cons_succ, List.getElem?_cons_zero]; exact rfl) (by kernel_rfl) (by kernel_rfl) (by kernel_rfl) (by intro _ _ _ h; exact h) (Or.inl ⟨by rfl, ?y218⟩) hHeld ?_
        case y218 => (intro w hSw; (try dsimp only at hSw); go_simp; try (with_reducible rfl))
        try simp only [Act.put, List.setIfInBounds_toArray, List.set_cons_zero, List.set_cons_succ]
        refine wpAnyH_done (by kernel_rfl) ?_ _
        go_wp2
        go_roundw
        case rel => exact ⟨k + 1, by omega, by go_num, by rw [HT.out]; exact hu5, hs5, hv5, hq5, HK5, HK6⟩
        case measure => simp [intOf]; omega
theorem l19Use_any {S : Nat → Prop} {B m : Nat} {ev mv uv : Value} {p : List Nat} {U : List NP} {w : World} (he : SlI S w .i64 ev (natsI p)) (hp1 : 1 ≤ p.length) (hp : ∀ a ∈ p, a < 16) (hp32 : p.length ≤ 32) (hm32 : m < 65536) (hmv : OwnB w B 2 mv m) (huv : OwnS w B 51 uv (rowsP U)) (hU : U.length ≤ 4096) (hB : B ≤ w.heap.size) :
    Calls Tryd.prog 67 #[ev, mv, uv] w fun e w' => ∃ mv' uv', e = .returned (.tuple #[mv', uv']) ∧ OwnB w' B 2 mv' (m ||| maskL (natsI p)) ∧ OwnS w' B 51 uv' (rowsP (useU U (stepsN p (m == 0)))) ∧ Below B w w' :=
  (l19UseK_any he hp1 hp hp32 hm32 hmv huv hU hB).mono fun _ _ ⟨a, b, h1, h2, h3, h4, _⟩ => ⟨a, b, h1, h2, h3, h4⟩
end Go.Proofs.YtgkkgagnoeedaaaDoor
