/- Ears of the reference: l19Steps, l19Has, l19Ends. -/
import Derived.Test.YtklnjpdpinccoaaOwnS
import Derived.Test.YtklnjpdpinccoaaEarN
namespace Go.Proofs.Ytklnjpdpinccoaa
open Go.RowKit
def rowP (s : NP) : List Int := [(s.1 : Int), (s.2 : Int)]
def rowsP (L : List NP) : List (List Int) := L.map rowP
theorem rowsP_len (L : List NP) : (rowsP L).length = L.length := by simp [rowsP]
theorem rowsP_get {L : List NP} {i : Nat} (h : i < (rowsP L).length) (h2 : i < L.length) : (rowsP L)[i] = rowP L[i] := by simp [rowsP]
theorem rowsP_app (L M : List NP) : rowsP (L ++ M) = rowsP L ++ rowsP M := by simp [rowsP]
/-- The two numbers of a row. -/
theorem SlR.pair {S : Nat → Prop} {w : World} {v : Value} {L : List NP} (h : SlR S w v (rowsP L)) {i : Nat} (hi : i < L.length) : ∃ b off cap rb ro rc, v = .slice (some ⟨b, off, none⟩) L.length cap ∧ w.cell? ⟨b, off + i, none⟩ = some (.slice (some ⟨rb, ro, none⟩) 2 rc) ∧
    w.cell? ⟨rb, ro, none⟩ = some (.int .i64 ((L[i].1 : Nat) : Int)) ∧ w.cell? ⟨rb, ro + 1, none⟩ = some (.int .i64 ((L[i].2 : Nat) : Int)) := by
  obtain ⟨a, b, off, cap, f, rfl, hl, ha, hc⟩ := h
  rw [rowsP_len] at *
  obtain ⟨h1, h2⟩ := hc i (by rw [rowsP_len]; exact hi)
  rw [rowsP_get _ hi] at h2
  obtain ⟨rb, ro, rc, h3, h4⟩ := h2.at_
  have h3 := h3 (by simp [rowP])
  rw [h3] at h1
  have h5 := h4 0 (by simp [rowP])
  have h6 := h4 1 (by simp [rowP])
  obtain ⟨rfl, -⟩ := ha (by omega)
  exact ⟨b, off, cap, rb, ro, rc, rfl, h1, h5, h6⟩
theorem SlR.pairS {S : Nat → Prop} {w : World} {v : Value} {L : List NP} (h : SlR S w v (rowsP L)) {i : Nat} (hi : i < L.length) : ∃ b off cap rb ro rc, v = .slice (some ⟨b, off, none⟩) L.length cap ∧ w.cell? ⟨b, off + i, none⟩ = some (.slice (some ⟨rb, ro, none⟩) 2 rc) ∧
    w.cell? ⟨rb, ro, none⟩ = some (.int .i64 ((L[i].1 : Nat) : Int)) ∧ w.cell? ⟨rb, ro + 1, none⟩ = some (.int .i64 ((L[i].2 : Nat) : Int)) ∧ S b ∧ S rb := by
  obtain ⟨a, b, off, cap, f, rfl, hl, ha, hc⟩ := h
  rw [rowsP_len] at *
  obtain ⟨h1, h2⟩ := hc i (by rw [rowsP_len]; exact hi)
  rw [rowsP_get _ hi] at h2
  obtain ⟨ra, rb, ro, rc, h3, -, h4, h5⟩ := h2
  obtain ⟨rfl, hS⟩ := h4 (by simp [rowP])
  rw [h3] at h1
  have h6 := h5 0 (by simp [rowP])
  have h7 := h5 1 (by simp [rowP])
  obtain ⟨rfl, hSb⟩ := ha (by omega)
  exact ⟨b, off, cap, rb, ro, rc, rfl, h1, h6, h7, hSb, hS⟩
set_option maxHeartbeats 1000000 in
theorem l19Has_any {S : Nat → Prop} {v : Value} {L : List NP} {x y : Nat} {w : World} (hv : SlR S w v (rowsP L)) :
    Calls Try.prog 81 #[v, .int .i64 (x : Int), .int .i64 (y : Int)] w fun e w' => e = .returned (.bool (decide (((x, y) : NP) ∈ L))) ∧ w = w' := by
  have hpair := fun i hi => hv.pair (i := i) hi
  have hvl := hv.len
  obtain ⟨a, c, rfl⟩ := hv.slice
  rw [rowsP_len] at *
  clear hv
  go_enter Try.func81, Try.ntmps81
  go_wp2
  go_loop [7] (fun i => ∃ k : Nat, k ≤ L.length ∧ i = .int .i64 k ∧ RowKit.Hid (((x, y) : NP) ∉ L.take k)) (fun i => L.length - (intOf i).toNat)
  case atStart => exact ⟨0, Nat.zero_le _, rfl, Lib.hid (by simp)⟩
  case round =>
    obtain ⟨k, hk, rfl, HN⟩ := hrel
    by_cases hlt : k < L.length
    case neg =>
      have HE := Lib.hid (show decide (((x, y) : NP) ∈ L) = false from decide_eq_false (by have := HN.out; rwa [List.take_of_length_le (by omega)] at this))
      go_wp2
      go_ret
      exact ⟨ret_bool HE.out.symm, rfl⟩
    obtain ⟨b, off, cap, rb, ro, rc, hve, c0, c1, c2⟩ := hpair k hlt
    simp only [Value.slice.injEq, true_and] at hve
    obtain ⟨rfl, rfl⟩ := hve
    have HT := Lib.hid (show L.take (k + 1) = L.take k ++ [L[k]] from List.take_succ_eq_append_getElem hlt)
    have HM := Lib.hid (List.getElem_mem hlt)
    generalize L[k] = s at *
    obtain ⟨s1, s2⟩ := s
    simp only at c1 c2
    have h1 : (((s1 : Nat) : Int) == (x : Int)) = decide (s1 = x) := by rw [Bool.eq_iff_iff, beq_iff_eq, decide_eq_true_eq]; omega
    have h2 : (((s2 : Nat) : Int) == (y : Int)) = decide (s2 = y) := by rw [Bool.eq_iff_iff, beq_iff_eq, decide_eq_true_eq]; omega
    have h1b : (s1 == x) = decide (s1 = x) := by rw [Bool.eq_iff_iff, beq_iff_eq, decide_eq_true_eq]
    have h2b : (s2 == y) = decide (s2 = y) := by rw [Bool.eq_iff_iff, beq_iff_eq, decide_eq_true_eq]
    clear hpair
    cases hd1 : decide (s1 = x) with
    | false =>
      have HNX := Lib.hid (show ((x, y) : NP) ∉ L.take (k + 1) by
        rw [HT.out, List.mem_append, List.mem_singleton]
        rintro (h | h)
        · exact HN.out h
        · have := congrArg Prod.fst h
          have hd := of_decide_eq_false hd1
          exact hd this.symm)
      rw [hd1] at h1 h1b
      clear hd1 h2 h2b
      go_wp2
      go_round
      case rel => exact ⟨k + 1, by omega, by go_num, HNX⟩
      case measure => simp [intOf]; omega
    | true =>
      cases hd2 : decide (s2 = y) with
      | false =>
        have HNX := Lib.hid (show ((x, y) : NP) ∉ L.take (k + 1) by
          rw [HT.out, List.mem_append, List.mem_singleton]
          rintro (h | h)
          · exact HN.out h
          · have := congrArg Prod.snd h
            have hd := of_decide_eq_false hd2
            exact hd this.symm)
        rw [hd1] at h1 h1b
        rw [hd2] at h2 h2b
        clear hd1 hd2
        go_wp2
        go_round
        case rel => exact ⟨k + 1, by omega, by go_num, HNX⟩
        case measure => simp [intOf]; omega
      | true =>
        have HE := Lib.hid (show decide (((x, y) : NP) ∈ L) = true from decide_eq_true (by
          have e1 := of_decide_eq_true hd1
          have e2 := of_decide_eq_true hd2
          subst e1; subst e2; exact HM.out))
        rw [hd1] at h1 h1b
        rw [hd2] at h2 h2b
        clear hd1 hd2
        go_wp2
        go_ret
        exact ⟨ret_bool HE.out.symm, rfl⟩
def endsTo (g : List (List Int)) (k : Nat) : Nat := ((g.take k).map List.length).sum
theorem endsTo_succ {g : List (List Int)} {k : Nat} (hk : k < g.length) : endsTo g (k + 1) = endsTo g k + g[k].length := by
  unfold endsTo
  rw [List.take_succ_eq_append_getElem hk, List.map_append, List.sum_append]; simp
theorem endsTo_all (g : List (List Int)) : endsTo g g.length = endsN g := by unfold endsTo endsN; rw [List.take_length]
theorem endsTo_le {g : List (List Int)} (hg : GOk g) : ∀ k, k ≤ g.length → endsTo g k ≤ 32 * k
  | 0, _ => by simp [endsTo]
  | k + 1, hk => by
    have := endsTo_le hg k (by omega)
    have h2 := hg.rowlenS (x := k) (by omega)
    rw [endsTo_succ (by omega)]; omega
theorem endsN_le {g : List (List Int)} (hg : GOk g) : endsN g ≤ 512 := by
  have := endsTo_le hg g.length (Nat.le_refl _)
  rw [endsTo_all] at this
  have := hg.hi; omega
set_option maxHeartbeats 1000000 in
theorem l19Ends_any {S : Nat → Prop} {v : Value} {g : List (List Int)} {w : World} (hg : GOk g) (hv : SlR S w v g) :
    Calls Try.prog 46 #[.agg #[v]] w fun e w' => e = .returned (.int .i64 (endsN g : Int)) ∧ Below w.heap.size w w' := by
  have h16 := hg.hi
  have HG := Lib.hid hg
  obtain ⟨a, b, off, cap, f, rfl, hl, ha, hc0⟩ := hv
  have hq0 : Below w.heap.size w (w.alloc (.cells #[.slice a g.length cap] 28)) := (Below.refl _ _).alloc (Nat.le_refl _) _
  go_enter Try.func46, Try.ntmps46
  go_wp2
  go_loopw [3, 4] (fun m i wr => ∃ k : Nat, k ≤ g.length ∧ i = .int .i64 k ∧ m = .int .i64 (endsTo g k : Int) ∧ Below w.heap.size w wr ∧ wr.cell? ⟨w.heap.size, 0, none⟩ = some (.slice a g.length cap)) (fun _ i _ => g.length - (intOf i).toNat)
  case atStart => exact ⟨0, Nat.zero_le _, rfl, by simp [endsTo], hq0, by simp [go_sem]⟩
  case round =>
    clear hq0
    obtain ⟨k, hk, rfl, rfl, hq, cg⟩ := hrel
    obtain ⟨wi, rfl⟩ : ∃ wx : World, wx = wr := ⟨_, rfl⟩
    by_cases hlt : k < g.length
    case neg =>
      obtain rfl : k = g.length := by omega
      rw [endsTo_all]
      go_wp2
      go_ret
      exact ⟨rfl, hq⟩
    obtain ⟨hcr0, hrow⟩ := hc0 k hlt
    obtain ⟨rfl, -⟩ := ha (by omega)
    have hcr := (hq.cell (p := ⟨b, off + k, none⟩) (cell_lt hcr0)).trans hcr0
    obtain ⟨ra, rc, hre⟩ := hrow.slice
    rw [hre] at hcr
    have HST := Lib.hid (endsTo_succ hlt)
    have hle := endsTo_le HG.out k (by omega)
    have hrl := HG.out.rowlenS hlt
    clear hcr0 hrow hre
    generalize endsTo g k = t at *
    generalize g[k].length = rl at *
    have hw1 : IntKind.i64.wrap ((t : Int) + (rl : Int)) = (t : Int) + (rl : Int) := IntWalk.i64_in _ (by omega)
    go_wp2
    go_roundw
    case rel => exact ⟨k + 1, by omega, by go_num, by rw [HST.out]; go_num, hq, cg⟩
    case measure => simp [intOf]; omega
set_option maxRecDepth 100000 in
set_option maxHeartbeats 4000000 in
theorem l19Steps_any {S : Nat → Prop} {v : Value} {p : List Nat} {c : Bool} {w : World} (hv : SlI S w .i64 v (natsI p)) (h1 : 1 ≤ p.length) (h32 : p.length ≤ 32) :
    Calls Try.prog 80 #[v, .bool c] w fun e w' => ∃ u, e = .returned u ∧ OwnS w' w.heap.size 26 u (rowsP (stepsN p c)) ∧ Below w.heap.size w w' := by
  have hq0 : Below w.heap.size w (w.alloc (.cells #[] 26)) := (Below.refl _ _).alloc (Nat.le_refl _) _
  have hS0 := OwnS.empty w w.heap.size 26 (Nat.le_refl _)
  obtain ⟨eb, eo, ecap, hee, hec⟩ := hv.at_
  have hee := hee (by rw [natsI_len]; omega)
  subst hee
  rw [natsI_len] at *
  have hec0 : ∀ W : World, Below w.heap.size w W → ∀ i, i < p.length → W.cell? ⟨eb, eo + i, none⟩ = some (.int .i64 ((p.getD i 0 : Nat) : Int)) := fun W hb i hi => by
    have h := hec i (by rw [natsI_len]; exact hi)
    refine ((hb.cell (p := ⟨eb, eo + i, none⟩) (cell_lt h)).trans h).trans ?_
    simp [natsI, hi]
  have hstl := stepsN_len p c
  have HSG := Lib.hid (fun i (h : i < (stepsN p c).length) => stepsN_get (c := c) h)
  have hw1 : IntKind.i64.wrap ((p.length : Int) - 1) = (p.length : Int) - 1 := IntWalk.i64_in _ (by omega)
  have hw2 : ((p.length : Int) - 1).toNat = p.length - 1 := by omega
  have hw3 : (0 : Int) ≤ (p.length : Int) - 1 := by omega
  have hw4 : (p.length : Int) - 1 < p.length := by omega
  clear hec hv
  go_enter Try.func80, Try.ntmps80
  go_wp2
  go_loopw [5, 6] (fun o i wr => ∃ k : Nat, k ≤ p.length - 1 ∧ i = .int .i64 k ∧ OwnS wr w.heap.size 26 o (rowsP ((stepsN p c).take k)) ∧ Below w.heap.size w wr) (fun _ i _ => p.length - (intOf i).toNat)
  case atStart => exact ⟨0, Nat.zero_le _, rfl, by simpa [rowsP] using hS0, hq0⟩
  case round =>
    clear hq0 hS0
    obtain ⟨k, hk, rfl, hR, hq⟩ := hrel
    obtain ⟨wi, rfl⟩ : ∃ wx : World, wx = wr := ⟨_, rfl⟩
    have hx1 : IntKind.i64.wrap ((k : Int) + 1) = (k : Int) + 1 := IntWalk.i64_in _ (by omega)
    have hx2 : ((k : Int) + 1).toNat = k + 1 := by omega
    have hx3 : (0 : Int) ≤ (k : Int) + 1 := by omega
    have hB : w.heap.size ≤ wi.heap.size := hq.size
    by_cases hlt : k < p.length - 1
    case pos =>
      have hkl : k < (stepsN p c).length := by omega
      have hsg := HSG.out k hkl
      rw [if_pos hlt] at hsg
      have HT := Lib.hid (show rowsP ((stepsN p c).take (k + 1)) = rowsP ((stepsN p c).take k) ++ [[((p.getD k 0 : Nat) : Int), ((p.getD (k + 1) 0 : Nat) : Int)]] by
        rw [List.take_succ_eq_append_getElem hkl, rowsP_app, hsg]; rfl)
      have hlen : (rowsP ((stepsN p c).take k)).length = k := by rw [rowsP_len, List.length_take]; omega
      have hcy := fun (W : World) (hb : Below w.heap.size w W) => hec0 W hb k (by omega)
      have hcz := fun (W : World) (hb : Below w.heap.size w W) => hec0 W hb (k + 1) (by omega)
      have ca := hcy _ hq
      have cb := hcz _ hq
      have HEC := Lib.hid hec0
      clear hec0
      have hy1 : decide ((k : Int) + 1 < (p.length : Int)) = true := decide_eq_true (by omega)
      have hy2 : decide (k + 1 < p.length) = true := decide_eq_true (by omega)
      have hy3 : (k : Int) + 1 < (p.length : Int) := by omega
      have hy4 : (k : Int) < (p.length : Int) := by omega
      have hy5 : k < p.length := by omega
      generalize p.getD k 0 = y at *
      generalize p.getD (k + 1) 0 = z at *
      generalize rowsP ((stepsN p c).take k) = F at *
      obtain ⟨oa, oc, rfl⟩ := hR.isSlice
      have HLN := Lib.hid hlen
      have hFk : F.length ≤ 64 := by omega
      clear hlen hsg hkl
      go_wp2
      refine wp_region_held_drew (S := (fun w' => w'.cell? ⟨eb, eo + k, none⟩ = some (.int .i64 (y : Int)) ∧ w'.cell? ⟨eb, eo + (k + 1), none⟩ = some (.int .i64 (z : Int)))) (by kernel_rfl) ?_ (fun hHeld => ?_)
      · first | exact ⟨‹_›, ‹_›⟩ | (simp [*, go_sem])
      have hqd := hq.drew
      have hRd := hR.drawn (Drawn.refl _).drew
      generalize wi.drew = wd at hqd hRd hHeld ⊢
      have hHeld2 := hHeld
      obtain ⟨da, db⟩ := hHeld2
      have hBd : w.heap.size ≤ wd.heap.size := hqd.size
      refine wpAnyH_take (i := 0) (v := ?v1) (by simp only [List.getElem?_toArray, List.getElem?_cons_zero]; exact rfl) (by kernel_rfl) (by kernel_rfl) (by kernel_rfl) (by intro _ _ _ h; exact h) (Or.inl ⟨by rfl, ?y1⟩) hHeld ?_
      case y1 => (intro w hSw; (try dsimp only at hSw); go_simp; try (with_reducible rfl))
      try simp only [Act.put, List.setIfInBounds_toArray, List.set_cons_zero, List.set_cons_succ]
      refine wpAnyH_take (i := 1) (v := ?v2) (by simp only [List.getElem?_toArray, List.getElem?_cons_succ, List.getElem?_cons_zero]; exact rfl) (by kernel_rfl) (by kernel_rfl) (by kernel_rfl) (by intro _ _ _ h; exact h) (Or.inl ⟨by rfl, ?y2⟩) hHeld ?_
      case y2 => (intro w hSw; (try dsimp only at hSw); go_simp; try (with_reducible rfl))
      try simp only [Act.put, List.setIfInBounds_toArray, List.set_cons_zero, List.set_cons_succ]
      refine wpAnyH_take (i := 2) (v := ?v3) (by simp only [List.getElem?_toArray, List.getElem?_cons_succ, List.getElem?_cons_zero]; exact rfl) (by kernel_rfl) (by kernel_rfl) (by kernel_rfl) (by intro _ _ _ h; exact h) (Or.inl ⟨by rfl, ?y3⟩) hHeld ?_
      case y3 => (intro w hSw; (try dsimp only at hSw); go_simp; try (with_reducible rfl))
      try simp only [Act.put, List.setIfInBounds_toArray, List.set_cons_zero, List.set_cons_succ]
      refine wpAnyH_take (i := 3) (v := ?v4) (by simp only [List.getElem?_toArray, List.getElem?_cons_succ, List.getElem?_cons_zero]; exact rfl) (by kernel_rfl) (by kernel_rfl) (by kernel_rfl) (by intro _ _ _ h; exact h) (Or.inl ⟨by rfl, ?y4⟩) hHeld ?_
      case y4 => (intro w hSw; (try dsimp only at hSw); go_simp; try (with_reducible rfl))
      try simp only [Act.put, List.setIfInBounds_toArray, List.set_cons_zero, List.set_cons_succ]
      refine wpAnyH_take (i := 4) (v := ?v5) (by simp only [List.getElem?_toArray, List.getElem?_cons_succ, List.getElem?_cons_zero]; exact rfl) (by kernel_rfl) (by kernel_rfl) (by kernel_rfl) (by intro _ _ _ h; exact h) (Or.inl ⟨by rfl, ?y5⟩) hHeld ?_
      case y5 => (intro w hSw; (try dsimp only at hSw); go_simp; try (with_reducible rfl))
      try simp only [Act.put, List.setIfInBounds_toArray, List.set_cons_zero, List.set_cons_succ]
      refine wpAnyH_take (i := 5) (v := ?v6) (by simp only [List.getElem?_toArray, List.getElem?_cons_succ, List.getElem?_cons_zero]; exact rfl) (by kernel_rfl) (by kernel_rfl) (by kernel_rfl) (by intro _ _ _ h; exact h) (Or.inl ⟨by rfl, ?y6⟩) hHeld ?_
      case y6 => (intro w hSw; (try dsimp only at hSw); go_simp; try (with_reducible rfl))
      try simp only [Act.put, List.setIfInBounds_toArray, List.set_cons_zero, List.set_cons_succ]
      refine wpAnyH_take (i := 6) (v := ?v7) (by simp only [List.getElem?_toArray, List.getElem?_cons_succ, List.getElem?_cons_zero]; exact rfl) (by kernel_rfl) (by kernel_rfl) (by kernel_rfl) (by intro _ _ _ h; exact h) (Or.inl ⟨by rfl, ?y7⟩) hHeld ?_
      case y7 => (intro w hSw; (try dsimp only at hSw); go_simp; try (with_reducible rfl))
      try simp only [Act.put, List.setIfInBounds_toArray, List.set_cons_zero, List.set_cons_succ]
      refine wpAnyH_take (i := 7) (v := ?v8) (by simp only [List.getElem?_toArray, List.getElem?_cons_succ, List.getElem?_cons_zero]; exact rfl) (by kernel_rfl) (by kernel_rfl) (by kernel_rfl) (by intro _ _ _ h; exact h) (Or.inl ⟨by rfl, ?y8⟩) hHeld ?_
      case y8 => (intro w hSw; (try dsimp only at hSw); go_simp; try (with_reducible rfl))
      try simp only [Act.put, List.setIfInBounds_toArray, List.set_cons_zero, List.set_cons_succ]
      refine wpAnyH_take (i := 8) (v := ?v9) (by simp only [List.getElem?_toArray, List.getElem?_cons_succ, List.getElem?_cons_zero]; exact rfl) (by kernel_rfl) (by kernel_rfl) (by kernel_rfl) (by intro _ _ _ h; exact h) (Or.inl ⟨by rfl, ?y9⟩) hHeld ?_
      case y9 => (intro w hSw; (try dsimp only at hSw); go_simp; try (with_reducible rfl))
      try simp only [Act.put, List.setIfInBounds_toArray, List.set_cons_zero, List.set_cons_succ]
      refine wpAnyH_take (i := 9) (v := ?v10) (by simp only [List.getElem?_toArray, List.getElem?_cons_succ, List.getElem?_cons_zero]; exact rfl) (by kernel_rfl) (by kernel_rfl) (by kernel_rfl) (by intro _ _ _ h; exact h) (Or.inl ⟨by rfl, ?y10⟩) hHeld ?_
      case y10 => (intro w hSw; (try dsimp only at hSw); go_simp; try (with_reducible rfl))
      try simp only [Act.put, List.setIfInBounds_toArray, List.set_cons_zero, List.set_cons_succ]
      refine wpAnyH_ready (rs := [10]) (by kernel_rfl) (by simp) ?_
      refine AllReadyH.cons (by simp only [List.getElem?_toArray, List.getElem?_cons_succ, List.getElem?_cons_zero]; exact rfl) (fun K hK => ?_) AllReadyH.nil
      go_simp
      have hba : Below wd.heap.size wd (wd.alloc (.cells #[.int .i64 (y : Int), .int .i64 (z : Int)] 2)) := (Below.refl _ _).alloc (Nat.le_refl _) _
      have hnew := SlI.lit wd 2 [(y : Int), (z : Int)] 2 rfl (by omega) (by omega)
      simp only [List.map_cons, List.map_nil] at hnew
      have hR2 := hRd.below hba (Nat.le_refl _)
      obtain ⟨vs, hvl, hown, hrows⟩ := hR2
      have hRd' := hRd
      obtain ⟨vs', hvl', hown', -⟩ := hRd'
      have hob := hown'.lt
      have hq2 := hqd.trans (hba.mono hqd.size)
      have da := (hba.cell (cell_lt da)).trans da
      have db := (hba.cell (cell_lt db)).trans db
      try dsimp only
      refine hK.out _ _ ?h12 (fun hHeld => ?_)
      case h12 => first | exact ⟨‹_›, ‹_›⟩ | (simp [*, go_sem])
      clear hK K
      try simp only [Act.put, List.setIfInBounds_toArray, List.set_cons_zero, List.set_cons_succ]
      refine wpAnyH_ready (rs := [11]) (by kernel_rfl) (by simp) ?_
      refine AllReadyH.cons (by simp only [List.getElem?_toArray, List.getElem?_cons_succ, List.getElem?_cons_zero]; exact rfl) (fun K hK => ?_) AllReadyH.nil
      go_simp
      have hbb : Below (wd.alloc (.cells #[.int .i64 (y : Int), .int .i64 (z : Int)] 2)).heap.size (wd.alloc (.cells #[.int .i64 (y : Int), .int .i64 (z : Int)] 2)) ((wd.alloc (.cells #[.int .i64 (y : Int), .int .i64 (z : Int)] 2)).alloc (.cells #[.slice (some ⟨wd.heap.size, 0, none⟩) 2 2] 26)) := (Below.refl _ _).alloc (Nat.le_refl _) _
      have da := (hbb.cell (cell_lt da)).trans da
      have db := (hbb.cell (cell_lt db)).trans db
      try dsimp only
      refine hK.out _ _ ?h14 (fun hHeld => ?_)
      case h14 => first | exact ⟨‹_›, ‹_›⟩ | (simp [*, go_sem])
      clear hK K
      try simp only [Act.put, List.setIfInBounds_toArray, List.set_cons_zero, List.set_cons_succ]
      refine wpAnyH_ready (rs := [12]) (by kernel_rfl) (by simp) ?_
      refine AllReadyH.cons (by simp only [List.getElem?_toArray, List.getElem?_cons_succ, List.getElem?_cons_zero]; exact rfl) (fun K hK => ?_) AllReadyH.nil
      rw [if_pos (by rfl)]
      refine opWp_append1S elRows _ _ rfl hown rfl (by simp) rfl rfl (by omega) (by simp; omega) ?_
      intro o5 w5 hown5 hkept hmv
      have hq5 := hkept.below hq2 hq2.size (fun b hb => by have := (hown.lt b hb).1; omega)
      have da := hcy _ hq5
      have db := hcz _ hq5
      have hR5 : OwnS w5 w.heap.size 26 o5 (F ++ [[(y : Int), (z : Int)]]) := OwnS.app (news := [.slice (some ⟨wd.heap.size, 0, none⟩) 2 2]) hvl rfl hrows (fun i hi hi2 => by (obtain rfl : i = 0 := by simp at hi; omega); exact hnew.weak (fun b hb => ⟨by subst hb; exact hBd, by subst hb; simp, fun e => by subst hb; have := (hob _ e).2; omega⟩)) hown5 hkept hmv (by simp)
      try dsimp only
      refine hK.out _ _ ?h16 (fun hHeld => ?_)
      case h16 => first | exact ⟨‹_›, ‹_›⟩ | (simp [*, go_sem])
      clear hK K
      try simp only [Act.put, List.setIfInBounds_toArray, List.set_cons_zero, List.set_cons_succ]
      refine wpAnyH_take (i := 13) (v := ?v17) (by simp only [List.getElem?_toArray, List.getElem?_cons_succ, List.getElem?_cons_zero]; exact rfl) (by kernel_rfl) (by kernel_rfl) (by kernel_rfl) (by intro _ _ _ h; exact h) (Or.inl ⟨by rfl, ?y17⟩) hHeld ?_
      case y17 => (intro w hSw; (try dsimp only at hSw); go_simp; try (with_reducible rfl))
      try simp only [Act.put, List.setIfInBounds_toArray, List.set_cons_zero, List.set_cons_succ]
      refine wpAnyH_done (by kernel_rfl) ?_ _
      go_wp2
      go_roundw
      case rel => exact ⟨k + 1, by omega, by go_num, by rw [HT.out]; exact hR5, hq5⟩
      case measure => simp [intOf]; omega
    have hke : k = p.length - 1 := by omega
    have hy1 : decide ((k : Int) + 1 < (p.length : Int)) = false := decide_eq_false (by omega)
    have hy2 : decide (k + 1 < p.length) = false := decide_eq_false (by omega)
    cases c with
    | false =>
      have HT := Lib.hid (show (stepsN p false).take k = stepsN p false from List.take_of_length_le (by rw [hstl, hke]; simp))
      clear hke
      go_wp2
      go_ret
      exact ⟨_, rfl, by rw [HT.out] at hR; exact hR, hq⟩
    | true =>
      have hkl : k < (stepsN p true).length := by rw [hstl, hke]; simp
      have hsg := HSG.out k hkl
      rw [if_neg (by omega)] at hsg
      have HT := Lib.hid (show rowsP (stepsN p true) = rowsP ((stepsN p true).take k) ++ [[((p.getD (p.length - 1) 0 : Nat) : Int), ((p.getD 0 0 : Nat) : Int)]] by
        have h := List.take_succ_eq_append_getElem hkl
        rw [List.take_of_length_le (by rw [hstl, hke]; simp), hsg] at h
        rw [h, rowsP_app, List.take_left' (by rw [List.length_take]; omega)]; rfl)
      have hlen : (rowsP ((stepsN p true).take k)).length = k := by rw [rowsP_len, List.length_take]; omega
      have hcy := fun (W : World) (hb : Below w.heap.size w W) => hec0 W hb (p.length - 1) (by omega)
      have hcz := fun (W : World) (hb : Below w.heap.size w W) => hec0 W hb 0 (by omega)
      simp only [Nat.add_zero] at hcz
      have ca := hcy _ hq
      have cb := hcz _ hq
      have hy3 : (1 : Int) ≤ (p.length : Int) := by omega
      have hy4 : (0 : Int) < (p.length : Int) := by omega
      have hy5 : 0 < p.length := by omega
      generalize p.getD (p.length - 1) 0 = y at *
      generalize p.getD 0 0 = z at *
      generalize rowsP ((stepsN p true).take k) = F at *
      obtain ⟨oa, oc, rfl⟩ := hR.isSlice
      have HLN := Lib.hid hlen
      have hFk : F.length ≤ 64 := by omega
      clear hlen hsg hkl hke hec0
      go_wp2
      refine wp_region_held_drew (S := (fun w' => w'.cell? ⟨eb, eo + (p.length - 1), none⟩ = some (.int .i64 (y : Int)) ∧ w'.cell? ⟨eb, eo, none⟩ = some (.int .i64 (z : Int)))) (by kernel_rfl) ?_ (fun hHeld => ?_)
      · first | exact ⟨‹_›, ‹_›⟩ | (simp [*, go_sem])
      have hqd := hq.drew
      have hRd := hR.drawn (Drawn.refl _).drew
      generalize wi.drew = wd at hqd hRd hHeld ⊢
      have hHeld2 := hHeld
      obtain ⟨da, db⟩ := hHeld2
      have hBd : w.heap.size ≤ wd.heap.size := hqd.size
      refine wpAnyH_take (i := 0) (v := ?v18) (by simp only [List.getElem?_toArray, List.getElem?_cons_zero]; exact rfl) (by kernel_rfl) (by kernel_rfl) (by kernel_rfl) (by intro _ _ _ h; exact h) (Or.inl ⟨by rfl, ?y18⟩) hHeld ?_
      case y18 => (intro w hSw; (try dsimp only at hSw); go_simp; try (with_reducible rfl))
      try simp only [Act.put, List.setIfInBounds_toArray, List.set_cons_zero, List.set_cons_succ]
      refine wpAnyH_take (i := 1) (v := ?v19) (by simp only [List.getElem?_toArray, List.getElem?_cons_succ, List.getElem?_cons_zero]; exact rfl) (by kernel_rfl) (by kernel_rfl) (by kernel_rfl) (by intro _ _ _ h; exact h) (Or.inl ⟨by rfl, ?y19⟩) hHeld ?_
      case y19 => (intro w hSw; (try dsimp only at hSw); go_simp; try (with_reducible rfl))
      try simp only [Act.put, List.setIfInBounds_toArray, List.set_cons_zero, List.set_cons_succ]
      refine wpAnyH_take (i := 2) (v := ?v20) (by simp only [List.getElem?_toArray, List.getElem?_cons_succ, List.getElem?_cons_zero]; exact rfl) (by kernel_rfl) (by kernel_rfl) (by kernel_rfl) (by intro _ _ _ h; exact h) (Or.inl ⟨by rfl, ?y20⟩) hHeld ?_
      case y20 => (intro w hSw; (try dsimp only at hSw); go_simp; try (with_reducible rfl))
      try simp only [Act.put, List.setIfInBounds_toArray, List.set_cons_zero, List.set_cons_succ]
      refine wpAnyH_take (i := 3) (v := ?v21) (by simp only [List.getElem?_toArray, List.getElem?_cons_succ, List.getElem?_cons_zero]; exact rfl) (by kernel_rfl) (by kernel_rfl) (by kernel_rfl) (by intro _ _ _ h; exact h) (Or.inl ⟨by rfl, ?y21⟩) hHeld ?_
      case y21 => (intro w hSw; (try dsimp only at hSw); go_simp; try (with_reducible rfl))
      try simp only [Act.put, List.setIfInBounds_toArray, List.set_cons_zero, List.set_cons_succ]
      refine wpAnyH_take (i := 4) (v := ?v22) (by simp only [List.getElem?_toArray, List.getElem?_cons_succ, List.getElem?_cons_zero]; exact rfl) (by kernel_rfl) (by kernel_rfl) (by kernel_rfl) (by intro _ _ _ h; exact h) (Or.inl ⟨by rfl, ?y22⟩) hHeld ?_
      case y22 => (intro w hSw; (try dsimp only at hSw); go_simp; try (with_reducible rfl))
      try simp only [Act.put, List.setIfInBounds_toArray, List.set_cons_zero, List.set_cons_succ]
      refine wpAnyH_take (i := 5) (v := ?v23) (by simp only [List.getElem?_toArray, List.getElem?_cons_succ, List.getElem?_cons_zero]; exact rfl) (by kernel_rfl) (by kernel_rfl) (by kernel_rfl) (by intro _ _ _ h; exact h) (Or.inl ⟨by rfl, ?y23⟩) hHeld ?_
      case y23 => (intro w hSw; (try dsimp only at hSw); go_simp; try (with_reducible rfl))
      try simp only [Act.put, List.setIfInBounds_toArray, List.set_cons_zero, List.set_cons_succ]
      refine wpAnyH_take (i := 6) (v := ?v24) (by simp only [List.getElem?_toArray, List.getElem?_cons_succ, List.getElem?_cons_zero]; exact rfl) (by kernel_rfl) (by kernel_rfl) (by kernel_rfl) (by intro _ _ _ h; exact h) (Or.inl ⟨by rfl, ?y24⟩) hHeld ?_
      case y24 => (intro w hSw; (try dsimp only at hSw); go_simp; try (with_reducible rfl))
      try simp only [Act.put, List.setIfInBounds_toArray, List.set_cons_zero, List.set_cons_succ]
      refine wpAnyH_take (i := 7) (v := ?v25) (by simp only [List.getElem?_toArray, List.getElem?_cons_succ, List.getElem?_cons_zero]; exact rfl) (by kernel_rfl) (by kernel_rfl) (by kernel_rfl) (by intro _ _ _ h; exact h) (Or.inl ⟨by rfl, ?y25⟩) hHeld ?_
      case y25 => (intro w hSw; (try dsimp only at hSw); go_simp; try (with_reducible rfl))
      try simp only [Act.put, List.setIfInBounds_toArray, List.set_cons_zero, List.set_cons_succ]
      refine wpAnyH_take (i := 8) (v := ?v26) (by simp only [List.getElem?_toArray, List.getElem?_cons_succ, List.getElem?_cons_zero]; exact rfl) (by kernel_rfl) (by kernel_rfl) (by kernel_rfl) (by intro _ _ _ h; exact h) (Or.inl ⟨by rfl, ?y26⟩) hHeld ?_
      case y26 => (intro w hSw; (try dsimp only at hSw); go_simp; try (with_reducible rfl))
      try simp only [Act.put, List.setIfInBounds_toArray, List.set_cons_zero, List.set_cons_succ]
      refine wpAnyH_take (i := 9) (v := ?v27) (by simp only [List.getElem?_toArray, List.getElem?_cons_succ, List.getElem?_cons_zero]; exact rfl) (by kernel_rfl) (by kernel_rfl) (by kernel_rfl) (by intro _ _ _ h; exact h) (Or.inl ⟨by rfl, ?y27⟩) hHeld ?_
      case y27 => (intro w hSw; (try dsimp only at hSw); go_simp; try (with_reducible rfl))
      try simp only [Act.put, List.setIfInBounds_toArray, List.set_cons_zero, List.set_cons_succ]
      refine wpAnyH_ready (rs := [10]) (by kernel_rfl) (by simp) ?_
      refine AllReadyH.cons (by simp only [List.getElem?_toArray, List.getElem?_cons_succ, List.getElem?_cons_zero]; exact rfl) (fun K hK => ?_) AllReadyH.nil
      go_simp
      have hba : Below wd.heap.size wd (wd.alloc (.cells #[.int .i64 (y : Int), .int .i64 (z : Int)] 2)) := (Below.refl _ _).alloc (Nat.le_refl _) _
      have hnew := SlI.lit wd 2 [(y : Int), (z : Int)] 2 rfl (by omega) (by omega)
      simp only [List.map_cons, List.map_nil] at hnew
      have hR2 := hRd.below hba (Nat.le_refl _)
      obtain ⟨vs, hvl, hown, hrows⟩ := hR2
      have hRd' := hRd
      obtain ⟨vs', hvl', hown', -⟩ := hRd'
      have hob := hown'.lt
      have hq2 := hqd.trans (hba.mono hqd.size)
      have da := (hba.cell (cell_lt da)).trans da
      have db := (hba.cell (cell_lt db)).trans db
      try dsimp only
      refine hK.out _ _ ?h29 (fun hHeld => ?_)
      case h29 => first | exact ⟨‹_›, ‹_›⟩ | (simp [*, go_sem])
      clear hK K
      try simp only [Act.put, List.setIfInBounds_toArray, List.set_cons_zero, List.set_cons_succ]
      refine wpAnyH_ready (rs := [11]) (by kernel_rfl) (by simp) ?_
      refine AllReadyH.cons (by simp only [List.getElem?_toArray, List.getElem?_cons_succ, List.getElem?_cons_zero]; exact rfl) (fun K hK => ?_) AllReadyH.nil
      go_simp
      have hbb : Below (wd.alloc (.cells #[.int .i64 (y : Int), .int .i64 (z : Int)] 2)).heap.size (wd.alloc (.cells #[.int .i64 (y : Int), .int .i64 (z : Int)] 2)) ((wd.alloc (.cells #[.int .i64 (y : Int), .int .i64 (z : Int)] 2)).alloc (.cells #[.slice (some ⟨wd.heap.size, 0, none⟩) 2 2] 26)) := (Below.refl _ _).alloc (Nat.le_refl _) _
      have da := (hbb.cell (cell_lt da)).trans da
      have db := (hbb.cell (cell_lt db)).trans db
      try dsimp only
      refine hK.out _ _ ?h31 (fun hHeld => ?_)
      case h31 => first | exact ⟨‹_›, ‹_›⟩ | (simp [*, go_sem])
      clear hK K
      try simp only [Act.put, List.setIfInBounds_toArray, List.set_cons_zero, List.set_cons_succ]
      refine wpAnyH_ready (rs := [12]) (by kernel_rfl) (by simp) ?_
      refine AllReadyH.cons (by simp only [List.getElem?_toArray, List.getElem?_cons_succ, List.getElem?_cons_zero]; exact rfl) (fun K hK => ?_) AllReadyH.nil
      rw [if_pos (by rfl)]
      refine opWp_append1S elRows _ _ rfl hown rfl (by simp) rfl rfl (by omega) (by simp; omega) ?_
      intro o5 w5 hown5 hkept hmv
      have hq5 := hkept.below hq2 hq2.size (fun b hb => by have := (hown.lt b hb).1; omega)
      have da := hcy _ hq5
      have db := hcz _ hq5
      have hR5 : OwnS w5 w.heap.size 26 o5 (F ++ [[(y : Int), (z : Int)]]) := OwnS.app (news := [.slice (some ⟨wd.heap.size, 0, none⟩) 2 2]) hvl rfl hrows (fun i hi hi2 => by (obtain rfl : i = 0 := by simp at hi; omega); exact hnew.weak (fun b hb => ⟨by subst hb; exact hBd, by subst hb; simp, fun e => by subst hb; have := (hob _ e).2; omega⟩)) hown5 hkept hmv (by simp)
      try dsimp only
      refine hK.out _ _ ?h33 (fun hHeld => ?_)
      case h33 => first | exact ⟨‹_›, ‹_›⟩ | (simp [*, go_sem])
      clear hK K
      try simp only [Act.put, List.setIfInBounds_toArray, List.set_cons_zero, List.set_cons_succ]
      refine wpAnyH_take (i := 13) (v := ?v34) (by simp only [List.getElem?_toArray, List.getElem?_cons_succ, List.getElem?_cons_zero]; exact rfl) (by kernel_rfl) (by kernel_rfl) (by kernel_rfl) (by intro _ _ _ h; exact h) (Or.inl ⟨by rfl, ?y34⟩) hHeld ?_
      case y34 => (intro w hSw; (try dsimp only at hSw); go_simp; try (with_reducible rfl))
      try simp only [Act.put, List.setIfInBounds_toArray, List.set_cons_zero, List.set_cons_succ]
      refine wpAnyH_done (by kernel_rfl) ?_ _
      go_wp2
      go_ret
      exact ⟨_, rfl, by rw [HT.out]; exact hR5, hq5⟩
end Go.Proofs.Ytklnjpdpinccoaa
