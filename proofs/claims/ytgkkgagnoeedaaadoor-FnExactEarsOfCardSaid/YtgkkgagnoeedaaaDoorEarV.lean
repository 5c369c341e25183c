/- EarsOf by the reference; the law. -/
import Derived.Test.YtgkkgagnoeedaaaDoorEar6
import Derived.Test.YtgkkgagnoeedaaaDoorEarT
import Derived.Test.YtgkkgagnoeedaaaDoorMark4
namespace Go.Proofs.YtgkkgagnoeedaaaDoor
open Go.RowKit
/-- As OwnS; no block of it is in X. -/
def OwnSX (w : World) (B : Nat) (X : Nat → Prop) (EO : TypeId) (u : Value) (g : List (List Int)) : Prop :=
  ∃ vs : List Value, vs.length = g.length ∧ Own w B EO 1 u g.length vs ∧ (∀ b, u.ownBlock = some b → ¬ X b) ∧ ∀ i (h : i < g.length) (h2 : i < vs.length), SlI (fun b => OffB w B u b ∧ ¬ X b) w .i64 vs[i] g[i]
theorem OwnSX.below {w w' : World} {B B1 : Nat} {X : Nat → Prop} {EO : TypeId} {u : Value} {g : List (List Int)} (h : OwnSX w B X EO u g) (hb : Below B1 w w') (hB : w.heap.size ≤ B1) : OwnSX w' B X EO u g := by
  obtain ⟨vs, h1, h2, hx, h3⟩ := h
  exact ⟨vs, h1, h2.below hb hB, hx, fun i hi hi2 => ((h3 i hi hi2).below hb hB).weak fun b hb2 => ⟨⟨hb2.1.1, Nat.lt_of_lt_of_le hb2.1.2.1 hb.size, hb2.1.2.2⟩, hb2.2⟩⟩
theorem OwnSX.isSlice {w : World} {B : Nat} {X : Nat → Prop} {EO : TypeId} {u : Value} {g : List (List Int)} (h : OwnSX w B X EO u g) : ∃ a c, u = .slice a g.length c := by
  obtain ⟨vs, h1, h2, _, h3⟩ := h; exact h2.isSlice
theorem OwnSX.plain {w : World} {B : Nat} {X : Nat → Prop} {EO : TypeId} {u : Value} {g : List (List Int)} (h : OwnSX w B X EO u g) : OwnS w B EO u g := by
  obtain ⟨vs, h1, h2, _, h3⟩ := h; exact ⟨vs, h1, h2, fun i hi hi2 => (h3 i hi hi2).weak fun _ h => h.1⟩
/-- Where other blocks alone change. -/
theorem OwnSX.keepX {w w' : World} {B : Nat} {X : Nat → Prop} {EO : TypeId} {u : Value} {g : List (List Int)} (h : OwnSX w B X EO u g) (hk : ∀ b, b < w.heap.size → ¬ X b → w'.heap[b]? = w.heap[b]?) (hs : w.heap.size ≤ w'.heap.size) : OwnSX w' B X EO u g := by
  obtain ⟨vs, h1, h2, hx, h3⟩ := h
  exact ⟨vs, h1, h2.keep fun b hb => hk b (h2.lt b hb).2 (hx b hb), hx, fun i hi hi2 => ((h3 i hi hi2).keep fun b hb => hk b hb.1.2.1 hb.2).weak fun b hb => ⟨⟨hb.1.1, Nat.lt_of_lt_of_le hb.1.2.1 hs, hb.1.2.2⟩, hb.2⟩⟩
/-- New blocks may be barred. -/
theorem OwnSX.more {w : World} {B : Nat} {X Y : Nat → Prop} {EO : TypeId} {u : Value} {g : List (List Int)} (h : OwnSX w B X EO u g) (hY : ∀ b, Y b → b < w.heap.size → X b) : OwnSX w B Y EO u g := by
  obtain ⟨vs, h1, h2, hx, h3⟩ := h
  exact ⟨vs, h1, h2, fun b hb e => hx b hb (hY b e (h2.lt b hb).2), fun i hi hi2 => (h3 i hi hi2).weak fun b hb => ⟨hb.1, fun e => hb.2 (hY b e hb.1.2.1)⟩⟩
theorem OwnSX.app {w w' M : World} {B : Nat} {X : Nat → Prop} {EO : TypeId} {u u' : Value} {g g2 : List (List Int)} {vs news : List Value} (hl : vs.length = g.length) (hl2 : news.length = g2.length) (hrow : ∀ i (h : i < g.length) (h2 : i < vs.length), SlI (fun b => OffB w B u b ∧ ¬ X b) w .i64 vs[i] g[i])
    (hnew : ∀ i (h : i < g2.length) (h2 : i < news.length), SlI (fun b => OffB w B u b ∧ ¬ X b) w .i64 news[i] g2[i]) (hown : Own w' B EO 1 u' (g.length + g2.length) (vs ++ news)) (hk : KeptBut w w' u.ownBlock) (hm : Moved M u u') (hM : w.heap.size ≤ M.heap.size)
    (hX : ∀ b, X b → b < w.heap.size) (hnx : ∀ b, u.ownBlock = some b → ¬ X b) : OwnSX w' B X EO u' (g ++ g2) := by
  have ho : ∀ b, (OffB w B u b ∧ ¬ X b) → (OffB w' B u' b ∧ ¬ X b) := fun b hb => ⟨⟨hb.1.1, Off1.app hk hm hM hb.1.2⟩, hb.2⟩
  have hke : ∀ {v : Value} {xs : List Int}, SlI (fun b => OffB w B u b ∧ ¬ X b) w .i64 v xs → SlI (fun b => OffB w' B u' b ∧ ¬ X b) w' .i64 v xs := fun h => (h.keep fun b hb => hk.2.2.2.2 b hb.1.2.1 (fun e => hb.1.2.2 e.symm)).weak ho
  refine ⟨vs ++ news, by simp [hl, hl2], by rw [List.length_append]; exact hown, fun b hb e => ?_, fun i hi hi2 => ?_⟩
  · rcases hm with h | h
    · exact hnx b (by rw [← h]; exact hb) e
    · rw [h] at hb
      have h1 : M.heap.size = b := by simpa using hb
      have := hX b e
      omega
  · by_cases e : i < g.length
    · rw [List.getElem_append_left e, List.getElem_append_left (by omega)]
      exact hke (hrow i e (by omega))
    · rw [List.getElem_append_right (by omega), List.getElem_append_right (by omega)]
      simp only [hl]
      exact hke (hnew _ (by simp at hi; omega) (by simp at hi; omega))
set_option maxRecDepth 100000 in
set_option maxHeartbeats 8000000 in
theorem l19UseX_any {S : Nat → Prop} {X : Nat → Prop} {B m : Nat} {ev mv uv : Value} {p : List Nat} {U : List NP} {w : World} (he : SlI S w .i64 ev (natsI p)) (hp1 : 1 ≤ p.length) (hp : ∀ a ∈ p, a < 16) (hp32 : p.length ≤ 32) (hm32 : m < 65536) (hmv : OwnB w B 2 mv m) (huv : OwnSX w B X 51 uv (rowsP U)) (hU : U.length ≤ 4096) (hB : B ≤ w.heap.size) (hX : ∀ b, X b → b < w.heap.size) :
    Calls Tryd.prog 67 #[ev, mv, uv] w fun e w' => ∃ mv' uv', e = .returned (.tuple #[mv', uv']) ∧ OwnB w' B 2 mv' (m ||| maskL (natsI p)) ∧ OwnSX w' B X 51 uv' (rowsP (useU U (stepsN p (m == 0)))) ∧ Below B w w' ∧ ∀ b, b < w.heap.size → uv.ownBlock ≠ some b → w'.heap[b]? = w.heap[b]? := by
  have hmz : (bitsI m).length = 0 ↔ m = 0 := by rw [← bitsI_nil (show m < 4294967296 by omega)]; exact List.length_eq_zero_iff
  have hml := bitsI_len m
  have hf1 : (((bitsI m).length : Int) == 0) = (m == 0) := by rw [Bool.eq_iff_iff, beq_iff_eq, beq_iff_eq, ← hmz]; omega
  have hf2 : ((bitsI m).length == 0) = (m == 0) := by rw [Bool.eq_iff_iff, beq_iff_eq, beq_iff_eq, ← hmz]
  have hsl := stepsN_len p (m == 0)
  have hsl2 : (stepsN p (m == 0)).length ≤ 64 := by rw [hsl]; split <;> omega
  have hst := l19Steps_any (c := (m == 0)) he hp1 hp32
  generalize (m == 0) = fb at *
  generalize stepsN p fb = ST at *
  obtain ⟨ma, mc, rfl⟩ := hmv.isSlice
  obtain ⟨eb, eo, ecap, hee, hec⟩ := he.at_
  have hee := hee (by rw [natsI_len]; omega)
  subst hee
  rw [natsI_len] at *
  obtain ⟨ua, uc, rfl⟩ := huv.isSlice
  simp only [rowsP_len] at *
  have hec0 : ∀ W : World, Below w.heap.size w W → ∀ i, i < p.length → W.cell? ⟨eb, eo + i, none⟩ = some (.int .i64 ((p.getD i 0 : Nat) : Int)) := fun W hb i hi => by
    have h := hec i (by rw [natsI_len]; exact hi)
    refine ((hb.cell (p := ⟨eb, eo + i, none⟩) (cell_lt h)).trans h).trans ?_
    simp [natsI, hi]
  have hp16 : ∀ i, i < p.length → p.getD i 0 < 16 := fun i hi => by
    have : p.getD i 0 = p[i] := by simp [hi]
    rw [this]; exact hp _ (List.getElem_mem _)
  have hmk : ∀ k, m ||| maskL ((natsI p).take k) < 65536 := fun k => by
    have : maskL ((natsI p).take k) < 2 ^ 16 := maskL_lt fun x hx => by
      obtain ⟨a, ha, rfl⟩ := List.mem_map.1 (List.mem_of_mem_take hx)
      have := hp a ha; omega
    exact Nat.or_lt_two_pow (n := 16) hm32 this
  have hm0 : m ||| maskL ((natsI p).take 0) = m := by simp [maskL]
  have HEC := Lib.hid hec0
  have HP16 := Lib.hid hp16
  have HMK := Lib.hid hmk
  clear hec hsl hmz hec0 hp16 hmk
  go_enter Tryd.func67, Tryd.ntmps67
  go_wp2_with fail
  refine hst.mono ?_
  rintro e w1 ⟨su, rfl, hsu, hb1⟩
  have hsr0 := hsu.rowsB (by rw [rowsP_len]; omega)
  obtain ⟨sa, sc, rfl⟩ := hsr0.slice
  simp only [rowsP_len] at *
  have hmv1 : OwnB w1 B 2 (.slice ma (bitsI m).length mc) (m ||| maskL ((natsI p).take 0)) := by rw [hm0]; exact hmv.below hb1 (Nat.le_refl _)
  clear hst hsu hm0
  go_wp2
  go_loopw [1, 9] (fun v i wr => ∃ k : Nat, k ≤ p.length ∧ i = .int .i64 k ∧ OwnB wr B 2 v (m ||| maskL ((natsI p).take k)) ∧ Below w1.heap.size w1 wr) (fun _ i _ => p.length - (intOf i).toNat)
  case atStart => exact ⟨0, Nat.zero_le _, rfl, hmv1, Below.refl _ _⟩
  case round =>
    clear hmv1
    obtain ⟨k, hk, rfl, hv, hq1⟩ := hrel
    obtain ⟨wi, rfl⟩ : ∃ wx : World, wx = wr := ⟨_, rfl⟩
    have hq := hb1.trans (hq1.mono hb1.size)
    by_cases hlt : k < p.length
    case pos =>
      have ca := HEC.out _ hq k hlt
      have hy := HP16.out k hlt
      have HM := Lib.hid (show m ||| maskL ((natsI p).take (k + 1)) = m ||| maskL ((natsI p).take k) ||| bit (p.getD k 0) by rw [maskL_natsI hlt, Nat.or_assoc])
      have hm2 := HMK.out k
      have hBi : B ≤ wi.heap.size := Nat.le_trans hB hq.size
      generalize p.getD k 0 = y at *
      generalize m ||| maskL ((natsI p).take k) = M at *
      obtain ⟨va, vc, rfl⟩ := hv.isSlice
      go_wp2_with fail
      refine (intoB_any (x := y) hv hBi (by omega) (by omega)).mono ?_
      rintro e w2 ⟨v2, rfl, hv2, hb2⟩
      go_wp2
      go_roundw
      case rel => exact ⟨k + 1, by omega, by go_num, by rw [HM.out]; exact hv2, hq1.trans (hb2.mono hq1.size)⟩
      case measure => simp [intOf]; omega
    obtain rfl : k = p.length := by omega
    rw [List.take_of_length_le (by rw [natsI_len]; exact Nat.le_refl _)] at hv
    have hu0 : OwnSX wi B X 51 (.slice ua U.length uc) (rowsP (useU U (ST.take 0))) := by rw [List.take_zero, useU_nil]; exact huv.below hq (Nat.le_refl _)
    have hs0 : SlR (Off1 wi (.slice ua U.length uc)) wi (.slice sa ST.length sc) (rowsP ST) := (hsr0.below hq1 (Nat.le_refl _)).weak fun b hb => ⟨Nat.lt_of_lt_of_le hb.2 hq1.size, fun e => by
      obtain ⟨vs, _, ho, _, _⟩ := huv
      have := (ho.lt b e).2; have := hb.1; omega⟩
    have hqB := hq.mono hB
    generalize hMM : m ||| maskL (natsI p) = M at *
    have HMM := Lib.hid hMM
    clear hMM
    obtain ⟨va, vc, rfl⟩ := hv.isSlice
    have HK1 : RowKit.Hid (∀ b, b < w.heap.size → (Value.slice ua U.length uc).ownBlock ≠ some b → wi.heap[b]? = w.heap[b]?) := Lib.hid (fun b hb _ => hq.block b hb)
    have HK2 : RowKit.Hid (∀ b, (Value.slice ua U.length uc).ownBlock = some b → (Value.slice ua U.length uc).ownBlock = some b ∨ w.heap.size ≤ b) := Lib.hid (fun b hb => .inl hb)
    clear hq1 hsr0 hq
    go_wp2
    go_loopw [2, 10] (fun u i wr => ∃ k : Nat, k ≤ ST.length ∧ i = .int .i64 k ∧ OwnSX wr B X 51 u (rowsP (useU U (ST.take k))) ∧ SlR (Off1 wr u) wr (.slice sa ST.length sc) (rowsP ST) ∧ OwnB wr B 2 (.slice va (bitsI M).length vc) M ∧ Below B w wr ∧ RowKit.Hid (∀ b, b < w.heap.size → (Value.slice ua U.length uc).ownBlock ≠ some b → wr.heap[b]? = w.heap[b]?) ∧ RowKit.Hid (∀ b, u.ownBlock = some b → (Value.slice ua U.length uc).ownBlock = some b ∨ w.heap.size ≤ b)) (fun _ i _ => ST.length - (intOf i).toNat)
    case atStart => exact ⟨0, Nat.zero_le _, rfl, hu0, hs0, hv, hqB, HK1, HK2⟩
    case round =>
      clear hu0 hs0 hv hqB HK1 HK2
      obtain ⟨k, hk, rfl, hu, hs, hv, hq, HK1, HK2⟩ := hrel
      obtain ⟨wi, rfl⟩ : ∃ wx : World, wx = wr := ⟨_, rfl⟩
      obtain ⟨oa, oc, rfl⟩ := hu.isSlice
      by_cases hlt : k < ST.length
      case neg =>
        obtain rfl : k = ST.length := by omega
        have hu2 : OwnSX wi B X 51 (.slice oa (rowsP (useU U (ST.take ST.length))).length oc) (rowsP (useU U ST)) := by have h := hu; rw [List.take_length] at h ⊢; exact h
        go_wp2
        go_ret2
        exact ⟨.slice va (bitsI M).length vc, .slice oa (rowsP (useU U (ST.take ST.length))).length oc, rfl, by rw [HMM.out]; exact hv, hu2, hq, HK1.out⟩
      obtain ⟨b, off, cap, rb, ro, rc, hve, c0, c1, c2, hSb, hSr⟩ := hs.pairS hlt
      simp only [Value.slice.injEq, true_and] at hve
      obtain ⟨rfl, rfl⟩ := hve
      have HT := Lib.hid (show rowsP (useU U (ST.take (k + 1))) = rowsP (useU U (ST.take k)) ++ [[(ST[k].1 : Int), (ST[k].2 : Int)], [(ST[k].2 : Int), (ST[k].1 : Int)]] by rw [useU_take hlt, rowsP_app]; rfl)
      have hFl : (rowsP (useU U (ST.take k))).length ≤ 8192 := by rw [rowsP_len, useU_len, List.length_take]; omega
      generalize rowsP (useU U (ST.take k)) = F at *
      generalize ST[k] = s at *
      obtain ⟨y, z⟩ := s
      simp only at c1 c2 HT
      have hBi : B ≤ wi.heap.size := Nat.le_trans hB hq.size
      go_wp2
      refine wp_region_held_drew (S := (fun w' => w'.cell? ⟨b, off + k, none⟩ = some (.slice (some ⟨rb, ro, none⟩) 2 rc) ∧ w'.cell? ⟨rb, ro, none⟩ = some (.int .i64 (y : Int)) ∧ w'.cell? ⟨rb, ro + 1, none⟩ = some (.int .i64 (z : Int)))) (by kernel_rfl) ?_ (fun hHeld => ?_)
      · first | exact ⟨‹_›, ‹_›, ‹_›⟩ | assumption | (simp [*, go_sem])
      have hdb := (Below.refl wi.heap.size wi).drew
      have hqd := hq.drew
      have hud := hu.below hdb (Nat.le_refl _)
      have hsd := hs.offBelow hdb
      have hvd := hv.below hdb (Nat.le_refl _)
      have hSbd : Off1 wi.drew (.slice oa F.length oc) b := hSb
      have hSrd : Off1 wi.drew (.slice oa F.length oc) rb := hSr
      have hBd : B ≤ wi.drew.heap.size := hBi
      have hws : w.heap.size ≤ wi.drew.heap.size := hq.size
      have HKd : RowKit.Hid (∀ b, b < w.heap.size → (Value.slice ua U.length uc).ownBlock ≠ some b → wi.drew.heap[b]? = w.heap[b]?) := HK1
      generalize wi.drew = wd at hqd hud hsd hvd hSbd hSrd hBd hHeld hws HKd ⊢
      obtain ⟨N, hN⟩ : ∃ n, n = wd.heap.size := ⟨_, rfl⟩
      have hob : ∀ x, (Value.slice oa F.length oc).ownBlock = some x → x < N := (by obtain ⟨_, _, ho, _, _⟩ := hud; intro x hx; rw [hN]; exact (ho.lt x hx).2)
      have hNl : N ≤ wd.heap.size := Nat.le_of_eq hN
      have hBN : B ≤ N := by omega
      have hwN : w.heap.size ≤ N := by omega
      clear hN
      have hHeld2 := hHeld
      obtain ⟨d0, d1, d2⟩ := hHeld2
      refine wpAnyH_take (i := 0) (v := ?v1) (by simp only [List.getElem?_toArray, List.getElem?_cons_zero]; exact rfl) (by kernel_rfl) (by kernel_rfl) (by kernel_rfl) (by intro _ _ _ h; exact h) (Or.inl ⟨by rfl, ?y1⟩) hHeld ?_
      case y1 => (intro w hSw; (try dsimp only at hSw); go_simp; try (with_reducible rfl))
      try simp only [Act.put, List.setIfInBounds_toArray, List.set_cons_zero, List.set_cons_succ]
      refine wpAnyH_take (i := 1) (v := ?v2) (by simp only [List.getElem?_toArray, List.getElem?_cons_succ, List.getElem?_cons_zero]; exact rfl) (by kernel_rfl) (by kernel_rfl) (by kernel_rfl) (by intro _ _ _ h; exact h) (Or.inl ⟨by rfl, ?y2⟩) hHeld ?_
      case y2 => (intro w hSw; (try dsimp only at hSw); go_simp; try (with_reducible rfl))
      try simp only [Act.put, List.setIfInBounds_toArray, List.set_cons_zero, List.set_cons_succ]
      refine wpAnyH_take (i := 2) (v := ?v3) (by simp only [List.getElem?_toArray, List.getElem?_cons_succ, List.getElem?_cons_zero]; exact rfl) (by kernel_rfl) (by kernel_rfl) (by kernel_rfl) (by intro _ _ _ h; exact h) (Or.inl ⟨by rfl, ?y3⟩) hHeld ?_
      case y3 => (intro w hSw; (try dsimp only at hSw); go_simp; try (with_reducible rfl))
      try simp only [Act.put, List.setIfInBounds_toArray, List.set_cons_zero, List.set_cons_succ]
      refine wpAnyH_take (i := 3) (v := ?v4) (by simp only [List.getElem?_toArray, List.getElem?_cons_succ, List.getElem?_cons_zero]; exact rfl) (by kernel_rfl) (by kernel_rfl) (by kernel_rfl) (by intro _ _ _ h; exact h) (Or.inl ⟨by rfl, ?y4⟩) hHeld ?_
      case y4 => (intro w hSw; (try dsimp only at hSw); go_simp; try (with_reducible rfl))
      try simp only [Act.put, List.setIfInBounds_toArray, List.set_cons_zero, List.set_cons_succ]
      refine wpAnyH_take (i := 4) (v := ?v5) (by simp only [List.getElem?_toArray, List.getElem?_cons_succ, List.getElem?_cons_zero]; exact rfl) (by kernel_rfl) (by kernel_rfl) (by kernel_rfl) (by intro _ _ _ h; exact h) (Or.inl ⟨by rfl, ?y5⟩) hHeld ?_
      case y5 => (intro w hSw; (try dsimp only at hSw); go_simp; try (with_reducible rfl))
      try simp only [Act.put, List.setIfInBounds_toArray, List.set_cons_zero, List.set_cons_succ]
      refine wpAnyH_take (i := 5) (v := ?v6) (by simp only [List.getElem?_toArray, List.getElem?_cons_succ, List.getElem?_cons_zero]; exact rfl) (by kernel_rfl) (by kernel_rfl) (by kernel_rfl) (by intro _ _ _ h; exact h) (Or.inl ⟨by rfl, ?y6⟩) hHeld ?_
      case y6 => (intro w hSw; (try dsimp only at hSw); go_simp; try (with_reducible rfl))
      try simp only [Act.put, List.setIfInBounds_toArray, List.set_cons_zero, List.set_cons_succ]
      refine wpAnyH_take (i := 6) (v := ?v7) (by simp only [List.getElem?_toArray, List.getElem?_cons_succ, List.getElem?_cons_zero]; exact rfl) (by kernel_rfl) (by kernel_rfl) (by kernel_rfl) (by intro _ _ _ h; exact h) (Or.inl ⟨by rfl, ?y7⟩) hHeld ?_
      case y7 => (intro w hSw; (try dsimp only at hSw); go_simp; try (with_reducible rfl))
      try simp only [Act.put, List.setIfInBounds_toArray, List.set_cons_zero, List.set_cons_succ]
      refine wpAnyH_take (i := 7) (v := ?v8) (by simp only [List.getElem?_toArray, List.getElem?_cons_succ, List.getElem?_cons_zero]; exact rfl) (by kernel_rfl) (by kernel_rfl) (by kernel_rfl) (by intro _ _ _ h; exact h) (Or.inl ⟨by rfl, ?y8⟩) hHeld ?_
      case y8 => (intro w hSw; (try dsimp only at hSw); go_simp; try (with_reducible rfl))
      try simp only [Act.put, List.setIfInBounds_toArray, List.set_cons_zero, List.set_cons_succ]
      refine wpAnyH_take (i := 8) (v := ?v9) (by simp only [List.getElem?_toArray, List.getElem?_cons_succ, List.getElem?_cons_zero]; exact rfl) (by kernel_rfl) (by kernel_rfl) (by kernel_rfl) (by intro _ _ _ h; exact h) (Or.inl ⟨by rfl, ?y9⟩) hHeld ?_
      case y9 => (intro w hSw; (try dsimp only at hSw); go_simp; try (with_reducible rfl))
      try simp only [Act.put, List.setIfInBounds_toArray, List.set_cons_zero, List.set_cons_succ]
      refine wpAnyH_take (i := 9) (v := ?v10) (by simp only [List.getElem?_toArray, List.getElem?_cons_succ, List.getElem?_cons_zero]; exact rfl) (by kernel_rfl) (by kernel_rfl) (by kernel_rfl) (by intro _ _ _ h; exact h) (Or.inl ⟨by rfl, ?y10⟩) hHeld ?_
      case y10 => (intro w hSw; (try dsimp only at hSw); go_simp; try (with_reducible rfl))
      try simp only [Act.put, List.setIfInBounds_toArray, List.set_cons_zero, List.set_cons_succ]
      refine wpAnyH_take (i := 10) (v := ?v11) (by simp only [List.getElem?_toArray, List.getElem?_cons_succ, List.getElem?_cons_zero]; exact rfl) (by kernel_rfl) (by kernel_rfl) (by kernel_rfl) (by intro _ _ _ h; exact h) (Or.inl ⟨by rfl, ?y11⟩) hHeld ?_
      case y11 => (intro w hSw; (try dsimp only at hSw); go_simp; try (with_reducible rfl))
      try simp only [Act.put, List.setIfInBounds_toArray, List.set_cons_zero, List.set_cons_succ]
      refine wpAnyH_take (i := 11) (v := ?v12) (by simp only [List.getElem?_toArray, List.getElem?_cons_succ, List.getElem?_cons_zero]; exact rfl) (by kernel_rfl) (by kernel_rfl) (by kernel_rfl) (by intro _ _ _ h; exact h) (Or.inl ⟨by rfl, ?y12⟩) hHeld ?_
      case y12 => (intro w hSw; (try dsimp only at hSw); go_simp; try (with_reducible rfl))
      try simp only [Act.put, List.setIfInBounds_toArray, List.set_cons_zero, List.set_cons_succ]
      refine wpAnyH_take (i := 12) (v := ?v13) (by simp only [List.getElem?_toArray, List.getElem?_cons_succ, List.getElem?_cons_zero]; exact rfl) (by kernel_rfl) (by kernel_rfl) (by kernel_rfl) (by intro _ _ _ h; exact h) (Or.inl ⟨by rfl, ?y13⟩) hHeld ?_
      case y13 => (intro w hSw; (try dsimp only at hSw); go_simp; try (with_reducible rfl))
      try simp only [Act.put, List.setIfInBounds_toArray, List.set_cons_zero, List.set_cons_succ]
      refine wpAnyH_take (i := 14) (v := ?v14) (by simp only [List.getElem?_toArray, List.getElem?_cons_succ, List.getElem?_cons_zero]; exact rfl) (by kernel_rfl) (by kernel_rfl) (by kernel_rfl) (by intro _ _ _ h; exact h) (Or.inl ⟨by rfl, ?y14⟩) hHeld ?_
      case y14 => (intro w hSw; (try dsimp only at hSw); go_simp; try (with_reducible rfl))
      try simp only [Act.put, List.setIfInBounds_toArray, List.set_cons_zero, List.set_cons_succ]
      refine wpAnyH_take (i := 15) (v := ?v15) (by simp only [List.getElem?_toArray, List.getElem?_cons_succ, List.getElem?_cons_zero]; exact rfl) (by kernel_rfl) (by kernel_rfl) (by kernel_rfl) (by intro _ _ _ h; exact h) (Or.inl ⟨by rfl, ?y15⟩) hHeld ?_
      case y15 => (intro w hSw; (try dsimp only at hSw); go_simp; try (with_reducible rfl))
      try simp only [Act.put, List.setIfInBounds_toArray, List.set_cons_zero, List.set_cons_succ]
      refine wpAnyH_take (i := 16) (v := ?v16) (by simp only [List.getElem?_toArray, List.getElem?_cons_succ, List.getElem?_cons_zero]; exact rfl) (by kernel_rfl) (by kernel_rfl) (by kernel_rfl) (by intro _ _ _ h; exact h) (Or.inl ⟨by rfl, ?y16⟩) hHeld ?_
      case y16 => (intro w hSw; (try dsimp only at hSw); go_simp; try (with_reducible rfl))
      try simp only [Act.put, List.setIfInBounds_toArray, List.set_cons_zero, List.set_cons_succ]
      refine wpAnyH_take (i := 17) (v := ?v17) (by simp only [List.getElem?_toArray, List.getElem?_cons_succ, List.getElem?_cons_zero]; exact rfl) (by kernel_rfl) (by kernel_rfl) (by kernel_rfl) (by intro _ _ _ h; exact h) (Or.inl ⟨by rfl, ?y17⟩) hHeld ?_
      case y17 => (intro w hSw; (try dsimp only at hSw); go_simp; try (with_reducible rfl))
      try simp only [Act.put, List.setIfInBounds_toArray, List.set_cons_zero, List.set_cons_succ]
      refine wpAnyH_take (i := 18) (v := ?v18) (by simp only [List.getElem?_toArray, List.getElem?_cons_succ, List.getElem?_cons_zero]; exact rfl) (by kernel_rfl) (by kernel_rfl) (by kernel_rfl) (by intro _ _ _ h; exact h) (Or.inl ⟨by rfl, ?y18⟩) hHeld ?_
      case y18 => (intro w hSw; (try dsimp only at hSw); go_simp; try (with_reducible rfl))
      try simp only [Act.put, List.setIfInBounds_toArray, List.set_cons_zero, List.set_cons_succ]
      refine wpAnyH_take (i := 19) (v := ?v19) (by simp only [List.getElem?_toArray, List.getElem?_cons_succ, List.getElem?_cons_zero]; exact rfl) (by kernel_rfl) (by kernel_rfl) (by kernel_rfl) (by intro _ _ _ h; exact h) (Or.inl ⟨by rfl, ?y19⟩) hHeld ?_
      case y19 => (intro w hSw; (try dsimp only at hSw); go_simp; try (with_reducible rfl))
      try simp only [Act.put, List.setIfInBounds_toArray, List.set_cons_zero, List.set_cons_succ]
      refine wpAnyH_take (i := 20) (v := ?v20) (by simp only [List.getElem?_toArray, List.getElem?_cons_succ, List.getElem?_cons_zero]; exact rfl) (by kernel_rfl) (by kernel_rfl) (by kernel_rfl) (by intro _ _ _ h; exact h) (Or.inl ⟨by rfl, ?y20⟩) hHeld ?_
      case y20 => (intro w hSw; (try dsimp only at hSw); go_simp; try (with_reducible rfl))
      try simp only [Act.put, List.setIfInBounds_toArray, List.set_cons_zero, List.set_cons_succ]
      refine wpAnyH_take (i := 21) (v := ?v21) (by simp only [List.getElem?_toArray, List.getElem?_cons_succ, List.getElem?_cons_zero]; exact rfl) (by kernel_rfl) (by kernel_rfl) (by kernel_rfl) (by intro _ _ _ h; exact h) (Or.inl ⟨by rfl, ?y21⟩) hHeld ?_
      case y21 => (intro w hSw; (try dsimp only at hSw); go_simp; try (with_reducible rfl))
      try simp only [Act.put, List.setIfInBounds_toArray, List.set_cons_zero, List.set_cons_succ]
      refine wpAnyH_take (i := 22) (v := ?v22) (by simp only [List.getElem?_toArray, List.getElem?_cons_succ, List.getElem?_cons_zero]; exact rfl) (by kernel_rfl) (by kernel_rfl) (by kernel_rfl) (by intro _ _ _ h; exact h) (Or.inl ⟨by rfl, ?y22⟩) hHeld ?_
      case y22 => (intro w hSw; (try dsimp only at hSw); go_simp; try (with_reducible rfl))
      try simp only [Act.put, List.setIfInBounds_toArray, List.set_cons_zero, List.set_cons_succ]
      refine wpAnyH_take (i := 23) (v := ?v23) (by simp only [List.getElem?_toArray, List.getElem?_cons_succ, List.getElem?_cons_zero]; exact rfl) (by kernel_rfl) (by kernel_rfl) (by kernel_rfl) (by intro _ _ _ h; exact h) (Or.inl ⟨by rfl, ?y23⟩) hHeld ?_
      case y23 => (intro w hSw; (try dsimp only at hSw); go_simp; try (with_reducible rfl))
      try simp only [Act.put, List.setIfInBounds_toArray, List.set_cons_zero, List.set_cons_succ]
      refine wpAnyH_take (i := 24) (v := ?v24) (by simp only [List.getElem?_toArray, List.getElem?_cons_succ, List.getElem?_cons_zero]; exact rfl) (by kernel_rfl) (by kernel_rfl) (by kernel_rfl) (by intro _ _ _ h; exact h) (Or.inl ⟨by rfl, ?y24⟩) hHeld ?_
      case y24 => (intro w hSw; (try dsimp only at hSw); go_simp; try (with_reducible rfl))
      try simp only [Act.put, List.setIfInBounds_toArray, List.set_cons_zero, List.set_cons_succ]
      refine wpAnyH_take (i := 25) (v := ?v25) (by simp only [List.getElem?_toArray, List.getElem?_cons_succ, List.getElem?_cons_zero]; exact rfl) (by kernel_rfl) (by kernel_rfl) (by kernel_rfl) (by intro _ _ _ h; exact h) (Or.inl ⟨by rfl, ?y25⟩) hHeld ?_
      case y25 => (intro w hSw; (try dsimp only at hSw); go_simp; try (with_reducible rfl))
      try simp only [Act.put, List.setIfInBounds_toArray, List.set_cons_zero, List.set_cons_succ]
      refine wpAnyH_ready (rs := [13, 26]) (by kernel_rfl) (by simp) ?_
      refine (AllReadyH.cons (by simp only [List.getElem?_toArray, List.getElem?_cons_succ, List.getElem?_cons_zero]; exact rfl) (fun K hK => ?b26_13) (AllReadyH.cons (by simp only [List.getElem?_toArray, List.getElem?_cons_succ, List.getElem?_cons_zero]; exact rfl) (fun K hK => ?b26_26) AllReadyH.nil))
      case b26_13 =>
        go_simp
        obtain ⟨hbx, hn1⟩ := lit2 wd 2 (y : Int) (z : Int) hNl
        generalize hW : wd.alloc (.cells #[.int .i64 (y : Int), .int .i64 (z : Int)] 2) = wn at hbx hn1 ⊢
        clear hW
        have HKd : RowKit.Hid (∀ b, b < w.heap.size → (Value.slice ua U.length uc).ownBlock ≠ some b → wn.heap[b]? = w.heap[b]?) := Lib.hid (fun b hb hn => (hbx.block b (Nat.lt_of_lt_of_le hb hws)).trans (HKd.out b hb hn))
        have hws := Nat.le_trans hws hbx.size
        obtain ⟨n1, hn1e⟩ : ∃ n, n = wd.heap.size := ⟨_, rfl⟩
        rw [← hn1e] at hn1 ⊢
        have hqd := hqd.trans (hbx.mono hBd)
        have hud := hud.below hbx (Nat.le_refl _)
        have hsd := hsd.offBelow hbx
        have hvd := hvd.below hbx (Nat.le_refl _)
        have hSbd : Off1 wn (.slice oa F.length oc) b := ⟨Nat.lt_of_lt_of_le hSbd.1 hbx.size, hSbd.2⟩
        have hSrd : Off1 wn (.slice oa F.length oc) rb := ⟨Nat.lt_of_lt_of_le hSrd.1 hbx.size, hSrd.2⟩
        have hBd := Nat.le_trans hBd hbx.size
        have hNl := Nat.le_trans hNl hbx.size
        have d0 := (hbx.cell (cell_lt d0)).trans d0
        have d1 := (hbx.cell (cell_lt d1)).trans d1
        have d2 := (hbx.cell (cell_lt d2)).trans d2
        try (have hn2 := hn2.below hbx (Nat.le_refl _))
        clear hn1e
        obtain ⟨wd, rfl⟩ : ∃ wx : World, wx = wn := ⟨_, rfl⟩
        try dsimp only
        refine hK.out _ _ ?h27 (fun hHeld => ?_)
        case h27 => first | exact ⟨‹_›, ‹_›, ‹_›⟩ | assumption | (simp [*, go_sem])
        clear hK K
        try simp only [Act.put, List.setIfInBounds_toArray, List.set_cons_zero, List.set_cons_succ]
        refine wpAnyH_ready (rs := [26]) (by kernel_rfl) (by simp) ?_
        refine AllReadyH.cons (by simp only [List.getElem?_toArray, List.getElem?_cons_succ, List.getElem?_cons_zero]; exact rfl) (fun K hK => ?_) AllReadyH.nil
        go_simp
        obtain ⟨hbx, hn2⟩ := lit2 wd 2 (z : Int) (y : Int) hNl
        generalize hW : wd.alloc (.cells #[.int .i64 (z : Int), .int .i64 (y : Int)] 2) = wn at hbx hn2 ⊢
        clear hW
        have HKd : RowKit.Hid (∀ b, b < w.heap.size → (Value.slice ua U.length uc).ownBlock ≠ some b → wn.heap[b]? = w.heap[b]?) := Lib.hid (fun b hb hn => (hbx.block b (Nat.lt_of_lt_of_le hb hws)).trans (HKd.out b hb hn))
        have hws := Nat.le_trans hws hbx.size
        obtain ⟨n2, hn2e⟩ : ∃ n, n = wd.heap.size := ⟨_, rfl⟩
        rw [← hn2e] at hn2 ⊢
        have hqd := hqd.trans (hbx.mono hBd)
        have hud := hud.below hbx (Nat.le_refl _)
        have hsd := hsd.offBelow hbx
        have hvd := hvd.below hbx (Nat.le_refl _)
        have hSbd : Off1 wn (.slice oa F.length oc) b := ⟨Nat.lt_of_lt_of_le hSbd.1 hbx.size, hSbd.2⟩
        have hSrd : Off1 wn (.slice oa F.length oc) rb := ⟨Nat.lt_of_lt_of_le hSrd.1 hbx.size, hSrd.2⟩
        have hBd := Nat.le_trans hBd hbx.size
        have hNl := Nat.le_trans hNl hbx.size
        have d0 := (hbx.cell (cell_lt d0)).trans d0
        have d1 := (hbx.cell (cell_lt d1)).trans d1
        have d2 := (hbx.cell (cell_lt d2)).trans d2
        try (have hn1 := hn1.below hbx (Nat.le_refl _))
        clear hn2e
        obtain ⟨wd, rfl⟩ : ∃ wx : World, wx = wn := ⟨_, rfl⟩
        try dsimp only
        refine hK.out _ _ ?h29 (fun hHeld => ?_)
        case h29 => first | exact ⟨‹_›, ‹_›, ‹_›⟩ | assumption | (simp [*, go_sem])
        clear hK K
        try simp only [Act.put, List.setIfInBounds_toArray, List.set_cons_zero, List.set_cons_succ]
        refine wpAnyH_ready (rs := [27]) (by kernel_rfl) (by simp) ?_
        refine AllReadyH.cons (by simp only [List.getElem?_toArray, List.getElem?_cons_succ, List.getElem?_cons_zero]; exact rfl) (fun K hK => ?_) AllReadyH.nil
        go_simp
        have hbb : Below wd.heap.size wd (wd.alloc (.cells #[.slice (some ⟨n1, 0, none⟩) 2 2, .slice (some ⟨n2, 0, none⟩) 2 2] 51)) := (Below.refl _ _).alloc (Nat.le_refl _) _
        have d0 := (hbb.cell (cell_lt d0)).trans d0
        have d1 := (hbb.cell (cell_lt d1)).trans d1
        have d2 := (hbb.cell (cell_lt d2)).trans d2
        obtain ⟨vs, hvl, hown, hnx, hrows⟩ := hud
        try dsimp only
        refine hK.out _ _ ?h31 (fun hHeld => ?_)
        case h31 => first | exact ⟨‹_›, ‹_›, ‹_›⟩ | assumption | (simp [*, go_sem])
        clear hK K
        try simp only [Act.put, List.setIfInBounds_toArray, List.set_cons_zero, List.set_cons_succ]
        refine wpAnyH_ready (rs := [28]) (by kernel_rfl) (by simp) ?_
        refine AllReadyH.cons (by simp only [List.getElem?_toArray, List.getElem?_cons_succ, List.getElem?_cons_zero]; exact rfl) (fun K hK => ?_) AllReadyH.nil
        rw [if_pos (by rfl)]
        refine opWp_append2 elRows _ _ rfl hown rfl rfl rfl rfl rfl (by omega) hBd ?_
        intro o5 w5 hown5 hkept hmv
        have HK5 : RowKit.Hid (∀ b, b < w.heap.size → (Value.slice ua U.length uc).ownBlock ≠ some b → w5.heap[b]? = w.heap[b]?) := Lib.hid (fun b hb hn => (hkept.2.2.2.2 b (Nat.lt_of_lt_of_le hb hws) (fun e => (HK2.out b e.symm).elim hn (fun h => by omega))).trans (HKd.out b hb hn))
        have HK6 : RowKit.Hid (∀ b, o5.ownBlock = some b → (Value.slice ua U.length uc).ownBlock = some b ∨ w.heap.size ≤ b) := Lib.hid (fun b hb => hmv.elim (fun h => HK2.out b (by rw [← h]; exact hb)) (fun h => Or.inr (by rw [h] at hb; have := hbb.size; have e : _ = b := (Option.some.inj hb); omega)))
        have hq5 := hkept.below hqd hBd (fun x hx => (hown.lt x hx).1)
        have d0 := (World.cell?_of_block (a := ⟨b, off + k, none⟩) (hkept.2.2.2.2 b hSbd.1 (fun e => hSbd.2 e.symm))).trans ‹World.cell? wd ⟨b, off + k, none⟩ = _›
        have d1 := (World.cell?_of_block (a := ⟨rb, ro, none⟩) (hkept.2.2.2.2 rb hSrd.1 (fun e => hSrd.2 e.symm))).trans ‹World.cell? wd ⟨rb, ro, none⟩ = _›
        have d2 := (World.cell?_of_block (a := ⟨rb, ro + 1, none⟩) (hkept.2.2.2.2 rb hSrd.1 (fun e => hSrd.2 e.symm))).trans ‹World.cell? wd ⟨rb, ro + 1, none⟩ = _›
        have hu5 : OwnSX w5 B X 51 o5 (F ++ [[(y : Int), (z : Int)], [(z : Int), (y : Int)]]) := OwnSX.app (X := X) (news := [.slice (some ⟨n1, 0, none⟩) 2 2, .slice (some ⟨n2, 0, none⟩) 2 2]) hvl rfl hrows (fun i hi hi2 => by (match i, hi with | 0, _ => exact hn1.low3S.weak (fun x hx => ⟨⟨Nat.le_trans hBN hx.1, hx.2, fun e => by have := hob x e; have := hx.1; omega⟩, fun e => by have := hX x e; have := hx.1; omega⟩) | 1, _ => exact hn2.low3S.weak (fun x hx => ⟨⟨Nat.le_trans hBN hx.1, hx.2, fun e => by have := hob x e; have := hx.1; omega⟩, fun e => by have := hX x e; have := hx.1; omega⟩))) hown5 hkept hmv (by simp) (fun x hx => Nat.lt_of_lt_of_le (hX x hx) hws) hnx
        have hs5 := hsd.offApp hkept hmv (by simp)
        have hv5 : OwnB w5 B 2 (.slice va (bitsI M).length vc) M := Own.kept hvd hkept (fun x hx e => own_typeS hvd hown (by decide) x hx e)
        try dsimp only
        refine hK.out _ _ ?h33 (fun hHeld => ?_)
        case h33 => first | exact ⟨‹_›, ‹_›, ‹_›⟩ | assumption | (simp [*, go_sem])
        clear hK K
        try simp only [Act.put, List.setIfInBounds_toArray, List.set_cons_zero, List.set_cons_succ]
        refine wpAnyH_take (i := 29) (v := ?v34) (by simp only [List.getElem?_toArray, List.getElem?_cons_succ, List.getElem?_cons_zero]; exact rfl) (by kernel_rfl) (by kernel_rfl) (by kernel_rfl) (by intro _ _ _ h; exact h) (Or.inl ⟨by rfl, ?y34⟩) hHeld ?_
        case y34 => (intro w hSw; (try dsimp only at hSw); go_simp; try (with_reducible rfl))
        try simp only [Act.put, List.setIfInBounds_toArray, List.set_cons_zero, List.set_cons_succ]
        refine wpAnyH_done (by kernel_rfl) ?_ _
        go_wp2
        go_roundw
        case rel => exact ⟨k + 1, by omega, by go_num, by rw [HT.out]; exact hu5, hs5, hv5, hq5, HK5, HK6⟩
        case measure => simp [intOf]; omega
      case b26_26 =>
        go_simp
        obtain ⟨hbx, hn2⟩ := lit2 wd 2 (z : Int) (y : Int) hNl
        generalize hW : wd.alloc (.cells #[.int .i64 (z : Int), .int .i64 (y : Int)] 2) = wn at hbx hn2 ⊢
        clear hW
        have HKd : RowKit.Hid (∀ b, b < w.heap.size → (Value.slice ua U.length uc).ownBlock ≠ some b → wn.heap[b]? = w.heap[b]?) := Lib.hid (fun b hb hn => (hbx.block b (Nat.lt_of_lt_of_le hb hws)).trans (HKd.out b hb hn))
        have hws := Nat.le_trans hws hbx.size
        obtain ⟨n2, hn2e⟩ : ∃ n, n = wd.heap.size := ⟨_, rfl⟩
        rw [← hn2e] at hn2 ⊢
        have hqd := hqd.trans (hbx.mono hBd)
        have hud := hud.below hbx (Nat.le_refl _)
        have hsd := hsd.offBelow hbx
        have hvd := hvd.below hbx (Nat.le_refl _)
        have hSbd : Off1 wn (.slice oa F.length oc) b := ⟨Nat.lt_of_lt_of_le hSbd.1 hbx.size, hSbd.2⟩
        have hSrd : Off1 wn (.slice oa F.length oc) rb := ⟨Nat.lt_of_lt_of_le hSrd.1 hbx.size, hSrd.2⟩
        have hBd := Nat.le_trans hBd hbx.size
        have hNl := Nat.le_trans hNl hbx.size
        have d0 := (hbx.cell (cell_lt d0)).trans d0
        have d1 := (hbx.cell (cell_lt d1)).trans d1
        have d2 := (hbx.cell (cell_lt d2)).trans d2
        try (have hn1 := hn1.below hbx (Nat.le_refl _))
        clear hn2e
        obtain ⟨wd, rfl⟩ : ∃ wx : World, wx = wn := ⟨_, rfl⟩
        try dsimp only
        refine hK.out _ _ ?h35 (fun hHeld => ?_)
        case h35 => first | exact ⟨‹_›, ‹_›, ‹_›⟩ | assumption | (simp [*, go_sem])
        clear hK K
        try simp only [Act.put, List.setIfInBounds_toArray, List.set_cons_zero, List.set_cons_succ]
        refine wpAnyH_ready (rs := [13]) (by kernel_rfl) (by simp) ?_
        refine AllReadyH.cons (by simp only [List.getElem?_toArray, List.getElem?_cons_succ, List.getElem?_cons_zero]; exact rfl) (fun K hK => ?_) AllReadyH.nil
        go_simp
        obtain ⟨hbx, hn1⟩ := lit2 wd 2 (y : Int) (z : Int) hNl
        generalize hW : wd.alloc (.cells #[.int .i64 (y : Int), .int .i64 (z : Int)] 2) = wn at hbx hn1 ⊢
        clear hW
        have HKd : RowKit.Hid (∀ b, b < w.heap.size → (Value.slice ua U.length uc).ownBlock ≠ some b → wn.heap[b]? = w.heap[b]?) := Lib.hid (fun b hb hn => (hbx.block b (Nat.lt_of_lt_of_le hb hws)).trans (HKd.out b hb hn))
        have hws := Nat.le_trans hws hbx.size
        obtain ⟨n1, hn1e⟩ : ∃ n, n = wd.heap.size := ⟨_, rfl⟩
        rw [← hn1e] at hn1 ⊢
        have hqd := hqd.trans (hbx.mono hBd)
        have hud := hud.below hbx (Nat.le_refl _)
        have hsd := hsd.offBelow hbx
        have hvd := hvd.below hbx (Nat.le_refl _)
        have hSbd : Off1 wn (.slice oa F.length oc) b := ⟨Nat.lt_of_lt_of_le hSbd.1 hbx.size, hSbd.2⟩
        have hSrd : Off1 wn (.slice oa F.length oc) rb := ⟨Nat.lt_of_lt_of_le hSrd.1 hbx.size, hSrd.2⟩
        have hBd := Nat.le_trans hBd hbx.size
        have hNl := Nat.le_trans hNl hbx.size
        have d0 := (hbx.cell (cell_lt d0)).trans d0
        have d1 := (hbx.cell (cell_lt d1)).trans d1
        have d2 := (hbx.cell (cell_lt d2)).trans d2
        try (have hn2 := hn2.below hbx (Nat.le_refl _))
        clear hn1e
        obtain ⟨wd, rfl⟩ : ∃ wx : World, wx = wn := ⟨_, rfl⟩
        try dsimp only
        refine hK.out _ _ ?h37 (fun hHeld => ?_)
        case h37 => first | exact ⟨‹_›, ‹_›, ‹_›⟩ | assumption | (simp [*, go_sem])
        clear hK K
        try simp only [Act.put, List.setIfInBounds_toArray, List.set_cons_zero, List.set_cons_succ]
        refine wpAnyH_ready (rs := [27]) (by kernel_rfl) (by simp) ?_
        refine AllReadyH.cons (by simp only [List.getElem?_toArray, List.getElem?_cons_succ, List.getElem?_cons_zero]; exact rfl) (fun K hK => ?_) AllReadyH.nil
        go_simp
        have hbb : Below wd.heap.size wd (wd.alloc (.cells #[.slice (some ⟨n1, 0, none⟩) 2 2, .slice (some ⟨n2, 0, none⟩) 2 2] 51)) := (Below.refl _ _).alloc (Nat.le_refl _) _
        have d0 := (hbb.cell (cell_lt d0)).trans d0
        have d1 := (hbb.cell (cell_lt d1)).trans d1
        have d2 := (hbb.cell (cell_lt d2)).trans d2
        obtain ⟨vs, hvl, hown, hnx, hrows⟩ := hud
        try dsimp only
        refine hK.out _ _ ?h39 (fun hHeld => ?_)
        case h39 => first | exact ⟨‹_›, ‹_›, ‹_›⟩ | assumption | (simp [*, go_sem])
        clear hK K
        try simp only [Act.put, List.setIfInBounds_toArray, List.set_cons_zero, List.set_cons_succ]
        refine wpAnyH_ready (rs := [28]) (by kernel_rfl) (by simp) ?_
        refine AllReadyH.cons (by simp only [List.getElem?_toArray, List.getElem?_cons_succ, List.getElem?_cons_zero]; exact rfl) (fun K hK => ?_) AllReadyH.nil
        rw [if_pos (by rfl)]
        refine opWp_append2 elRows _ _ rfl hown rfl rfl rfl rfl rfl (by omega) hBd ?_
        intro o5 w5 hown5 hkept hmv
        have HK5 : RowKit.Hid (∀ b, b < w.heap.size → (Value.slice ua U.length uc).ownBlock ≠ some b → w5.heap[b]? = w.heap[b]?) := Lib.hid (fun b hb hn => (hkept.2.2.2.2 b (Nat.lt_of_lt_of_le hb hws) (fun e => (HK2.out b e.symm).elim hn (fun h => by omega))).trans (HKd.out b hb hn))
        have HK6 : RowKit.Hid (∀ b, o5.ownBlock = some b → (Value.slice ua U.length uc).ownBlock = some b ∨ w.heap.size ≤ b) := Lib.hid (fun b hb => hmv.elim (fun h => HK2.out b (by rw [← h]; exact hb)) (fun h => Or.inr (by rw [h] at hb; have := hbb.size; have e : _ = b := (Option.some.inj hb); omega)))
        have hq5 := hkept.below hqd hBd (fun x hx => (hown.lt x hx).1)
        have d0 := (World.cell?_of_block (a := ⟨b, off + k, none⟩) (hkept.2.2.2.2 b hSbd.1 (fun e => hSbd.2 e.symm))).trans ‹World.cell? wd ⟨b, off + k, none⟩ = _›
        have d1 := (World.cell?_of_block (a := ⟨rb, ro, none⟩) (hkept.2.2.2.2 rb hSrd.1 (fun e => hSrd.2 e.symm))).trans ‹World.cell? wd ⟨rb, ro, none⟩ = _›
        have d2 := (World.cell?_of_block (a := ⟨rb, ro + 1, none⟩) (hkept.2.2.2.2 rb hSrd.1 (fun e => hSrd.2 e.symm))).trans ‹World.cell? wd ⟨rb, ro + 1, none⟩ = _›
        have hu5 : OwnSX w5 B X 51 o5 (F ++ [[(y : Int), (z : Int)], [(z : Int), (y : Int)]]) := OwnSX.app (X := X) (news := [.slice (some ⟨n1, 0, none⟩) 2 2, .slice (some ⟨n2, 0, none⟩) 2 2]) hvl rfl hrows (fun i hi hi2 => by (match i, hi with | 0, _ => exact hn1.low3S.weak (fun x hx => ⟨⟨Nat.le_trans hBN hx.1, hx.2, fun e => by have := hob x e; have := hx.1; omega⟩, fun e => by have := hX x e; have := hx.1; omega⟩) | 1, _ => exact hn2.low3S.weak (fun x hx => ⟨⟨Nat.le_trans hBN hx.1, hx.2, fun e => by have := hob x e; have := hx.1; omega⟩, fun e => by have := hX x e; have := hx.1; omega⟩))) hown5 hkept hmv (by simp) (fun x hx => Nat.lt_of_lt_of_le (hX x hx) hws) hnx
        have hs5 := hsd.offApp hkept hmv (by simp)
        have hv5 : OwnB w5 B 2 (.slice va (bitsI M).length vc) M := Own.kept hvd hkept (fun x hx e => own_typeS hvd hown (by decide) x hx e)
        try dsimp only
        refine hK.out _ _ ?h41 (fun hHeld => ?_)
        case h41 => first | exact ⟨‹_›, ‹_›, ‹_›⟩ | assumption | (simp [*, go_sem])
        clear hK K
        try simp only [Act.put, List.setIfInBounds_toArray, List.set_cons_zero, List.set_cons_succ]
        refine wpAnyH_take (i := 29) (v := ?v42) (by simp only [List.getElem?_toArray, List.getElem?_cons_succ, List.getElem?_cons_zero]; exact rfl) (by kernel_rfl) (by kernel_rfl) (by kernel_rfl) (by intro _ _ _ h; exact h) (Or.inl ⟨by rfl, ?y42⟩) hHeld ?_
        case y42 => (intro w hSw; (try dsimp only at hSw); go_simp; try (with_reducible rfl))
        try simp only [Act.put, List.setIfInBounds_toArray, List.set_cons_zero, List.set_cons_succ]
        refine wpAnyH_done (by kernel_rfl) ?_ _
        go_wp2
        go_roundw
        case rel => exact ⟨k + 1, by omega, by go_num, by rw [HT.out]; exact hu5, hs5, hv5, hq5, HK5, HK6⟩
        case measure => simp [intOf]; omega
/-- The rows so far, all in X; the array off its rows. -/
def OutX (w : World) (X : Nat → Prop) (EO : TypeId) (u : Value) (g : List (List Int)) : Prop :=
  ∃ vs : List Value, vs.length = g.length ∧ Own w 0 EO 1 u g.length vs ∧ (∀ b, u.ownBlock = some b → X b) ∧ ∀ i (h : i < g.length) (h2 : i < vs.length), SlI (fun b => X b ∧ u.ownBlock ≠ some b) w .i64 vs[i] g[i]
theorem OutX.isSlice {w : World} {X : Nat → Prop} {EO : TypeId} {u : Value} {g : List (List Int)} (h : OutX w X EO u g) : ∃ a c, u = .slice a g.length c := by
  obtain ⟨vs, h1, h2, _, h3⟩ := h; exact h2.isSlice
theorem OutX.keep {w w' : World} {X : Nat → Prop} {EO : TypeId} {u : Value} {g : List (List Int)} (h : OutX w X EO u g) (hk : ∀ b, X b → w'.heap[b]? = w.heap[b]?) : OutX w' X EO u g := by
  obtain ⟨vs, h1, h2, hx, h3⟩ := h
  exact ⟨vs, h1, h2.keep fun b hb => hk b (hx b hb), hx, fun i hi hi2 => (h3 i hi hi2).keep fun b hb => hk b hb.1⟩
theorem OutX.rows {w : World} {X : Nat → Prop} {EO : TypeId} {u : Value} {g : List (List Int)} (h : OutX w X EO u g) (hX : ∀ b, X b → b < w.heap.size) (hg : g.length ≤ 9223372036854775807) : SlR (fun b => b < w.heap.size) w u g := by
  obtain ⟨vs, h1, h2, hx, h3⟩ := h
  exact RowsTo.rows (vs := vs) ⟨by omega, fun i hi hi2 => (h3 i hi2 hi).weak fun b hb => hX b hb.1⟩ h1 (fun b hb => (h2.lt b hb).2) h2 hg
/-- One more row. -/
theorem OutX.app {w w' M : World} {X : Nat → Prop} {N : Nat} {EO : TypeId} {u u' v : Value} {g : List (List Int)} {r : List Int} {vs : List Value} (hl : vs.length = g.length) (hrow : ∀ i (h : i < g.length) (h2 : i < vs.length), SlI (fun b => X b ∧ u.ownBlock ≠ some b) w .i64 vs[i] g[i]) (hx : ∀ b, u.ownBlock = some b → X b)
    (hown : Own w' 0 EO 1 u' (g.length + 1) (vs ++ [v])) (hv : SlI (fun b => N ≤ b ∧ b < w.heap.size) w .i64 v r) (hk : KeptBut w w' u.ownBlock) (hm : Moved M u u') (hM : w.heap.size ≤ M.heap.size) (hN : N ≤ w.heap.size) (hX : ∀ b, X b → b < N) : OutX w' (fun b => X b ∨ (N ≤ b ∧ b < w'.heap.size)) EO u' (g ++ [r]) := by
  have hne : ∀ b, b < w.heap.size → u.ownBlock ≠ some b → u'.ownBlock ≠ some b := fun b hb hn e => by
    rcases hm with h | h
    · rw [h] at e; exact hn e
    · rw [h] at e
      have : M.heap.size = b := by simpa using e
      omega
  refine ⟨vs ++ [v], by simp [hl], by rw [List.length_append, List.length_singleton]; exact hown, fun b hb => ?_, fun i hi hi2 => ?_⟩
  · rcases hm with h | h
    · rw [h] at hb; exact .inl (hx b hb)
    · have h2 := (hown.lt b hb).2
      rw [h] at hb
      have : M.heap.size = b := by simpa using hb
      exact .inr ⟨by omega, h2⟩
  · by_cases e : i < g.length
    · rw [List.getElem_append_left e, List.getElem_append_left (by omega)]
      refine ((hrow i e (by omega)).keep fun b hb => hk.2.2.2.2 b (by have := hX b hb.1; omega) (fun e => hb.2 e.symm)).weak fun b hb => ⟨.inl hb.1, hne b (by have := hX b hb.1; omega) hb.2⟩
    · have ei : i = g.length := by simp at hi; omega
      subst ei
      rw [List.getElem_append_right (by omega), List.getElem_append_right (by omega)]
      have a1 : g.length - vs.length = 0 := by omega
      simp only [Nat.sub_self, a1, List.getElem_cons_zero]
      have hu : ∀ b, N ≤ b → u.ownBlock ≠ some b := fun b hb e => by have := hX b (hx b e); omega
      exact (hv.keep fun b hb => hk.2.2.2.2 b hb.2 (fun e => hu b hb.1 e.symm)).weak fun b hb => ⟨.inr ⟨hb.1, Nat.lt_of_lt_of_le hb.2 hk.2.2.2.1⟩, hne b hb.2 (hu b hb.1)⟩
set_option maxRecDepth 100000 in
set_option maxHeartbeats 16000000 in
theorem specEarsOf_any {S : Nat → Prop} {v : Value} {g : List (List Int)} {w : World} (hv : SlR S w v g) :
    Calls Tryd.prog 18 #[.agg #[v]] w fun e w' => ∃ u, e = .returned (.tuple #[u, .bool (twoB g)]) ∧ SlR (fun b => b < w'.heap.size) w' u ((earsL g).map natsI) ∧ Below w.heap.size w w' := by
  obtain ⟨va, vc, rfl⟩ := hv.slice
  obtain ⟨W, hW⟩ : ∃ W, W = (w.alloc (.cells #[.slice va g.length vc] 27)).alloc (.cells #[] 51) := ⟨_, rfl⟩
  have hb0 : Below w.heap.size w W := by rw [hW]; exact ((Below.refl _ _).alloc (Nat.le_refl _) _).alloc (by simp) _
  have c0 : W.cell? ⟨w.heap.size, 0, none⟩ = some (.slice va g.length vc) := by rw [hW]; simp [go_sem]
  have ho0 : Own W 0 51 1 (.slice (some ⟨w.heap.size + 1, 0, none⟩) 0 0) 0 [] := by
    rw [hW]
    have := World.ownsRow_lit (base := 0) (e := 51) (size := 1) (w.alloc (.cells #[.slice va g.length vc] 27)) #[] 0 (Nat.zero_le _) (by unfold maxLen; omega) rfl
    rw [show (w.alloc (.cells #[.slice va g.length vc] 27)).heap.size = w.heap.size + 1 by simp] at this
    simpa [Own] using this
  have hWs : W.heap.size = w.heap.size + 2 := by rw [hW]; simp
  have hWW := Lib.hid hW
  have htw := specTwoConnectedIn_any _ _ _ (hv.below hb0 (Nat.le_refl _))
  clear hW
  by_cases h2 : twoB g = true
  case neg =>
    have h2' : twoB g = false := by simpa using h2
    have HE := Lib.hid (show earsL g = [] by rw [earsL, if_neg h2])
    rw [h2'] at htw ⊢
    rw [hWW.out] at htw
    clear h2 h2'
    go_enter Tryd.func18, Tryd.ntmps18
    go_wp2_with fail
    refine htw.mono ?_
    rw [← hWW.out]
    rintro e w1 ⟨rfl, hb1⟩
    go_wp2
    refine bodyPost_ret (v := .tuple #[.slice (some ⟨w.heap.size + 1, 0, none⟩) 0 0, .bool false]) (by simp [results, Tryd.results18, go_sem]) rfl ⟨_, rfl, ?_, hb0.trans (hb1.mono hb0.size)⟩
    rw [HE.out]
    exact ⟨_, 0, 0, 0, fun _ => .slice none 0 0, rfl, by simp, fun h => by simp at h, fun i hi => by simp at hi⟩
  have hTG := two_of h2
  have hg := hTG.gok
  have h16 := hg.hi
  have h3 := hTG.three
  have HST := Lib.hid (StE.start h2)
  have HG := Lib.hid hg
  have hen := fun (W : World) (hb : Below w.heap.size w W) => l19Ends_any hg (hv.below hb (Nat.le_refl _))
  have hel := endsN_le hg
  rw [h2] at htw ⊢
  rw [hWW.out] at htw
  have HEN : RowKit.Hid (∀ U : List NP, ∀ m c, UseI g m U c → U.length ≤ endsN g) := Lib.hid (fun U m c h => h.inv.le hg)
  have HUF := Lib.hid (fun (m c : Nat) (U : List NP) (h : UseI g m U c) (h1 : U.length ≠ endsN g) => h.ex hTG h1)
  have HDN := Lib.hid (fun (out : List (List Nat)) (m : Nat) (U : List NP) (h : StE g out m U) (h1 : U.length = endsN g) => h.done h1)
  clear h2 hTG hg
  generalize endsN g = en at *
  go_enter Tryd.func18, Tryd.ntmps18
  go_wp2_with fail
  refine htw.mono ?_
  rw [← hWW.out]
  rintro e w2 ⟨rfl, hb2⟩
  have hq2 := hb0.trans (hb2.mono hb0.size)
  have c2 := (hb2.cell (cell_lt c0)).trans c0
  have ho2 := ho0.below hb2 (Nat.le_refl _)
  have hb2s := hb2.size
  have hba : Below w2.heap.size w2 ((w2.alloc (.cells #[] 2)).alloc (.cells #[] 51)) := ((Below.refl _ _).alloc (Nat.le_refl _) _).alloc (by simp) _
  have hm0 : OwnB ((w2.alloc (.cells #[] 2)).alloc (.cells #[] 51)) (w.heap.size + 1) 2 (.slice (some ⟨w2.heap.size, 0, none⟩) 0 0) 0 := by
    have h := World.ownsRow_lit (base := w.heap.size + 1) (e := 2) (size := 1) w2 #[] 0 (by omega) (by unfold maxLen; omega) rfl
    have h2 : Own (w2.alloc (.cells #[] 2)) (w.heap.size + 1) 2 1 (.slice (some ⟨w2.heap.size, 0, none⟩) 0 0) 0 [] := by simpa [Own] using h
    have e0 : bitsI 0 = [] := by simp [bitsI, bitsN]
    unfold OwnB; rw [e0]; exact h2.alloc _
  have hu0 : OwnSX ((w2.alloc (.cells #[] 2)).alloc (.cells #[] 51)) (w.heap.size + 1) (fun b => b = w.heap.size + 1) 51 (.slice (some ⟨w2.heap.size + 1, 0, none⟩) 0 0) (rowsP []) := by
    have h := World.ownsRow_lit (base := w.heap.size + 1) (e := 51) (size := 1) (w2.alloc (.cells #[] 2)) #[] 0 (by simp; omega) (by unfold maxLen; omega) rfl
    rw [show (w2.alloc (.cells #[] 2)).heap.size = w2.heap.size + 1 by simp] at h
    exact ⟨[], rfl, by simpa [Own, rowsP] using h, fun b hb e => by (have : w2.heap.size + 1 = b := by simpa [Value.ownBlock] using hb); omega, fun i hi => by simp [rowsP] at hi⟩
  have hq3 := hq2.trans (hba.mono hq2.size)
  have c5 := (hba.cell (cell_lt c2)).trans c2
  have ho5 : OutX ((w2.alloc (.cells #[] 2)).alloc (.cells #[] 51)) (fun b => b = w.heap.size + 1) 51 (.slice (some ⟨w.heap.size + 1, 0, none⟩) 0 0) (([] : List (List Nat)).map natsI) :=
    ⟨[], rfl, ho2.below hba (Nat.le_refl _), fun b hb => by (have : w.heap.size + 1 = b := by simpa [Value.ownBlock] using hb); exact this.symm, fun i hi => by simp at hi⟩
  have HX0 : RowKit.Hid (∀ b, b = w.heap.size + 1 → w.heap.size < b ∧ b < ((w2.alloc (.cells #[] 2)).alloc (.cells #[] 51)).heap.size) := Lib.hid (fun b hb => by subst hb; exact ⟨by omega, by simp; omega⟩)
  clear hba hb2 c2 hq2 ho2 ho0 htw hb0 c0
  go_wp2
  go_loopw [4, 5, 6] (fun ov mv uv wr => ∃ (out : List (List Nat)) (m : Nat) (U : List NP) (X : Nat → Prop), OutX wr X 51 ov (out.map natsI) ∧ OwnB wr (w.heap.size + 1) 2 mv m ∧ OwnSX wr (w.heap.size + 1) X 51 uv (rowsP U) ∧ RowKit.Hid (∀ b, X b → w.heap.size < b ∧ b < wr.heap.size) ∧
    RowKit.Hid (StE g out m U) ∧ Below w.heap.size w wr ∧ wr.cell? ⟨w.heap.size, 0, none⟩ = some (.slice va g.length vc)) (fun ov _ _ _ => 600 - lenV ov)
  case atStart => exact ⟨[], 0, [], _, ho5, hm0, hu0, HX0, HST, hq3, c5⟩
  case round =>
    clear ho5 hm0 hu0 HX0 HST hq3 c5
    obtain ⟨out, m, U, X, hout, hmv, huv, HX, HSt, hq, cg⟩ := hrel
    obtain ⟨wi, rfl⟩ : ∃ wx : World, wx = wr := ⟨_, rfl⟩
    have hm2 := HSt.out.use.inv.mask
    have hm16 : m < 65536 := Nat.lt_of_lt_of_le hm2 (by have := pow_le16 h16; omega)
    have hUl := HEN.out _ _ _ HSt.out.use
    have hfew := HSt.out.few HG.out
    have hmvi := hmv.ints
    have huvi := huv.plain.rows (by rw [rowsP_len]; omega)
    obtain ⟨oa, oc, rfl⟩ := hout.isSlice
    obtain ⟨ma, mc, rfl⟩ := hmv.isSlice
    obtain ⟨ua, uc, rfl⟩ := huv.isSlice
    have hlm : (out.map natsI).length = out.length := List.length_map ..
    simp only [rowsP_len, hlm] at huv huvi hout ⊢
    have HLM := Lib.hid hlm
    clear hlm
    have hen1 := hen wi hq
    have hcgl := cell_lt cg
    simp only at hcgl
    by_cases hful : U.length = en
    case pos =>
      have HD := Lib.hid (HDN.out _ _ _ HSt.out hful)
      have hd1 : decide ((U.length : Int) < (en : Int)) = false := decide_eq_false (by omega)
      have hd2 : decide (U.length < en) = false := decide_eq_false (by omega)
      clear hful
      go_wp2_with fail
      refine hen1.mono ?_
      rintro e w3 ⟨rfl, hb3⟩
      have hq3 := hq.trans (hb3.mono hq.size)
      go_wp2
      refine bodyPost_ret (v := .tuple #[.slice oa out.length oc, .bool true]) (by simp [results, Tryd.results18, go_sem]) rfl ⟨_, rfl, ?_, hq3⟩
      rw [HD.out]
      exact (hout.keep fun b hb => hb3.block b (HX.out b hb).2).rows (fun b hb => Nat.lt_of_lt_of_le (HX.out b hb).2 hb3.size) (by rw [HLM.out]; omega)
    have hd1 : decide ((U.length : Int) < (en : Int)) = true := decide_eq_true (by omega)
    have hd2 : decide (U.length < en) = true := decide_eq_true (by omega)
    have HUE := Lib.hid (HUF.out _ _ _ HSt.out.use hful)
    clear hful
    go_wp2_with fail
    refine hen1.mono ?_
    rintro e w3 ⟨rfl, hb3⟩
    have hq3 := hq.trans (hb3.mono hq.size)
    have c3 := (hb3.cell (cell_lt cg)).trans cg
    have hnx := l19Next_any (U := U) HG.out hm2 (hv.below hq3 (Nat.le_refl _)) (hmvi.below hb3 (Nat.le_refl _)) (huvi.below hb3 (Nat.le_refl _))
    go_wp2_with fail
    refine hnx.mono ?_
    rintro e w4 ⟨x, rfl, hx, hb4⟩
    rcases hx with hx | ⟨q, hle, hx⟩
    · exfalso
      obtain ⟨q, hqq⟩ := HUE.out
      exact hx q hqq
    have hq4 := hq3.trans (hb4.mono hq3.size)
    have c4 := (hb4.cell (cell_lt c3)).trans c3
    have hb34 : Below wi.heap.size wi w4 := hb3.trans (hb4.mono hb3.size)
    have ho4 := hout.keep fun b hb => hb34.block b (HX.out b hb).2
    have hm4 := hmv.below hb34 (Nat.le_refl _)
    have HLE := Lib.hid hle
    obtain ⟨hq2, hqn2, -⟩ := ear_from HG.out hm2 hle.1
    have hx4 : SlI (fun b => wi.heap.size ≤ b ∧ b < w4.heap.size) w4 .i64 x (natsI q) := hx.low3S.weak fun b hb => ⟨Nat.le_trans hb3.size hb.1, hb.2⟩
    obtain ⟨xa, xc, rfl⟩ := hx.slice
    rw [natsI_len] at hx4 ⊢
    have h34s := hb34.size
    clear hnx hen1 hmvi huvi hout hmv hx hle hb3 hb4 hq3 c3 cg
    obtain ⟨vs, hvl, hvo, hvX, hrows⟩ := ho4
    rw [HLM.out] at hvl hvo
    go_wp2_with (first | (at_builtin; refine wpList_append1b elRows rfl _ _ rfl hvo rfl rfl rfl rfl (by omega) (Nat.zero_le _) ?_; intro o5 w5 hown5 hkept hmvd; obtain ⟨ob5, oc5, rfl⟩ := own_some hown5 (by omega)) | fail)
    obtain ⟨Y, hY⟩ : ∃ Y : Nat → Prop, Y = fun b => X b ∨ (wi.heap.size ≤ b ∧ b < w5.heap.size) := ⟨_, rfl⟩
    have hkz := hkept.2.2.2.1
    have hS5 : OutX w5 Y 51 (.slice (some ⟨ob5, 0, none⟩) (out.length + 1) oc5) ((out ++ [q]).map natsI) := by
      have := OutX.app (N := wi.heap.size) (g := out.map natsI) (r := natsI q) (v := .slice xa q.length xc) (by rw [HLM.out]; exact hvl) hrows hvX (by rw [HLM.out]; exact hown5) hx4 hkept hmvd (by simp) (by omega) (fun b hb => (HX.out b hb).2)
      rw [hY]
      simpa using this
    have hq5 : Below w.heap.size w w5 := hkept.below hq4 hq4.size (fun b hb => Nat.le_of_lt (HX.out b (hvX b hb)).1)
    have c5 := (World.cell?_of_block (a := ⟨w.heap.size, 0, none⟩) (hkept.2.2.2.2 w.heap.size (cell_lt c4) (fun e => by have := (HX.out _ (hvX _ e.symm)).1; omega))).trans c4
    have hm5 : OwnB w5 (w.heap.size + 1) 2 (.slice ma (bitsI m).length mc) m := Own.otherT hm4 hvo (by decide) hkept
    have hu5 : OwnSX w5 (w.heap.size + 1) Y 51 (.slice ua U.length uc) (rowsP U) := ((huv.more (Y := Y) (fun b hb hl => by
      rw [hY] at hb
      rcases hb with hb | hb
      · exact hb
      · omega)).below hb34 (Nat.le_refl _)).keepX (fun b hb hn => hkept.2.2.2.2 b hb (fun e => hn (by rw [hY]; exact .inl (hvX b e.symm)))) hkz
    have hx5 := hx4.keep (w' := w5) fun b hb => hkept.2.2.2.2 b hb.2 (fun e => by have := (HX.out b (hvX b e.symm)).2; omega)
    have hYl : ∀ b, Y b → w.heap.size < b ∧ b < w5.heap.size := fun b hb => by
      rw [hY] at hb
      rcases hb with hb | hb
      · have := HX.out b hb; omega
      · omega
    have HE16 : ∀ a ∈ q, a < 16 := fun a ha => by have := (earB_iff.1 HLE.out.1.1).2.1 a ha; omega
    have huse := l19UseX_any (X := Y) hx5 (by omega) HE16 (by omega) hm16 hm5 hu5 (by omega) (cell_lt c5) (fun b hb => (hYl b hb).2)
    have HXN := Lib.hid (HSt.out.next HG.out HLE.out)
    have HMZ := Lib.hid (show (m == 0) = decide (m = 0) by rw [Bool.eq_iff_iff, beq_iff_eq, decide_eq_true_eq])
    obtain ⟨-, -, -, hxu, -⟩ := hu5
    have HYL := Lib.hid hYl
    clear hrows hvX hvo hvl hown5 hkept hmvd hm4 huv hb34 hx4 hq4 c4 hx5 hm5 hYl hY HE16 HX
    go_wp2_with fail
    refine huse.mono ?_
    rintro e w6 ⟨mv', uv', rfl, hm6, hu6, hb6, hK6⟩
    have hS6 := hS5.keep fun b hb => hK6 b (HYL.out b hb).2 (fun e => hxu b e hb)
    have hq6 := hq5.trans (hb6.mono (by omega))
    have c6 := (hb6.cell (p := ⟨w.heap.size, 0, none⟩) (by simp)).trans c5
    have hb6s := hb6.size
    have HX6 : RowKit.Hid (∀ b, Y b → w.heap.size < b ∧ b < w6.heap.size) := Lib.hid (fun b hb => by have := HYL.out b hb; omega)
    have HST6 : RowKit.Hid (StE g (out ++ [q]) (m ||| maskL (natsI q)) (useU U (stepsN q (m == 0)))) := Lib.hid (by rw [HMZ.out]; exact HXN.out.1)
    clear huse hS5 hq5 c5 hxu hK6 HYL
    go_wp2
    go_roundw
    case rel => exact ⟨out ++ [q], _, _, Y, hS6, hm6, hu6, HX6, HST6, hq6, c6⟩
    case measure => simp [lenV]; omega
theorem run_small {g : List (List Int)} : ∀ (k m : Nat) (U : List NP), (runE g k m U).length ≤ k ∧ ∀ q ∈ runE g k m U, q.length ≤ g.length
  | 0, _, _ => by simp [runE]
  | k + 1, m, U => by
    rw [runE]
    split
    · simp
    · obtain ⟨h1, h2⟩ := run_small (g := g) k (m ||| maskL (natsI (pickG (EarG g m U)))) (useU U (stepsN (pickG (EarG g m U)) (decide (m = 0))))
      refine ⟨by simp; omega, fun q hq => ?_⟩
      rcases List.mem_cons.1 hq with rfl | hq
      · by_cases he : ∃ q, LeastG (EarG g m U) q
        · obtain ⟨q, hq⟩ := he
          rw [pick_some hq]
          obtain ⟨-, h3, h4, -⟩ := earB_iff.1 hq.1.1
          have := nodup_lenA h4 (E := List.range g.length) (fun x hx => List.mem_range.2 (h3 x hx))
          simpa using this
        · have : pickG (EarG g m U) = [] := by unfold pickG; rw [dif_neg he]
          rw [this]; simp
      · exact h2 q hq
theorem ears_smallR (g : List (List Int)) : SmallR ((earsL g).map natsI) 1048576 := by
  unfold earsL
  split
  case isTrue h =>
    have hg := (two_of h).gok.hi
    obtain ⟨h1, h2⟩ := run_small (g := g) 600 0 []
    refine ⟨by rw [List.length_map]; omega, fun i hi _ => ?_⟩
    have hm : (runE g 600 0 [])[i]'(by simpa using hi) ∈ runE g 600 0 [] := List.getElem_mem _
    have := h2 _ hm
    rw [List.getElem_map, natsI_len]
    omega
  case isFalse h => exact ⟨by simp, fun i hi _ => by simp at hi⟩
theorem conEarsOf {g0 : List (List Int)} (hsm0 : SmallR g0 1048576) : ∃ (r0 : List (List Int)) (r1 : Bool), (∀ {S0 : Nat → Prop} {v0 : Value} {w : World}, SlR S0 w v0 g0 → Calls Tryd.prog 18 #[.agg #[v0]] w fun e w' => ∃ u0, e = .returned (.tuple #[u0, .bool r1]) ∧ SlR (fun b => b < w'.heap.size) w' u0 r0 ∧ Below w.heap.size w w') ∧
    (∀ {S0 : Nat → Prop} {v0 : Value} {w : World}, Tab w → SlR S0 w v0 g0 → Calls Tryd.prog 19 #[.agg #[v0]] w fun e w' => ∃ u0, e = .returned (.tuple #[u0, .bool r1]) ∧ OwnR w' w.heap.size w'.heap.size 51 2 u0 r0 ∧ Below w.heap.size w w') ∧
    SmallR r0 1048576 := by
  exact ⟨(earsL g0).map natsI, twoB g0, fun h0 => specEarsOf_any h0, fun ht h0 => implEarsOf_any ht h0, ears_smallR g0⟩
set_option maxHeartbeats 16000000 in
theorem lawEarsOf_any {S0 : Nat → Prop} (v0 : Value) (g0 : List (List Int)) (w : World) (ht : Tab w) (hv0 : SlR S0 w v0 g0) :
    Calls Tryd.prog 4 #[.agg #[v0]] w fun e w' => e = .returned (.bool true) ∧ Below w.heap.size w w' := by
  obtain ⟨a0, c0, rfl⟩ := hv0.slice
  have q0 : Below w.heap.size w (w.alloc (.cells #[.slice a0 g0.length c0] 24)) := (Below.refl _ _).alloc (Nat.le_refl _) _
  go_enter Tryd.func4, Tryd.ntmps4
  go_wp2_with fail
  refine (szGraph_any _ _ _ _ (hv0.below q0 (Nat.le_refl _)) (by omega) (by omega)).mono ?_
  rintro e w1 ⟨r1, rfl, hr1, hs1, hm1, hb1⟩
  have q1 := q0.trans (hb1.mono q0.size)
  have z0 := q0.size
  have z1 : w.heap.size + 1 ≤ w1.heap.size := by have := hb1.size; simp at this; omega
  have b0_1 : w1.cell? ⟨w.heap.size, 0, none⟩ = some (.slice a0 g0.length c0) := (hb1.cell (p := ⟨w.heap.size, 0, none⟩) (by simp <;> omega)).trans (by simp [go_sem])
  by_cases hneg1 : r1 < 0
  case pos =>
    go_wp2
    go_ret
    exact ⟨rfl, q1⟩
  have hsm0 : SmallR g0 1048576 := hm1 (by omega)
  obtain ⟨r0, r1, hS, hI, hN0⟩ := conEarsOf hsm0
  go_wp2_with fail
  refine (toGraphR_any (hv0.below q1 (Nat.le_refl _)) hsm0).mono ?_
  rintro e w2 ⟨x2, rfl, y2_2, hb2⟩
  have q2 := q1.trans (hb2.mono q1.size)
  have z2 := hb2.size
  have b0_2 : w2.cell? ⟨w.heap.size, 0, none⟩ = some (.slice a0 g0.length c0) := (hb2.cell (p := ⟨w.heap.size, 0, none⟩) (cell_lt b0_1)).trans b0_1
  obtain ⟨xa2, xc2, rfl⟩ := y2_2.isSlice
  go_wp2_with fail
  refine (hS (y2_2.rows hsm0)).mono ?_
  rintro e w3 ⟨w0u0, rfl, w0_0_3, hb3⟩
  have q3 := q2.trans (hb3.mono q2.size)
  have z3 := hb3.size
  have b0_3 : w3.cell? ⟨w.heap.size, 0, none⟩ = some (.slice a0 g0.length c0) := (hb3.cell (p := ⟨w.heap.size, 0, none⟩) (cell_lt b0_2)).trans b0_2
  have y2_3 := y2_2.below hb3 (Nat.le_refl _)
  obtain ⟨w0a0, w0c0, rfl⟩ := w0_0_3.slice
  go_wp2_with fail
  refine (toGraphR_any (hv0.below q3 (Nat.le_refl _)) hsm0).mono ?_
  rintro e w4 ⟨x4, rfl, y4_4, hb4⟩
  have q4 := q3.trans (hb4.mono q3.size)
  have z4 := hb4.size
  have b0_4 : w4.cell? ⟨w.heap.size, 0, none⟩ = some (.slice a0 g0.length c0) := (hb4.cell (p := ⟨w.heap.size, 0, none⟩) (cell_lt b0_3)).trans b0_3
  have y2_4 := y2_3.below hb4 (Nat.le_refl _)
  have w0_0_4 := w0_0_3.below hb4 (Nat.le_refl _)
  obtain ⟨xa4, xc4, rfl⟩ := y4_4.isSlice
  have hb5 : Below w4.heap.size w4 (w4.alloc (.cells #[.slice xa4 g0.length xc4] 27)) := (Below.refl _ _).alloc (Nat.le_refl _) _
  obtain ⟨w5, ew5⟩ : ∃ x, x = (w4.alloc (.cells #[.slice xa4 g0.length xc4] 27)) := ⟨_, rfl⟩
  rw [← ew5] at hb5
  have l5_5 : w5.cell? ⟨w4.heap.size, 0, none⟩ = some (.slice xa4 g0.length xc4) := by rw [ew5]; simp [go_sem]
  have zz5 : w5.heap.size = w4.heap.size + 1 := by rw [ew5]; simp
  have q5 := q4.trans (hb5.mono q4.size)
  have z5 := hb5.size
  have b0_5 : w5.cell? ⟨w.heap.size, 0, none⟩ = some (.slice a0 g0.length c0) := (hb5.cell (p := ⟨w.heap.size, 0, none⟩) (cell_lt b0_4)).trans b0_4
  have y2_5 := y2_4.below hb5 (Nat.le_refl _)
  have w0_0_5 := w0_0_4.below hb5 (Nat.le_refl _)
  have y4_5 := y4_4.below hb5 (Nat.le_refl _)
  have b0_5e : (w4.alloc (.cells #[.slice xa4 g0.length xc4] 27)).cell? ⟨w.heap.size, 0, none⟩ = some (.slice a0 g0.length c0) := by rw [← ew5]; exact b0_5
  have l5_5e : (w4.alloc (.cells #[.slice xa4 g0.length xc4] 27)).cell? ⟨w4.heap.size, 0, none⟩ = some (.slice xa4 g0.length xc4) := by rw [← ew5]; exact l5_5
  go_wp2_with fail
  rw [← ew5]
  refine (hI (ht.below q5 (Nat.le_refl _)) (y4_5.rows hsm0)).mono ?_
  rintro e w6 ⟨g0u0, rfl, g0_0_6, hb6⟩
  have q6 := q5.trans (hb6.mono q5.size)
  have z6 := hb6.size
  have b0_6 : w6.cell? ⟨w.heap.size, 0, none⟩ = some (.slice a0 g0.length c0) := (hb6.cell (p := ⟨w.heap.size, 0, none⟩) (cell_lt b0_5)).trans b0_5
  have l5_6 : w6.cell? ⟨w4.heap.size, 0, none⟩ = some (.slice xa4 g0.length xc4) := (hb6.cell (p := ⟨w4.heap.size, 0, none⟩) (cell_lt l5_5)).trans l5_5
  have y2_6 := y2_5.below hb6 (Nat.le_refl _)
  have w0_0_6 := w0_0_5.below hb6 (Nat.le_refl _)
  have y4_6 := y4_5.below hb6 (Nat.le_refl _)
  obtain ⟨g0a0, g0c0, rfl⟩ := g0_0_6.isSlice
  go_wp2_with fail
  refine (eqR_same (g0_0_6.rows hN0) w0_0_6).mono ?_
  rintro e w7 ⟨rfl, hb7⟩
  have q7 := q6.trans (hb7.mono q6.size)
  have z7 := hb7.size
  have b0_7 : w7.cell? ⟨w.heap.size, 0, none⟩ = some (.slice a0 g0.length c0) := (hb7.cell (p := ⟨w.heap.size, 0, none⟩) (cell_lt b0_6)).trans b0_6
  have l5_7 : w7.cell? ⟨w4.heap.size, 0, none⟩ = some (.slice xa4 g0.length xc4) := (hb7.cell (p := ⟨w4.heap.size, 0, none⟩) (cell_lt l5_6)).trans l5_6
  have y2_7 := y2_6.below hb7 (Nat.le_refl _)
  have w0_0_7 := w0_0_6.below hb7 (Nat.le_refl _)
  have y4_7 := y4_6.below hb7 (Nat.le_refl _)
  have g0_0_7 := g0_0_6.below hb7 (Nat.le_refl _)
  go_wp2
  refine wp_region_held_drew (S := (fun w' => w'.cell? ⟨w.heap.size, 0, none⟩ = some (.slice a0 g0.length c0) ∧ w'.cell? ⟨w4.heap.size, 0, none⟩ = some (.slice xa4 g0.length xc4))) (by kernel_rfl) ?_ (fun hHeld => ?_)
  · first | exact ⟨‹_›, ‹_›⟩ | assumption | (simp [*, go_sem])
  refine wpAnyH_take (i := 0) (v := ?v43) (by simp only [List.getElem?_toArray, List.getElem?_cons_zero]; exact rfl) (by kernel_rfl) (by kernel_rfl) (by kernel_rfl) (by intro _ _ _ h; exact h) (Or.inl ⟨by rfl, ?y43⟩) hHeld ?_
  case y43 => (intro w hSw; (try dsimp only at hSw); go_simp; try (with_reducible rfl))
  try simp only [Act.put, List.setIfInBounds_toArray, List.set_cons_zero, List.set_cons_succ]
  refine wpAnyH_take (i := 1) (v := ?v44) (by simp only [List.getElem?_toArray, List.getElem?_cons_succ, List.getElem?_cons_zero]; exact rfl) (by kernel_rfl) (by kernel_rfl) (by kernel_rfl) (by intro _ _ _ h; exact h) (Or.inl ⟨by rfl, ?y44⟩) hHeld ?_
  case y44 => (intro w hSw; (try dsimp only at hSw); go_simp; try (with_reducible rfl))
  try simp only [Act.put, List.setIfInBounds_toArray, List.set_cons_zero, List.set_cons_succ]
  refine wpAnyH_ready (rs := [2]) (by kernel_rfl) (by simp) ?_
  refine AllReadyH.cons (by simp only [List.getElem?_toArray, List.getElem?_cons_succ, List.getElem?_cons_zero]; exact rfl) (fun K hK => ?_) AllReadyH.nil
  go_simp
  have q7d := q7.drew
  have y2_7k := y2_7
  have y2_7 := y2_7.below ((Below.refl w7.heap.size w7).drew) (Nat.le_refl _)
  have w0_0_7k := w0_0_7
  have w0_0_7 := w0_0_7.below ((Below.refl w7.heap.size w7).drew) (Nat.le_refl _)
  have y4_7k := y4_7
  have y4_7 := y4_7.below ((Below.refl w7.heap.size w7).drew) (Nat.le_refl _)
  have g0_0_7k := g0_0_7
  have g0_0_7 := g0_0_7.below ((Below.refl w7.heap.size w7).drew) (Nat.le_refl _)
  refine (toGraph_any _ _ _ (hv0.below q7d (Nat.le_refl _)) hsm0).mono ?_
  rintro e w8 ⟨x8, rfl, y8_8, hb8⟩
  replace hb8 : Below w7.heap.size w7 w8 := ⟨hb8.os, hb8.tape, hb8.output, hb8.size, hb8.block⟩
  replace y2_7 := y2_7k
  replace w0_0_7 := w0_0_7k
  replace y4_7 := y4_7k
  replace g0_0_7 := g0_0_7k
  have q8 := q7.trans (hb8.mono q7.size)
  have z8 := hb8.size
  have b0_8 : w8.cell? ⟨w.heap.size, 0, none⟩ = some (.slice a0 g0.length c0) := (hb8.cell (p := ⟨w.heap.size, 0, none⟩) (cell_lt b0_7)).trans b0_7
  have l5_8 : w8.cell? ⟨w4.heap.size, 0, none⟩ = some (.slice xa4 g0.length xc4) := (hb8.cell (p := ⟨w4.heap.size, 0, none⟩) (cell_lt l5_7)).trans l5_7
  have y2_8 := y2_7.below hb8 (Nat.le_refl _)
  have w0_0_8 := w0_0_7.below hb8 (Nat.le_refl _)
  have y4_8 := y4_7.below hb8 (Nat.le_refl _)
  have g0_0_8 := g0_0_7.below hb8 (Nat.le_refl _)
  try dsimp only
  refine hK.out _ _ ?h46 (fun hHeld => ?_)
  case h46 => first | exact ⟨‹_›, ‹_›⟩ | assumption | (simp [*, go_sem])
  clear hK K
  try simp only [Act.put, List.setIfInBounds_toArray, List.set_cons_zero, List.set_cons_succ]
  refine wpAnyH_ready (rs := [3]) (by kernel_rfl) (by simp) ?_
  refine AllReadyH.cons (by simp only [List.getElem?_toArray, List.getElem?_cons_succ, List.getElem?_cons_zero]; exact rfl) (fun K hK => ?_) AllReadyH.nil
  go_simp
  refine (eqG_same (y4_8.rows hsm0) y8_8).mono ?_
  rintro e w9 ⟨rfl, hb9⟩
  have q9 := q8.trans (hb9.mono q8.size)
  have z9 := hb9.size
  have b0_9 : w9.cell? ⟨w.heap.size, 0, none⟩ = some (.slice a0 g0.length c0) := (hb9.cell (p := ⟨w.heap.size, 0, none⟩) (cell_lt b0_8)).trans b0_8
  have l5_9 : w9.cell? ⟨w4.heap.size, 0, none⟩ = some (.slice xa4 g0.length xc4) := (hb9.cell (p := ⟨w4.heap.size, 0, none⟩) (cell_lt l5_8)).trans l5_8
  have y2_9 := y2_8.below hb9 (Nat.le_refl _)
  have w0_0_9 := w0_0_8.below hb9 (Nat.le_refl _)
  have y4_9 := y4_8.below hb9 (Nat.le_refl _)
  have g0_0_9 := g0_0_8.below hb9 (Nat.le_refl _)
  have y8_9 := y8_8.below hb9 (Nat.le_refl _)
  try dsimp only
  refine hK.out _ _ ?h48 (fun hHeld => ?_)
  case h48 => first | exact ⟨‹_›, ‹_›⟩ | assumption | (simp [*, go_sem])
  clear hK K
  try simp only [Act.put, List.setIfInBounds_toArray, List.set_cons_zero, List.set_cons_succ]
  refine wpAnyH_take (i := 4) (v := ?v49) (by simp only [List.getElem?_toArray, List.getElem?_cons_succ, List.getElem?_cons_zero]; exact rfl) (by kernel_rfl) (by kernel_rfl) (by kernel_rfl) (by intro _ _ _ h; exact h) (Or.inl ⟨by rfl, ?y49⟩) hHeld ?_
  case y49 => (intro w hSw; (try dsimp only at hSw); go_simp; try (with_reducible rfl))
  try simp only [Act.put, List.setIfInBounds_toArray, List.set_cons_zero, List.set_cons_succ]
  refine wpAnyH_done (by kernel_rfl) ?_ _
  go_wp2_with fail
  refine (markG_any y4_9 hsm0 (by omega) (by omega) (by omega)).mono ?_
  rintro e w10 ⟨k10, rfl, hk10, hl10, ht10⟩
  have q10 := ht10.below q9 (by have := q9.size; omega) q9.size
  have z10 := ht10.size
  have b0_10 : w10.cell? ⟨w.heap.size, 0, none⟩ = some (.slice a0 g0.length c0) := (ht10.cell (p := ⟨w.heap.size, 0, none⟩) (cell_lt b0_9) (by have : w.heap.size < w9.heap.size := cell_lt b0_9; show w.heap.size < _ ∨ _ ≤ w.heap.size; omega)).trans b0_9
  have l5_10 : w10.cell? ⟨w4.heap.size, 0, none⟩ = some (.slice xa4 g0.length xc4) := (ht10.cell (p := ⟨w4.heap.size, 0, none⟩) (cell_lt l5_9) (by have : w4.heap.size < w9.heap.size := cell_lt l5_9; show w4.heap.size < _ ∨ _ ≤ w4.heap.size; omega)).trans l5_9
  have y2_10 := y2_9.between ht10 (by omega)
  have w0_0_10 := w0_0_9.betweenR ht10 (fun b (hb : b < w3.heap.size) => ⟨by omega, by omega⟩)
  have g0_0_10 := g0_0_9.between ht10 (by omega)
  have hkn10 : ¬ k10 < 0 := by omega
  go_wp2_with fail
  refine (eqR_same (g0_0_10.rows hN0) w0_0_10).mono ?_
  rintro e w11 ⟨rfl, hb11⟩
  have q11 := q10.trans (hb11.mono q10.size)
  have z11 := hb11.size
  have b0_11 : w11.cell? ⟨w.heap.size, 0, none⟩ = some (.slice a0 g0.length c0) := (hb11.cell (p := ⟨w.heap.size, 0, none⟩) (cell_lt b0_10)).trans b0_10
  have l5_11 : w11.cell? ⟨w4.heap.size, 0, none⟩ = some (.slice xa4 g0.length xc4) := (hb11.cell (p := ⟨w4.heap.size, 0, none⟩) (cell_lt l5_10)).trans l5_10
  have y2_11 := y2_10.below hb11 (Nat.le_refl _)
  have w0_0_11 := w0_0_10.below hb11 (Nat.le_refl _)
  have g0_0_11 := g0_0_10.below hb11 (Nat.le_refl _)
  go_wp2_with fail
  refine (markRR_any g0_0_11 hN0 (k := 1) (by omega) (by omega)).mono ?_
  rintro e w12 ⟨rfl, g0_0_12, ht12⟩
  have q12 := ht12.below q11 (by have := q11.size; omega) q11.size
  have z12 := ht12.size
  have b0_12 : w12.cell? ⟨w.heap.size, 0, none⟩ = some (.slice a0 g0.length c0) := (ht12.cell (p := ⟨w.heap.size, 0, none⟩) (cell_lt b0_11) (by have : w.heap.size < w11.heap.size := cell_lt b0_11; show w.heap.size < _ ∨ _ ≤ w.heap.size; omega)).trans b0_11
  have l5_12 : w12.cell? ⟨w4.heap.size, 0, none⟩ = some (.slice xa4 g0.length xc4) := (ht12.cell (p := ⟨w4.heap.size, 0, none⟩) (cell_lt l5_11) (by have : w4.heap.size < w11.heap.size := cell_lt l5_11; show w4.heap.size < _ ∨ _ ≤ w4.heap.size; omega)).trans l5_11
  have y2_12 := y2_11.between ht12 (by omega)
  have w0_0_12 := w0_0_11.betweenR ht12 (fun b (hb : b < w3.heap.size) => ⟨by omega, by omega⟩)
  have hmn12 : ¬ (1 + (sumL r0 : Int)) < 0 := by omega
  go_wp2_with fail
  refine (heldRR_any (g0_0_12.rows (marksR_small hN0)) hN0 (k := 1) (by omega) (by omega)).mono ?_
  rintro e w13 ⟨rfl, hb13⟩
  have q13 := q12.trans (hb13.mono q12.size)
  have z13 := hb13.size
  have b0_13 : w13.cell? ⟨w.heap.size, 0, none⟩ = some (.slice a0 g0.length c0) := (hb13.cell (p := ⟨w.heap.size, 0, none⟩) (cell_lt b0_12)).trans b0_12
  have l5_13 : w13.cell? ⟨w4.heap.size, 0, none⟩ = some (.slice xa4 g0.length xc4) := (hb13.cell (p := ⟨w4.heap.size, 0, none⟩) (cell_lt l5_12)).trans l5_12
  have y2_13 := y2_12.below hb13 (Nat.le_refl _)
  have w0_0_13 := w0_0_12.below hb13 (Nat.le_refl _)
  have g0_0_13 := g0_0_12.below hb13 (Nat.le_refl _)
  have hmn13 : ¬ (1 + (sumL r0 : Int)) < 0 := by omega
  go_wp2_with fail
  refine (toGraphR_any (hv0.below q13 (Nat.le_refl _)) hsm0).mono ?_
  rintro e w14 ⟨x14, rfl, y14_14, hb14⟩
  have q14 := q13.trans (hb14.mono q13.size)
  have z14 := hb14.size
  have b0_14 : w14.cell? ⟨w.heap.size, 0, none⟩ = some (.slice a0 g0.length c0) := (hb14.cell (p := ⟨w.heap.size, 0, none⟩) (cell_lt b0_13)).trans b0_13
  have l5_14 : w14.cell? ⟨w4.heap.size, 0, none⟩ = some (.slice xa4 g0.length xc4) := (hb14.cell (p := ⟨w4.heap.size, 0, none⟩) (cell_lt l5_13)).trans l5_13
  have y2_14 := y2_13.below hb14 (Nat.le_refl _)
  have w0_0_14 := w0_0_13.below hb14 (Nat.le_refl _)
  have g0_0_14 := g0_0_13.below hb14 (Nat.le_refl _)
  obtain ⟨xa14, xc14, rfl⟩ := y14_14.isSlice
  go_wp2_with fail
  refine (hI (ht.below q14 (Nat.le_refl _)) (y14_14.rows hsm0)).mono ?_
  rintro e w15 ⟨h0u0, rfl, h0_0_15, hb15⟩
  have q15 := q14.trans (hb15.mono q14.size)
  have z15 := hb15.size
  have b0_15 : w15.cell? ⟨w.heap.size, 0, none⟩ = some (.slice a0 g0.length c0) := (hb15.cell (p := ⟨w.heap.size, 0, none⟩) (cell_lt b0_14)).trans b0_14
  have l5_15 : w15.cell? ⟨w4.heap.size, 0, none⟩ = some (.slice xa4 g0.length xc4) := (hb15.cell (p := ⟨w4.heap.size, 0, none⟩) (cell_lt l5_14)).trans l5_14
  have y2_15 := y2_14.below hb15 (Nat.le_refl _)
  have w0_0_15 := w0_0_14.below hb15 (Nat.le_refl _)
  have g0_0_15 := g0_0_14.below hb15 (Nat.le_refl _)
  have y14_15 := y14_14.below hb15 (Nat.le_refl _)
  obtain ⟨h0a0, h0c0, rfl⟩ := h0_0_15.isSlice
  go_wp2_with fail
  refine (eqR_same (h0_0_15.rows hN0) w0_0_15).mono ?_
  rintro e w16 ⟨rfl, hb16⟩
  have q16 := q15.trans (hb16.mono q15.size)
  have z16 := hb16.size
  have b0_16 : w16.cell? ⟨w.heap.size, 0, none⟩ = some (.slice a0 g0.length c0) := (hb16.cell (p := ⟨w.heap.size, 0, none⟩) (cell_lt b0_15)).trans b0_15
  have l5_16 : w16.cell? ⟨w4.heap.size, 0, none⟩ = some (.slice xa4 g0.length xc4) := (hb16.cell (p := ⟨w4.heap.size, 0, none⟩) (cell_lt l5_15)).trans l5_15
  have y2_16 := y2_15.below hb16 (Nat.le_refl _)
  have w0_0_16 := w0_0_15.below hb16 (Nat.le_refl _)
  have g0_0_16 := g0_0_15.below hb16 (Nat.le_refl _)
  have y14_16 := y14_15.below hb16 (Nat.le_refl _)
  have h0_0_16 := h0_0_15.below hb16 (Nat.le_refl _)
  go_wp2_with fail
  refine (heldRR_any (g0_0_16.rows (marksR_small hN0)) hN0 (k := 1) (by omega) (by omega)).mono ?_
  rintro e w17 ⟨rfl, hb17⟩
  have q17 := q16.trans (hb17.mono q16.size)
  have z17 := hb17.size
  have b0_17 : w17.cell? ⟨w.heap.size, 0, none⟩ = some (.slice a0 g0.length c0) := (hb17.cell (p := ⟨w.heap.size, 0, none⟩) (cell_lt b0_16)).trans b0_16
  have l5_17 : w17.cell? ⟨w4.heap.size, 0, none⟩ = some (.slice xa4 g0.length xc4) := (hb17.cell (p := ⟨w4.heap.size, 0, none⟩) (cell_lt l5_16)).trans l5_16
  have y2_17 := y2_16.below hb17 (Nat.le_refl _)
  have w0_0_17 := w0_0_16.below hb17 (Nat.le_refl _)
  have g0_0_17 := g0_0_16.below hb17 (Nat.le_refl _)
  have y14_17 := y14_16.below hb17 (Nat.le_refl _)
  have h0_0_17 := h0_0_16.below hb17 (Nat.le_refl _)
  have hmn17 : ¬ (1 + (sumL r0 : Int)) < 0 := by omega
  go_wp2
  go_ret
  exact ⟨rfl, q17⟩
end Go.Proofs.YtgkkgagnoeedaaaDoor
