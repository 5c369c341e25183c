/- Bridges: what they are; the program's bridgesOf. -/
import Derived.Test.YtklnjpdpinccoaaDoorOwnS
import Derived.Test.YtklnjpdpinccoaaDoorEarP
import Derived.Test.YtklnjpdpinccoaaDoorEdge
import Derived.Test.YtklnjpdpinccoaaDoorMark4
namespace Go.Proofs.YtklnjpdpinccoaaDoor
open Go.RowKit
noncomputable def bridgeB (g : List (List Int)) (u v : Nat) : Bool := !(reachN (cutN (netsL g) u v) (firstN g.length) u).testBit v
noncomputable def isBr (g : List (List Int)) (e : List Int) : Bool := bridgeB g (e.getD 0 0).toNat (e.getD 1 0).toNat
noncomputable def bridgesL (g : List (List Int)) : List (List Int) := (edgesL g).filter (isBr g)
theorem orAt_bit {a : List Nat} {u x y v : Nat} (hu : u < a.length) : ((orAt a u x).getD y 0).testBit v = ((a.getD y 0).testBit v || (decide (u = y) && decide (x = v))) := by
  unfold orAt
  by_cases e : u = y
  · subst e
    have : (a.set u (a.getD u 0 ||| bit x)).getD u 0 = a.getD u 0 ||| bit x := by simp [hu]
    rw [this, Nat.testBit_or, testBit_bit, decide_eq_true rfl, Bool.true_and]
  · have : (a.set u (a.getD u 0 ||| bit x)).getD y 0 = a.getD y 0 := by
      generalize a.getD u 0 ||| bit x = z
      simp [e]
    rw [this, decide_eq_false e]; simp
theorem cutN_lt {a : List Nat} {u x : Nat} (ha : ∀ m ∈ a, m < 4294967296) : ∀ m ∈ cutN a u x, m < 4294967296 := cutAt_lt (cutAt_lt ha)
theorem join_cut {a : List Nat} {u x : Nat} (ha : ∀ m ∈ a, m < 4294967296) (hu : u < a.length) (hx : x < a.length) (h16 : a.length ≤ 16) (h1 : (a.getD u 0).testBit x = true) (h2 : (a.getD x 0).testBit u = true) : joinN (cutN a u x) u x = a := by
  apply list_bits
  · rw [joinN_len, cutN_len]
  · intro y hy v
    unfold joinN
    rw [orAt_bit (by rw [orAt_len, cutN_len]; exact hx), orAt_bit (by rw [cutN_len]; exact hu), cutN_bit ha hu hx h16]
    by_cases e1 : (y, v) = (u, x)
    · obtain ⟨rfl, rfl⟩ := Prod.mk.inj e1
      rw [h1]; simp
    · by_cases e2 : (y, v) = (x, u)
      · obtain ⟨rfl, rfl⟩ := Prod.mk.inj e2
        rw [h2]; simp
      · rw [decide_eq_false e1, decide_eq_false e2]
        have a1 : ¬ (u = y ∧ x = v) := fun h => e1 (by rw [h.1, h.2])
        have a2 : ¬ (x = y ∧ u = v) := fun h => e2 (by rw [h.1, h.2])
        have b1 : (decide (u = y) && decide (x = v)) = false := by rw [Bool.and_eq_false_iff, decide_eq_false_iff_not, decide_eq_false_iff_not]; exact Classical.not_and_iff_not_or_not.1 a1
        have b2 : (decide (x = y) && decide (u = v)) = false := by rw [Bool.and_eq_false_iff, decide_eq_false_iff_not, decide_eq_false_iff_not]; exact Classical.not_and_iff_not_or_not.1 a2
        rw [b1, b2]; simp
theorem bridges_small {g : List (List Int)} (hg : GOk g) : SmallR (bridgesL g) 1048576 := by
  have h := edges_small hg
  refine ⟨by have := List.length_filter_le (isBr g) (edgesL g); have := h.1; unfold bridgesL; omega, fun i hi _ => ?_⟩
  have hm : (bridgesL g)[i] ∈ edgesL g := (List.mem_filter.1 (List.getElem_mem hi)).1
  obtain ⟨j, hj, e⟩ := List.getElem_of_mem hm
  rw [← e]; exact h.2 j hj hj
/-- The chosen ones among the first k. -/
def chosen (p : List Int → Bool) (E : List (List Int)) (k : Nat) : List Nat := (List.range k).filter fun i => p (E.getD i [])
theorem chosen_yes {p : List Int → Bool} {E : List (List Int)} {k : Nat} (h : p (E.getD k []) = true) : chosen p E (k + 1) = chosen p E k ++ [k] := by
  unfold chosen; rw [List.range_succ, List.filter_append]; simp only [List.filter_cons, h, if_true, List.filter_nil]
theorem chosen_no {p : List Int → Bool} {E : List (List Int)} {k : Nat} (h : p (E.getD k []) = false) : chosen p E (k + 1) = chosen p E k := by
  unfold chosen; rw [List.range_succ, List.filter_append]; simp only [List.filter_cons, h, Bool.false_eq_true, if_false, List.filter_nil, List.append_nil]
theorem chosen_lt {p : List Int → Bool} {E : List (List Int)} {k i : Nat} (h : i ∈ chosen p E k) : i < k := List.mem_range.1 (List.mem_filter.1 h).1
theorem chosen_len (p : List Int → Bool) (E : List (List Int)) (k : Nat) : (chosen p E k).length ≤ k := by
  have := List.length_filter_le (fun i => p (E.getD i [])) (List.range k)
  rw [List.length_range] at this; exact this
theorem chosen_sorted (p : List Int → Bool) (E : List (List Int)) (k : Nat) : (chosen p E k).Pairwise (· < ·) := List.Pairwise.filter _ List.pairwise_lt_range
theorem chosen_all (p : List Int → Bool) (E : List (List Int)) : ∀ k, k ≤ E.length → (chosen p E k).map (fun i => E.getD i []) = (E.take k).filter p
  | 0, _ => by simp [chosen]
  | k + 1, hk => by
    have e : E.getD k [] = E[k] := by simp; rw [List.getElem?_eq_getElem (by omega)]; rfl
    rw [List.take_succ_eq_append_getElem (by omega), List.filter_append, ← chosen_all p E k (by omega)]
    cases h : p (E.getD k []) with
    | true => rw [chosen_yes h, List.map_append, ← e]; simp only [List.map_cons, List.map_nil, List.filter_cons, h, if_true, List.filter_nil]
    | false => rw [chosen_no h, ← e]; simp only [List.filter_cons, h, Bool.false_eq_true, if_false, List.filter_nil, List.append_nil]
theorem Own.otherT {w w' : World} {B B' : Nat} {E E' : TypeId} {s s' : Nat} {v u : Value} {n n' : Nat} {xs xs' : List Value} (h : Own w B E s v n xs) (h' : Own w B' E' s' u n' xs') (hE : E ≠ E') (hk : KeptBut w w' u.ownBlock) : Own w' B E s v n xs :=
  h.kept hk fun b hb => own_typeS h h' hE b hb
theorem edge_at {g : List (List Int)} (hg : GOk g) {k : Nat} (hk : k < (edgesL g).length) : ∃ u z : Nat, (edgesL g)[k] = [(u : Int), (z : Int)] ∧ u < g.length ∧ z < g.length ∧ ((netsL g).getD u 0).testBit z = true ∧ ((netsL g).getD z 0).testBit u = true := by
  obtain ⟨u, hu, v, hv, -, e⟩ := mem_edgesTo.1 (show (edgesL g)[k] ∈ edgesTo g g.length from List.getElem_mem hk)
  have e1 : g.getD u [] = g[u] := by simp [hu]
  rw [e1] at hv
  have h1 := hg.ge hu v hv
  obtain ⟨z, rfl⟩ := Int.eq_ofNat_of_zero_le h1.1
  rw [← e1] at hv
  obtain ⟨h2, h3, -⟩ := hg.symD hu hv
  refine ⟨u, z, e, hu, h2, ?_, ?_⟩
  · rw [nets_bit2 hg hu]; exact decide_eq_true hv
  · rw [nets_bit2 hg h2]; exact decide_eq_true h3
set_option maxRecDepth 100000 in
set_option maxHeartbeats 8000000 in
theorem bridgesOf_any {S : Nat → Prop} {v : Value} {g : List (List Int)} {w : World} (ht : Tab w) (hg : GOk g) (hv : SlR S w v g) :
    Calls Tryd.prog 49 #[.agg #[v]] w fun e w' => ∃ u, e = .returned u ∧ OwnR w' w.heap.size w'.heap.size 34 2 u (bridgesL g) ∧ Below w.heap.size w w' := by
  have hq0 : Below w.heap.size w (w.alloc (.cells #[v] 27)) := (Below.refl _ _).alloc (Nat.le_refl _) _
  have h16 := hg.hi
  have hlo := hg.lo
  have hgb := fun (W : World) (hb : Below w.heap.size w W) => hv.below hb (Nat.le_refl _)
  obtain ⟨ga, gc, rfl⟩ := hv.slice
  go_enter Tryd.func49, Tryd.ntmps49
  go_wp2_with fail
  refine (netsOf_any _ _ _ (hgb _ hq0) hg).mono ?_
  rintro e w1 ⟨av, rfl, hA, hb1⟩
  have hq1 := hq0.trans (hb1.mono hq0.size)
  have c1 : w1.cell? ⟨w.heap.size, 0, none⟩ = some (.slice ga g.length gc) := (hb1.cell (p := ⟨w.heap.size, 0, none⟩) (by simp)).trans (by simp [go_sem])
  have hsz1 : w.heap.size < w1.heap.size := cell_lt c1
  have hba : Below w1.heap.size w1 (w1.alloc (.cells #[] 34)) := (Below.refl _ _).alloc (Nat.le_refl _) _
  have hA1 := (hA.below hba (Nat.le_refl _)).weak (show w.heap.size ≤ _ by simp)
  have hO1 : Own (w1.alloc (.cells #[] 34)) w.heap.size 34 1 (.slice (some ⟨w1.heap.size, 0, none⟩) 0 0) 0 [] := by
    have := World.ownsRow_lit (base := w.heap.size) (e := 34) (size := 1) w1 #[] 0 (by omega) (by unfold maxLen; omega) rfl
    simpa [Own] using this
  have hq2 := hq1.trans (hba.mono hq1.size)
  have c2 := (hba.cell (cell_lt c1)).trans c1
  obtain ⟨ab, ac, rfl⟩ := own_some hA1 (by omega)
  clear hA hb1 c1 hq0 hba
  go_wp2_with fail
  refine (edgesOf_any hg (hgb _ hq2)).mono ?_
  rintro e w2 ⟨ev, rfl, hE, hb2⟩
  have hq3 := hq2.trans (hb2.mono hq2.size)
  have hA2 := hA1.below hb2 (Nat.le_refl _)
  have hO2 := hO1.below hb2 (Nat.le_refl _)
  have hes := edges_small hg
  have hEL := hes.1
  obtain ⟨vsE, hE1, hE2, hE3, hEap, hE4⟩ := hE
  have hap0 : Apart (.slice (some ⟨w1.heap.size, 0, none⟩) 0 0) ev := fun b hb he => by
    have h1 := (hO1.lt b hb).2
    have h2 := hE2.ge b he
    omega
  have hE2 := hE2.weak (show w.heap.size ≤ _ from hq2.size)
  have hRW : ∀ i (h : i < (edgesL g).length) (h2 : i < vsE.length), Own w2 w.heap.size 2 1 vsE[i] (edgesL g)[i].length ((edgesL g)[i].map (.int .i64)) := fun i h h2 => (hE4 i h h2).1.weak hq2.size
  have htb := ht.below hq3 (Nat.le_refl _)
  obtain ⟨ea, ec, rfl⟩ := hE2.isSlice
  have HED := Lib.hid (fun k (hk : k < (edgesL g).length) => edge_at hg hk)
  have hHL := netsL_lt hg
  have hNL := netsL_len g
  have HFF := Lib.hid (show bridgesL g = (edgesL g).filter (isBr g) from rfl)
  have HBR := Lib.hid (show ∀ u z : Nat, isBr g [(u : Int), (z : Int)] = !(reachN (cutN (netsL g) u z) (firstN g.length) u).testBit z from fun u z => rfl)
  have HES := Lib.hid hes
  generalize edgesL g = E at *
  generalize netsL g = A at *
  clear hE4 hE3 hA1 hO1 hb2 c2 hq1 hq2 hes htb
  go_wp2
  go_loopw [4, 15] (fun ov i wr => ∃ k : Nat, k ≤ E.length ∧ i = .int .i64 k ∧ Own wr w.heap.size 66 1 (.slice (some ⟨ab, 0, none⟩) g.length ac) g.length ((natsI A).map (.int .u32)) ∧ Own wr w.heap.size 34 1 (.slice ea E.length ec) E.length vsE ∧ RowKit.Hid (∀ i (h : i < E.length) (h2 : i < vsE.length), Own wr w.heap.size 2 1 vsE[i] E[i].length (E[i].map (.int .i64))) ∧
      Own wr w.heap.size 34 1 ov (chosen (isBr g) E k).length ((chosen (isBr g) E k).map fun i => vsE.getD i undef) ∧ Apart ov (.slice ea E.length ec) ∧ Below w.heap.size w wr) (fun _ i _ => E.length - (intOf i).toNat)
  case atStart => exact ⟨0, Nat.zero_le _, rfl, hA2, hE2, Lib.hid hRW, by simpa [chosen] using hO2, hap0, hq3⟩
  case round =>
    clear hA2 hE2 hRW hO2 hap0 hq3
    obtain ⟨k, hk, rfl, hA, hE, HR, hO, hap, hq⟩ := hrel
    obtain ⟨wi, rfl⟩ : ∃ wx : World, wx = wr := ⟨_, rfl⟩
    have hcl := chosen_len (isBr g) E k
    by_cases hlt : k < E.length
    case neg =>
      obtain rfl : k = E.length := by omega
      have hall := chosen_all (isBr g) E E.length (Nat.le_refl _)
      rw [List.take_length, ← HFF.out] at hall
      have hcs := chosen_sorted (isBr g) E E.length
      have hcm := fun i (h : i ∈ chosen (isBr g) E E.length) => chosen_lt h
      go_wp2
      go_ret
      refine ⟨_, rfl, ?_, hq⟩
      generalize chosen (isBr g) E E.length = ks at *
      rw [← hall]
      refine ⟨ks.map fun i => vsE.getD i undef, by simp, by rw [List.length_map]; exact hO, fun b hb => (hO.lt b hb).2, fun i j hi hj b h1 h2 => ?_, fun i hi hi2 => ?_⟩
      · simp only [List.length_map] at hi hj
        have ki := hcm _ (List.getElem_mem hi)
        have kj := hcm _ (List.getElem_mem hj)
        have a1 : vsE.getD ks[i] undef = vsE[ks[i]]'(by omega) := by simp; rw [List.getElem?_eq_getElem (by omega)]; rfl
        have a2 : vsE.getD ks[j] undef = vsE[ks[j]]'(by omega) := by simp; rw [List.getElem?_eq_getElem (by omega)]; rfl
        rw [List.getElem_map, a1] at h1
        rw [List.getElem_map, a2] at h2
        have h3 := hEap _ _ (by omega) (by omega) b h1 h2
        have hpw := List.pairwise_iff_getElem.1 hcs
        rcases Nat.lt_trichotomy i j with h | h | h
        · have := hpw i j hi hj h; omega
        · exact h
        · have := hpw j i hj hi h; omega
      · simp only [List.length_map] at hi hi2
        have ki := hcm _ (List.getElem_mem hi2)
        have a1 : vsE.getD ks[i] undef = vsE[ks[i]]'(by omega) := by simp; rw [List.getElem?_eq_getElem (by omega)]; rfl
        have a2 : E.getD ks[i] [] = E[ks[i]] := by simp [ki]
        simp only [List.getElem_map, a1, a2]
        have hr := HR.out ks[i] ki (by omega)
        exact ⟨hr, fun b hb => ⟨(hr.lt b hb).2, own_typeS hr hO (by decide) b hb⟩⟩
    have hkv : k < vsE.length := by omega
    obtain ⟨u, z, hek, hu, hz, hb1, hb2⟩ := HED.out k hlt
    have hrow := HR.out k hlt hkv
    rw [hek] at hrow
    have hge : E.getD k [] = [(u : Int), (z : Int)] := by rw [← hek]; simp [hlt]
    have HY := Lib.hid (fun h => chosen_yes (p := isBr g) (E := E) (k := k) (by rw [hge]; exact h))
    have HN := Lib.hid (fun h => chosen_no (p := isBr g) (E := E) (k := k) (by rw [hge]; exact h))
    have HBZ := Lib.hid (HBR.out u z)
    have HJC := Lib.hid (join_cut hHL (by omega : u < A.length) (by omega : z < A.length) (by omega) hb1 hb2)
    have hVK : vsE.getD k undef = vsE[k] := by simp [hkv]
    obtain ⟨rb, rc, hre⟩ := own_some hrow (by simp)
    have HVK := Lib.hid (hVK.trans hre)
    have he0 : wi.cell? ⟨rb, 0, none⟩ = some (.int .i64 (u : Int)) := by rw [hre] at hrow; exact World.ownsRow.cellAt hrow 0 (by simp)
    have he1 : wi.cell? ⟨rb, 1, none⟩ = some (.int .i64 (z : Int)) := by rw [hre] at hrow; exact World.ownsRow.cellAt hrow 1 (by simp)
    obtain ⟨eb, ec2, hee⟩ := own_some hE (by omega)
    simp only [Value.slice.injEq, true_and] at hee
    obtain ⟨rfl, rfl⟩ := hee
    have hce := World.ownsRow.cellAt hE k (by omega)
    rw [List.getElem?_eq_getElem hkv, hre] at hce
    obtain ⟨oa, oc, rfl⟩ := hO.isSlice
    have HHL := Lib.hid hHL
    have HNL := Lib.hid hNL
    have hrdd := fun (W : World) (hd : Drawn wi W) => (hA.drawn hd)
    have hal16 : A.length ≤ 16 := by omega
    have hAC := cutN_len A u z
    have HAC := Lib.hid hAC
    have HACL := Lib.hid (cutN_lt (u := u) (x := z) hHL)
    have hF2 : firstN g.length < 2 ^ g.length := by unfold firstN; have := Nat.two_pow_pos g.length; omega
    have hRL := reachN_lt (cutN A u z) (firstN g.length) u
    clear HED HBR hHL hNL hek hrow hb1 hb2 hre hVK hge hrdd hAC
    go_wp2
    refine wp_region_held_drew (S := (fun w' => w'.cell? ⟨rb, 0, none⟩ = some (.int .i64 (u : Int)) ∧ w'.cell? ⟨rb, 1, none⟩ = some (.int .i64 (z : Int)))) (by kernel_rfl) ?_ (fun hHeld => ?_)
    · first | exact ⟨‹_›, ‹_›⟩ | (simp [*, go_sem])
    have hdw : Drawn wi wi.drew := (Drawn.refl _).drew
    generalize wi.drew = wd at hdw hHeld ⊢
    refine wpAnyH_take (i := 0) (v := ?v1) (by simp only [List.getElem?_toArray, List.getElem?_cons_zero]; exact rfl) (by kernel_rfl) (by kernel_rfl) (by kernel_rfl) (by intro _ _ _ h; exact h) (Or.inl ⟨by rfl, ?y1⟩) hHeld ?_
    case y1 => (intro w hSw; (try dsimp only at hSw); go_simp; try (with_reducible rfl))
    try simp only [Act.put, List.setIfInBounds_toArray, List.set_cons_zero, List.set_cons_succ]
    refine wpAnyH_take (i := 1) (v := ?v2) (by simp only [List.getElem?_toArray, List.getElem?_cons_succ, List.getElem?_cons_zero]; exact rfl) (by kernel_rfl) (by kernel_rfl) (by kernel_rfl) (by intro _ _ _ h; exact h) (Or.inl ⟨by rfl, ?y2⟩) hHeld ?_
    case y2 => (intro w hSw; (try dsimp only at hSw); go_simp; try (with_reducible rfl))
    try simp only [Act.put, List.setIfInBounds_toArray, List.set_cons_zero, List.set_cons_succ]
    refine wpAnyH_take (i := 2) (v := ?v3) (by simp only [List.getElem?_toArray, List.getElem?_cons_succ, List.getElem?_cons_zero]; exact rfl) (by kernel_rfl) (by kernel_rfl) (by kernel_rfl) (by intro _ _ _ h; exact h) (Or.inl ⟨by rfl, ?y3⟩) hHeld ?_
    case y3 => (intro w hSw; (try dsimp only at hSw); go_simp; try (with_reducible rfl))
    try simp only [Act.put, List.setIfInBounds_toArray, List.set_cons_zero, List.set_cons_succ]
    refine wpAnyH_take (i := 3) (v := ?v4) (by simp only [List.getElem?_toArray, List.getElem?_cons_succ, List.getElem?_cons_zero]; exact rfl) (by kernel_rfl) (by kernel_rfl) (by kernel_rfl) (by intro _ _ _ h; exact h) (Or.inl ⟨by rfl, ?y4⟩) hHeld ?_
    case y4 => (intro w hSw; (try dsimp only at hSw); go_simp; try (with_reducible rfl))
    try simp only [Act.put, List.setIfInBounds_toArray, List.set_cons_zero, List.set_cons_succ]
    refine wpAnyH_take (i := 4) (v := ?v5) (by simp only [List.getElem?_toArray, List.getElem?_cons_succ, List.getElem?_cons_zero]; exact rfl) (by kernel_rfl) (by kernel_rfl) (by kernel_rfl) (by intro _ _ _ h; exact h) (Or.inl ⟨by rfl, ?y5⟩) hHeld ?_
    case y5 => (intro w hSw; (try dsimp only at hSw); go_simp; try (with_reducible rfl))
    try simp only [Act.put, List.setIfInBounds_toArray, List.set_cons_zero, List.set_cons_succ]
    refine wpAnyH_take (i := 5) (v := ?v6) (by simp only [List.getElem?_toArray, List.getElem?_cons_succ, List.getElem?_cons_zero]; exact rfl) (by kernel_rfl) (by kernel_rfl) (by kernel_rfl) (by intro _ _ _ h; exact h) (Or.inl ⟨by rfl, ?y6⟩) hHeld ?_
    case y6 => (intro w hSw; (try dsimp only at hSw); go_simp; try (with_reducible rfl))
    try simp only [Act.put, List.setIfInBounds_toArray, List.set_cons_zero, List.set_cons_succ]
    refine wpAnyH_take (i := 6) (v := ?v7) (by simp only [List.getElem?_toArray, List.getElem?_cons_succ, List.getElem?_cons_zero]; exact rfl) (by kernel_rfl) (by kernel_rfl) (by kernel_rfl) (by intro _ _ _ h; exact h) (Or.inl ⟨by rfl, ?y7⟩) hHeld ?_
    case y7 => (intro w hSw; (try dsimp only at hSw); go_simp; try (with_reducible rfl))
    try simp only [Act.put, List.setIfInBounds_toArray, List.set_cons_zero, List.set_cons_succ]
    refine wpAnyH_take (i := 7) (v := ?v8) (by simp only [List.getElem?_toArray, List.getElem?_cons_succ, List.getElem?_cons_zero]; exact rfl) (by kernel_rfl) (by kernel_rfl) (by kernel_rfl) (by intro _ _ _ h; exact h) (Or.inl ⟨by rfl, ?y8⟩) hHeld ?_
    case y8 => (intro w hSw; (try dsimp only at hSw); go_simp; try (with_reducible rfl))
    try simp only [Act.put, List.setIfInBounds_toArray, List.set_cons_zero, List.set_cons_succ]
    refine wpAnyH_done (by kernel_rfl) ?_ _
    have hA := hA.drawn hdw
    have hE := hE.drawn hdw
    have hO := hO.drawn hdw
    have HR2 := Lib.hid (fun i (h : i < E.length) (h2 : i < vsE.length) => (HR.out i h h2).drawn hdw)
    have hq := hq.trans (hdw.below _)
    clear HR he0 he1 hdw hce
    go_wp2_with fail
    refine (part_any (a := A) (u := u) (x := z) (by rw [HNL.out]; exact hA) HHL.out (by have := HNL.out; omega) (by have := HNL.out; omega) hal16).mono ?_
    rintro e w3 ⟨rfl, hA3, hk3⟩
    rw [HNL.out] at hA3
    have hE3 := hE.otherT hA (by decide) hk3
    have hO3 := hO.otherT hA (by decide) hk3
    have HR3 := Lib.hid (fun i (h : i < E.length) (h2 : i < vsE.length) => (HR2.out i h h2).otherT hA (by decide) hk3)
    have hq3 : Below w.heap.size w w3 := hk3.below hq hq.size (fun b hb => (hA.lt b hb).1)
    have hrch := fun (W : World) (ht : Tab W) (hn : SlI (fun _ => True) W .u32 (.slice (some ⟨ab, 0, none⟩) g.length ac) (natsI (cutN A u z))) => reach_any (a := cutN A u z) (v := u) (wi := firstN g.length) ht hn (by rw [HAC.out, HNL.out]; exact h16) HACL.out (by rw [HAC.out, HNL.out]; exact hF2) (by rw [HAC.out, HNL.out]; exact hu)
    have hai := (Own.ints (xs := natsI (cutN A u z)) hA3 (by omega)).weak (S' := fun _ => True) (fun _ _ => trivial)
    have ht3 := ht.below hq3 (Nat.le_refl _)
    have hrc := hrch _ ht3 hai
    have hjn := fun (W : World) (h : Own W w.heap.size 66 1 (.slice (some ⟨ab, 0, none⟩) g.length ac) (cutN A u z).length ((natsI (cutN A u z)).map (.int .u32))) => join_any (u := u) (x := z) h HACL.out (by rw [HAC.out, HNL.out]; exact hu) (by rw [HAC.out, HNL.out]; exact hz) (by rw [HAC.out]; exact hal16)
    rw [HJC.out, HAC.out, HNL.out] at hjn
    clear hrch hai hA hE hO hk3 HR2 hq
    generalize reachN (cutN A u z) (firstN g.length) u = R at *
    generalize cutN A u z = AC at *
    go_wp2_with fail
    refine (allOf_any (some ⟨ab, 0, none⟩) g.length ac _ h16).mono ?_
    rintro e w' ⟨rfl, rfl⟩
    go_wp2_with fail
    refine hrc.mono ?_
    rintro e w4 ⟨rfl, hb4⟩
    have hA4 := hA3.below hb4 (Nat.le_refl _)
    have hE4 := hE3.below hb4 (Nat.le_refl _)
    have hO4 := hO3.below hb4 (Nat.le_refl _)
    have HR4 := Lib.hid (fun i (h : i < E.length) (h2 : i < vsE.length) => (HR3.out i h h2).below hb4 (Nat.le_refl _))
    have hq4 := hq3.trans (hb4.mono hq3.size)
    clear hrc hA3 hE3 hO3 HR3 hb4 hq3 ht3
    cases hbb : R.testBit z with
    | true =>
      have HC := Lib.hid (HN.out (by rw [HBZ.out, hbb]; rfl))
      have hjn4 := hjn _ hA4
      clear hjn
      go_wp2_with (go_at_call 66; refine (has_any _ _ _ hRL (by omega)).mono ?_; rintro e w' ⟨rfl, rfl⟩)
      refine hjn4.mono ?_
      rintro e w5 ⟨rfl, hA5, hk5⟩
      go_wp2
      go_roundw
      case rel => exact ⟨k + 1, by omega, by go_num, hA5, hE4.otherT hA4 (by decide) hk5, Lib.hid (fun i h h2 => (HR4.out i h h2).otherT hA4 (by decide) hk5), by rw [HC.out]; exact hO4.otherT hA4 (by decide) hk5, hap, hk5.below hq4 hq4.size (fun b hb => (hA4.lt b hb).1)⟩
      case measure => simp [intOf]; omega
    | false =>
      have HC := Lib.hid (HY.out (by rw [HBZ.out, hbb]; rfl))
      go_wp2_with (first | (go_at_call 66; refine (has_any _ _ _ hRL (by omega)).mono ?_; rintro e w' ⟨rfl, rfl⟩) | (at_builtin; refine wpList_append1b elRows rfl _ _ rfl hO4 rfl rfl rfl rfl (by omega) hq4.size ?_; intro o5 w5 hO5 hkO hmv; obtain ⟨oa5, oc5, rfl⟩ := hO5.isSlice))
      have hA5 := hA4.otherT hO4 (by decide) hkO
      have hE5 := hE4.kept hkO (fun b hb he => hap b he hb)
      have HR5 := Lib.hid (fun i (h : i < E.length) (h2 : i < vsE.length) => (HR4.out i h h2).otherT hO4 (by decide) hkO)
      have hq5 := hkO.below hq4 hq4.size (fun b hb => (hO4.lt b hb).1)
      have hap5 := hap.moved hE4 (by simp) hmv
      refine (hjn _ hA5).mono ?_
      rintro e w6 ⟨rfl, hA6, hk6⟩
      have hlen : (chosen (isBr g) E (k + 1)).length = (chosen (isBr g) E k).length + 1 := by rw [HC.out]; simp
      have HLN := Lib.hid hlen
      clear hlen
      go_wp2
      go_roundw
      case rel => exact ⟨k + 1, by omega, by go_num, hA6, hE5.otherT hA5 (by decide) hk6, Lib.hid (fun i h h2 => (HR5.out i h h2).otherT hA5 (by decide) hk6), by rw [HLN.out, HC.out, List.map_append, List.map_cons, List.map_nil, HVK.out]; exact hO5.otherT hA5 (by decide) hk6, hap5, hk6.below hq5 hq5.size (fun b hb => (hA5.lt b hb).1)⟩
      case measure => simp [intOf]; omega
end Go.Proofs.YtklnjpdpinccoaaDoor
