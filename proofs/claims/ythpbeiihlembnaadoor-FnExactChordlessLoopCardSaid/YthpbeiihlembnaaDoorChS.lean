/- ChordlessLoop of the reference. -/
import Derived.Test.YthpbeiihlembnaaDoorChordM
import Derived.Test.YthpbeiihlembnaaDoorLess
import Derived.Test.YthpbeiihlembnaaDoorFit5
namespace Go.Proofs.YthpbeiihlembnaaDoor
open Go.RowKit
theorem row_bitsC {g : List (List Int)} (hg : GOk g) {x : Nat} (hx : x < g.length) : g[x] = natsI (bitsN ((netsL g).getD x 0)) := by
  rw [netsL_get hx, ← bits_natsI3, bitsI_maskL (rise_sorted (hg.rise x hx)) (hg.ge32 hx)]
theorem near_take {H : List Nat} {p : List Nat} {v k : Nat} (hk : k < p.length) : nearN H (p.take (k + 1)) v = nearN H (p.take k) v + if (H.getD p[k] 0).testBit v = true then 1 else 0 := by
  unfold nearN
  rw [List.take_succ_eq_append_getElem hk, List.filter_append, List.length_append]
  congr 1
  cases h : (H.getD p[k] 0).testBit v
  · rw [if_neg (by simp), List.filter_cons_of_neg (by rw [h]; simp)]; rfl
  · rw [if_pos rfl, List.filter_cons_of_pos (by rw [h])]; rfl
theorem nearN_le (H : List Nat) (p : List Nat) (v : Nat) : nearN H p v ≤ p.length := List.length_filter_le _ _
theorem nets_symC {g : List (List Int)} (hg : GOk g) : ∀ x y, x < g.length → y < g.length → ((netsL g).getD x 0).testBit y = true → ((netsL g).getD y 0).testBit x = true := fun x y hx hy h => by
  rw [nets_bit2 hg hx, decide_eq_true_eq] at h
  rw [nets_bit2 hg hy, decide_eq_true_eq]
  exact (hg.symD hx h).2.1
theorem SlI.keepK {w w' : World} {B : Nat} {E : TypeId} {k : IntKind} {v u : Value} {n : Nat} {xs : List Value} {ys : List Int} (h : SlI (fun b => b < B) w k v ys) (hk : KeptBut w w' u.ownBlock) (hu : Own w B E 1 u n xs) (hB : B ≤ w.heap.size) : SlI (fun b => b < B) w' k v ys :=
  h.keep fun b hb => hk.2.2.2.2 b (by omega) (fun e => by have := hu.ge b e.symm; omega)
theorem edge_bit {g : List (List Int)} (hg : GOk g) {u : Nat} (hu : u < g.length) (x : Nat) : decide ((x : Int) ∈ g.getD u []) = ((netsL g).getD u 0).testBit x := by
  rw [nets_bit2 hg hu x]
theorem l1Flag_any (b : Bool) (w : World) : Calls Tryd.prog 186 #[.bool b] w fun e w' => e = .returned (.int .i64 (if b then 1 else 0)) ∧ w = w' := by
  cases b <;> (go_enter Tryd.func186, Tryd.ntmps186; go_wp2; go_ret; exact ⟨rfl, rfl⟩)
set_option maxRecDepth 100000 in
set_option maxHeartbeats 4000000 in
theorem l8Near_any {S S' : Nat → Prop} {v u : Value} {g : List (List Int)} {p : List Nat} {x : Nat} {w : World} (hg : GOk g) (hv : SlR S w v g) (hu : SlI S' w .i64 u (natsI p)) (hp : ∀ a ∈ p, a < g.length) (hl : p.length ≤ 16) :
    Calls Tryd.prog 141 #[.agg #[v], u, .int .i64 (x : Int)] w fun e w' => e = .returned (.int .i64 (nearN (netsL g) p x : Int)) ∧ Below w.heap.size w w' := by
  obtain ⟨ga, gc, rfl⟩ := hv.slice
  have hb0 : Below w.heap.size w (w.alloc (.cells #[.slice ga g.length gc] 29)) := (Below.refl _ _).alloc (Nat.le_refl _) _
  have c0 : (w.alloc (.cells #[.slice ga g.length gc] 29)).cell? ⟨w.heap.size, 0, none⟩ = some (.slice ga g.length gc) := by simp [go_sem]
  have hu0 := hu
  obtain ⟨ub, uo, ucap, hue, huc⟩ := hu.at_
  obtain ⟨ua, uc, rfl⟩ := hu0.slice
  rw [natsI_len] at hue ⊢
  have HUC := Lib.hid huc
  have HG := Lib.hid hg
  have HE := Lib.hid (show nearN (netsL g) p x = nearN (netsL g) (p.take p.length) x by rw [List.take_length])
  clear huc hg hu hu0
  go_enter Tryd.func141, Tryd.ntmps141
  go_wp2
  go_loopw [7, 8] (fun mv iv wr => ∃ k : Nat, k ≤ p.length ∧ iv = .int .i64 k ∧ mv = .int .i64 (nearN (netsL g) (p.take k) x : Int) ∧ Below w.heap.size w wr ∧ wr.cell? ⟨w.heap.size, 0, none⟩ = some (.slice ga g.length gc)) (fun _ iv _ => p.length - (intOf iv).toNat)
  case atStart => exact ⟨0, Nat.zero_le _, rfl, by simp [nearN], hb0, c0⟩
  case round =>
    clear hb0 c0
    obtain ⟨k, hk, rfl, rfl, hq, cg⟩ := hrel
    obtain ⟨wi, rfl⟩ : ∃ wi : World, wi = wr := ⟨_, rfl⟩
    by_cases hlt : k < p.length
    case neg =>
      obtain rfl : k = p.length := by omega
      rw [← HE.out]
      go_wp2
      go_ret
      exact ⟨rfl, hq⟩
    have hst := near_take (H := netsL g) (v := x) hlt
    have hxl := hp _ (List.getElem_mem hlt)
    have hnl := nearN_le (netsL g) (p.take k) x
    rw [List.length_take] at hnl
    have d1 : wi.cell? ⟨ub, uo + k, none⟩ = some (.int .i64 (p[k] : Int)) := by
      have h1 := HUC.out k (by rw [natsI_len]; exact hlt)
      rw [natsI_get] at h1
      rw [hq.cell (cell_lt h1), h1]
    have hue2 := hue (by omega)
    simp only [Value.slice.injEq] at hue2
    obtain ⟨rfl, -, rfl⟩ := hue2
    have HB := Lib.hid (edge_bit HG.out hxl x)
    have HST := Lib.hid hst
    clear hst
    generalize p[k] = y at *
    generalize nearN (netsL g) (p.take k) x = m at *
    have hm16 : (m : Int) ≤ 16 := by omega
    have hwm0 : IntKind.i64.wrap (m : Int) = (m : Int) := IntWalk.i64_in _ (by omega)
    have hwm1 : IntKind.i64.wrap ((m : Int) + 1) = (m : Int) + 1 := IntWalk.i64_in _ (by omega)
    have HW0 := Lib.hid hwm0
    have HW1 := Lib.hid hwm1
    clear hwm0 hwm1
    obtain ⟨b, hb⟩ : ∃ b, b = ((netsL g).getD y 0).testBit x := ⟨_, rfl⟩
    rw [← hb] at HST HB
    clear hb hnl
    go_wp2
    refine wp_region_held_drew (S := (fun w' => w'.cell? ⟨w.heap.size, 0, none⟩ = some (.slice ga g.length gc) ∧ w'.cell? ⟨ub, uo + k, none⟩ = some (.int .i64 (y : Int)))) (by kernel_rfl) ?_ (fun hHeld => ?_)
    · first | exact ⟨‹_›, ‹_›⟩ | (simp [*, go_sem])
    have hqc := hq.drew
    generalize wi.drew = wd at hqc hHeld ⊢
    obtain ⟨c3, c4⟩ := hHeld
    have hHeld : (fun w' => World.cell? w' ⟨w.heap.size, 0, none⟩ = some (.slice ga g.length gc) ∧ World.cell? w' ⟨ub, uo + k, none⟩ = some (.int .i64 (y : Int))) wd := ⟨c3, c4⟩
    refine wpAnyH_take (i := 0) (v := ?v1) (by simp only [List.getElem?_toArray, List.getElem?_cons_zero]; exact rfl) (by kernel_rfl) (by kernel_rfl) (by kernel_rfl) (by intro _ _ _ h; exact h) (Or.inl ⟨by rfl, ?y1⟩) hHeld ?_
    case y1 => (intro w hSw; (try dsimp only at hSw); go_simp; try (with_reducible rfl))
    try simp only [Act.put, List.setIfInBounds_toArray, List.set_cons_zero, List.set_cons_succ]
    refine wpAnyH_take (i := 1) (v := ?v2) (by simp only [List.getElem?_toArray, List.getElem?_cons_succ, List.getElem?_cons_zero]; exact rfl) (by kernel_rfl) (by kernel_rfl) (by kernel_rfl) (by intro _ _ _ h; exact h) (Or.inl ⟨by rfl, ?y2⟩) hHeld ?_
    case y2 => (intro w hSw; (try dsimp only at hSw); go_simp; try (with_reducible rfl))
    try simp only [Act.put, List.setIfInBounds_toArray, List.set_cons_zero, List.set_cons_succ]
    refine wpAnyH_take (i := 2) (v := ?v3) (by simp only [List.getElem?_toArray, List.getElem?_cons_succ, List.getElem?_cons_zero]; exact rfl) (by kernel_rfl) (by kernel_rfl) (by kernel_rfl) (by intro _ _ _ h; exact h) (Or.inl ⟨by rfl, ?y3⟩) hHeld ?_
    case y3 => (intro w hSw; (try dsimp only at hSw); go_simp; try (with_reducible rfl))
    try simp only [Act.put, List.setIfInBounds_toArray, List.set_cons_zero, List.set_cons_succ]
    refine wpAnyH_take (i := 3) (v := ?v4) (by simp only [List.getElem?_toArray, List.getElem?_cons_succ, List.getElem?_cons_zero]; exact rfl) (by kernel_rfl) (by kernel_rfl) (by kernel_rfl) (by intro _ _ _ h; exact h) (Or.inl ⟨by rfl, ?y4⟩) hHeld ?_
    case y4 => (intro w hSw; (try dsimp only at hSw); go_simp; try (with_reducible rfl))
    try simp only [Act.put, List.setIfInBounds_toArray, List.set_cons_zero, List.set_cons_succ]
    refine wpAnyH_take (i := 4) (v := ?v5) (by simp only [List.getElem?_toArray, List.getElem?_cons_succ, List.getElem?_cons_zero]; exact rfl) (by kernel_rfl) (by kernel_rfl) (by kernel_rfl) (by intro _ _ _ h; exact h) (Or.inl ⟨by rfl, ?y5⟩) hHeld ?_
    case y5 => (intro w hSw; (try dsimp only at hSw); go_simp; try (with_reducible rfl))
    try simp only [Act.put, List.setIfInBounds_toArray, List.set_cons_zero, List.set_cons_succ]
    refine wpAnyH_take (i := 5) (v := ?v6) (by simp only [List.getElem?_toArray, List.getElem?_cons_succ, List.getElem?_cons_zero]; exact rfl) (by kernel_rfl) (by kernel_rfl) (by kernel_rfl) (by intro _ _ _ h; exact h) (Or.inl ⟨by rfl, ?y6⟩) hHeld ?_
    case y6 => (intro w hSw; (try dsimp only at hSw); go_simp; try (with_reducible rfl))
    try simp only [Act.put, List.setIfInBounds_toArray, List.set_cons_zero, List.set_cons_succ]
    refine wpAnyH_take (i := 6) (v := ?v7) (by simp only [List.getElem?_toArray, List.getElem?_cons_succ, List.getElem?_cons_zero]; exact rfl) (by kernel_rfl) (by kernel_rfl) (by kernel_rfl) (by intro _ _ _ h; exact h) (Or.inl ⟨by rfl, ?y7⟩) hHeld ?_
    case y7 => (intro w hSw; (try dsimp only at hSw); go_simp; try (with_reducible rfl))
    try simp only [Act.put, List.setIfInBounds_toArray, List.set_cons_zero, List.set_cons_succ]
    refine wpAnyH_ready (rs := [7]) (by kernel_rfl) (by simp) ?_
    refine AllReadyH.cons (by simp only [List.getElem?_toArray, List.getElem?_cons_succ, List.getElem?_cons_zero]; exact rfl) (fun K hK => ?_) AllReadyH.nil
    go_simp
    (with_reducible refine (l1Edge_any (hv.below hqc (Nat.le_refl _)) (u := y) (x := (x : Int)) hxl).mono ?_)
    rintro e wn ⟨rfl, hbn⟩
    rw [HB.out]
    have hqc := hqc.trans (hbn.mono hqc.size)
    have c3 := (hbn.cell (cell_lt c3)).trans c3
    have c4 := (hbn.cell (cell_lt c4)).trans c4
    obtain ⟨wd, rfl⟩ : ∃ wx : World, wx = wn := ⟨_, rfl⟩
    try dsimp only
    refine hK.out _ _ ?h9 (fun hHeld => ?_)
    case h9 => first | exact ⟨‹_›, ‹_›⟩ | (simp [*, go_sem])
    clear hK K
    try simp only [Act.put, List.setIfInBounds_toArray, List.set_cons_zero, List.set_cons_succ]
    refine wpAnyH_ready (rs := [8]) (by kernel_rfl) (by simp) ?_
    refine AllReadyH.cons (by simp only [List.getElem?_toArray, List.getElem?_cons_succ, List.getElem?_cons_zero]; exact rfl) (fun K hK => ?_) AllReadyH.nil
    go_simp
    (with_reducible refine (l1Flag_any _ _).mono ?_)
    rintro e wn ⟨rfl, rfl⟩
    try dsimp only
    refine hK.out _ _ ?h11 (fun hHeld => ?_)
    case h11 => first | exact ⟨‹_›, ‹_›⟩ | (simp [*, go_sem])
    clear hK K
    try simp only [Act.put, List.setIfInBounds_toArray, List.set_cons_zero, List.set_cons_succ]
    refine wpAnyH_take (i := 9) (v := ?v12) (by simp only [List.getElem?_toArray, List.getElem?_cons_succ, List.getElem?_cons_zero]; exact rfl) (by kernel_rfl) (by kernel_rfl) (by kernel_rfl) (by intro _ _ _ h; exact h) (Or.inl ⟨by rfl, ?y12⟩) hHeld ?_
    case y12 => (intro w hSw; (try dsimp only at hSw); go_simp; try (with_reducible rfl))
    try simp only [Act.put, List.setIfInBounds_toArray, List.set_cons_zero, List.set_cons_succ]
    refine wpAnyH_take (i := 10) (v := ?v13) (by simp only [List.getElem?_toArray, List.getElem?_cons_succ, List.getElem?_cons_zero]; exact rfl) (by kernel_rfl) (by kernel_rfl) (by kernel_rfl) (by intro _ _ _ h; exact h) (Or.inl ⟨by rfl, ?y13⟩) hHeld ?_
    case y13 => (intro w hSw; (try dsimp only at hSw); go_simp; try (with_reducible rfl))
    try simp only [Act.put, List.setIfInBounds_toArray, List.set_cons_zero, List.set_cons_succ]
    refine wpAnyH_done (by kernel_rfl) ?_ _
    cases b with
    | true =>
      go_wp2
      go_roundw
      case rel => exact ⟨k + 1, by omega, by go_num, by rw [HST.out, if_pos rfl]; simp [HW1.out], hqc, c3⟩
      case measure => simp [intOf]; omega
    | false =>
      go_wp2
      go_roundw
      case rel => exact ⟨k + 1, by omega, by go_num, by rw [HST.out, if_neg (by simp)]; simp [HW0.out], hqc, c3⟩
      case measure => simp [intOf]; omega
/-- What was met of a path's continuations. -/
def MetC (H : List Nat) (n : Nat) (p Y : List Nat) (k : Nat) (q : List Nat) : Prop := ∃ (j : Nat) (h : j < Y.length), j < k ∧ StepC H n p Y[j] q
theorem metC_next {H : List Nat} {n k : Nat} {p Y best b1 r : List Nat} (hk : k < Y.length) (h : SrchR H n (MetC H n p Y k) best b1) (h2 : SrchR H n (StepC H n p Y[k]) b1 r) : SrchR H n (MetC H n p Y (k + 1)) best r :=
  (h.trans h2).sub fun q ⟨j, hj, hjk, hq⟩ => by
    by_cases e : j = k
    · subst e; exact .inr hq
    · exact .inl ⟨j, hj, by omega, hq⟩
theorem metC_all {H : List Nat} {n : Nat} {p best r : List Nat} (hp : 0 < p.length) (hm : (H.getD (lastN p) 0) < 4294967296) (h : SrchR H n (MetC H n p (bitsN (H.getD (lastN p) 0)) (bitsN (H.getD (lastN p) 0)).length) best r) : SrchR H n (CandC H n p) best r :=
  h.sub fun q hq => by
    obtain ⟨h1, h2, -⟩ := cand_step hp hq
    obtain ⟨j, hj, e⟩ := List.getElem_of_mem ((mem_bitsN hm).2 h2)
    exact ⟨j, hj, hj, by rw [e]; exact h1⟩
def SrchL (H : List Nat) (n : Nat) (p best : List Nat) (w : World) (e : Ending) (w' : World) : Prop :=
  ∃ x r, e = .returned x ∧ SlI (fun _ => True) w' .i64 x (natsI r) ∧ SrchR H n (CandC H n p) best r ∧ Below w.heap.size w w'
set_option maxRecDepth 100000 in
set_option maxHeartbeats 16000000 in
theorem l8Search_any {S : Nat → Prop} {gv : Value} {g : List (List Int)} (hg : GOk g) :
    ∀ (d : Nat) (p best : List Nat) (u bv : Value) (w : World), g.length < p.length + d → SrchP (netsL g) g.length p → (best = [] ∨ ChordN (netsL g) g.length best) → SlR S w gv g → SlI (fun _ => True) w .i64 u (natsI p) → SlI (fun _ => True) w .i64 bv (natsI best) →
      Calls Tryd.prog 68 #[.agg #[gv], u, bv] w (SrchL (netsL g) g.length p best w) := by
  intro d
  induction d with
  | zero => intro p best u bv w hd hp; have := loop_len hp.path; omega
  | succ d ih =>
    intro p best u bv w hd hp hbst hv hu hbv
    have hb0 : Below w.heap.size w (w.alloc (.cells #[gv] 29)) := (Below.refl _ _).alloc (Nat.le_refl _) _
    obtain ⟨ga, gc, rfl⟩ := hv.slice
    have c0 : (w.alloc (.cells #[.slice ga g.length gc] 29)).cell? ⟨w.heap.size, 0, none⟩ = some (.slice ga g.length gc) := by simp [go_sem]
    have h16 := hg.hi
    have hpl := loop_len hp.path
    have hp0 := hp.path.ne
    have hbl : best.length ≤ 16 := by
      rcases hbst with h | h
      · rw [h]; simp
      · have := loop_len h.loop.path; omega
    obtain ⟨ua, uc, rfl⟩ := hu.slice
    obtain ⟨ba, bc, rfl⟩ := hbv.slice
    simp only [natsI_len] at hu hbv ⊢
    by_cases hcut : 0 < best.length ∧ best.length ≤ p.length
    case pos =>
      have hR := srch_bound (p := p) (hbst.resolve_left (fun e => by rw [e] at hcut; simp at hcut)) hcut.2
      have HR := Lib.hid hR
      have hc1 : decide ((0 : Int) < (best.length : Int)) = true := decide_eq_true (by omega)
      have hc2 : decide (0 < best.length) = true := decide_eq_true (by omega)
      have hc3 : decide ((best.length : Int) ≤ (p.length : Int)) = true := decide_eq_true (by omega)
      have hc4 : decide (best.length ≤ p.length) = true := decide_eq_true (by omega)
      clear hR hcut hbst hp
      go_enter Tryd.func68, Tryd.ntmps68
      go_wp2
      go_ret
      exact ⟨_, best, rfl, hbv.below hb0 (Nat.le_refl _), HR.out, hb0⟩
    have HBS := Lib.hid (show best = [] ∨ best.length > p.length from by
      by_cases e : 0 < best.length
      · exact .inr (by omega)
      · exact .inl (List.eq_nil_of_length_eq_zero (by omega)))
    have HP := Lib.hid hp
    have HBST := Lib.hid hbst
    have HG := Lib.hid hg
    have HD := Lib.hid hd
    have hW := WideI.of hg
    have hlen := netsL_len g
    have hlast : lastN p < g.length := hp.path.lt _ (getD_mem (by omega))
    have hml0 : (netsL g).getD (lastN p) 0 < 2 ^ g.length := getD_ltN hW.lt _
    have hml := Nat.lt_trans hml0 (pow16_lt h16)
    have HALL := Lib.hid (fun r => metC_all (n := g.length) (best := best) (r := r) hp0 hml)
    have hrow := row_bitsC hg hlast
    have HIN := Lib.hid (fun y (hy : y ∈ bitsN ((netsL g).getD (lastN p) 0)) => (⟨bit_lt_of hml0 ((mem_bitsN hml).1 hy), (mem_bitsN hml).1 hy⟩ : y < g.length ∧ ((netsL g).getD (lastN p) 0).testBit y = true))
    have HR0 := Lib.hid (show SrchR (netsL g) g.length (MetC (netsL g) g.length p (bitsN ((netsL g).getD (lastN p) 0)) 0) best best from SrchR.refl hbst (fun q ⟨j, _, h, _⟩ => by omega))
    have hHs := (nets_symC hg)
    have HS := Lib.hid hHs
    obtain ⟨ub, uo, ucap, hue, huc⟩ := hu.at_
    have hue := hue (by rw [natsI_len]; exact hp0)
    rw [natsI_len] at hue
    simp only [Value.slice.injEq] at hue
    obtain ⟨rfl, -, rfl⟩ := hue
    have e1 : w.cell? ⟨ub, uo + (p.length - 1), none⟩ = some (.int .i64 ((lastN p : Nat) : Int)) := by
      rw [huc (p.length - 1) (by rw [natsI_len]; omega), natsI_get]; simp [lastN, show p.length - 1 < p.length by omega]
    have e2 : w.cell? ⟨ub, uo, none⟩ = some (.int .i64 ((p.getD 0 0 : Nat) : Int)) := by
      have := huc 0 (by rw [natsI_len]; omega)
      rw [natsI_get] at this
      simpa [hp0] using this
    obtain ⟨ga', gb, goff, gcap, f, hge, hgl, hga, hgc⟩ := hv
    simp only [Value.slice.injEq] at hge
    obtain ⟨rfl, -, rfl⟩ := hge
    obtain ⟨rfl, -⟩ := hga (by omega)
    obtain ⟨k1, r1⟩ := hgc (lastN p) hlast
    have hv : SlR S w (.slice (some ⟨gb, goff, none⟩) g.length gc) g := ⟨_, gb, goff, gc, f, rfl, hgl, hga, hgc⟩
    obtain ⟨ra, rc, er⟩ := r1.slice
    rw [hrow] at r1 er
    rw [natsI_len] at er
    rw [er] at k1 r1
    obtain ⟨rb, ro, rcap, hre, hrcell⟩ := r1.at_
    have hrcell_ : ∀ k (hk : k < (bitsN ((netsL g).getD (lastN p) 0)).length), w.cell? ⟨rb, ro + k, none⟩ = some (.int .i64 ((bitsN ((netsL g).getD (lastN p) 0))[k] : Int)) := fun k hk => by rw [hrcell k (by rw [natsI_len]; exact hk), natsI_get]
    have HRC := Lib.hid hrcell_
    have hw1 : IntKind.i64.wrap ((p.length : Int) - 1) = (p.length : Int) - 1 := IntWalk.i64_in _ (by omega)
    have hw2 : ((p.length : Int) - 1).toNat = p.length - 1 := by omega
    have hw3 : (0 : Int) ≤ (p.length : Int) - 1 := by omega
    have hw4 : (p.length : Int) - 1 < p.length := by omega
    have hlg : (lastN p : Int) < g.length := by omega
    have hYl := bitsN_len ((netsL g).getD (lastN p) 0)
    generalize hz : lastN p = z at *
    have HZ := Lib.hid hz
    generalize hY : bitsN ((netsL g).getD z 0) = Y at *
    have HYY := Lib.hid hY
    have hpn := hp.path.lt
    have HPN := Lib.hid hpn
    clear hY hz hp hbst hcut hg hd hW hml hml0 hrow hHs huc r1 er hrcell hrcell_ hgc hgl hga hpn
    have e1b := (hb0.cell (cell_lt e1)).trans e1
    clear e1
    by_cases hbe : best = []
    case pos =>
      have hcA : decide ((0 : Int) < (best.length : Int)) = false := by rw [hbe]; rfl
      have hcB : decide (0 < best.length) = false := by rw [hbe]; rfl
      clear hbe
      go_enter Tryd.func68, Tryd.ntmps68
      go_wp2
      go_loopw [8, 2] (fun iv bv wr => ∃ (k : Nat) (b1 : List Nat), k ≤ Y.length ∧ iv = .int .i64 k ∧ SlI (fun _ => True) wr .i64 bv (natsI b1) ∧ RowKit.Hid (SrchR (netsL g) g.length (MetC (netsL g) g.length p Y k) best b1) ∧ Below w.heap.size w wr ∧ wr.cell? ⟨w.heap.size, 0, none⟩ = some (.slice (some ⟨gb, goff, none⟩) g.length gc)) (fun iv _ _ => Y.length - (intOf iv).toNat)
      case atStart => exact ⟨0, best, Nat.zero_le _, rfl, hbv.below hb0 (Nat.le_refl _), HR0, hb0, c0⟩
      case round =>
        clear HR0 hb0 c0 hbv hcA hcB
        obtain ⟨k, b1, hk, rfl, hb1, HR, hq, cg⟩ := hrel
        obtain ⟨wi, rfl⟩ : ∃ wi : World, wi = wr := ⟨_, rfl⟩
        obtain ⟨ba1, bc1, rfl⟩ := hb1.slice
        simp only [natsI_len] at hb1 ⊢
        have kr := (hq.cell (cell_lt k1)).trans k1
        by_cases hlt : k < Y.length
        case neg =>
          obtain rfl : k = Y.length := by omega
          have HF := Lib.hid (HALL.out b1 HR.out)
          go_wp2
          go_ret
          exact ⟨_, b1, rfl, hb1, HF.out, hq⟩
        have hre2 := hre (by rw [natsI_len]; omega)
        rw [natsI_len] at hre2
        simp only [Value.slice.injEq] at hre2
        obtain ⟨rfl, -, rfl⟩ := hre2
        obtain ⟨hyn, hyb⟩ := HIN.out _ (List.getElem_mem hlt)
        have hrk := HRC.out k hlt
        have d1 := (hq.cell (cell_lt hrk)).trans hrk
        have HNXT := Lib.hid (fun r h2 => metC_next (r := r) hlt HR.out h2)
        have HB1 := Lib.hid HR.out.ok
        have hb1l : b1.length ≤ 16 := by
          rcases HB1.out with h | h
          · rw [h]; simp
          · have := loop_len h.loop.path; omega
        clear hrk HR HALL
        generalize Y[k] = y at *
        have e2i := (hq.cell (cell_lt e2)).trans e2
        have hui := hu.below hq (Nat.le_refl _)
        go_wp2_with fail
        refine (l8Near_any (x := y) HG.out (hv.below hq (Nat.le_refl _)) hui HPN.out (by omega)).mono ?_
        rintro e w5 ⟨rfl, hb5⟩
        have hq5 := hq.trans (hb5.mono hq.size)
        have cg5 := (hb5.cell (cell_lt cg)).trans cg
        have e25 := (hb5.cell (cell_lt e2i)).trans e2i
        have hb15 := hb1.below hb5 (Nat.le_refl _)
        have hu5 := hui.below hb5 (Nat.le_refl _)
        have hnle := nearN_le (netsL g) p y
        clear hq cg hb1 hb5 d1 kr e2i hui
        by_cases h0 : y ≤ p.getD 0 0
        · have HX := Lib.hid (HNXT.out b1 (SrchR.refl HB1.out (step_none hp0 (.inl h0))))
          generalize p.getD 0 0 = f0 at *
          have hd1 : decide ((y : Int) ≤ (f0 : Int)) = true := decide_eq_true (by omega)
          have hd2 : decide (y ≤ f0) = true := decide_eq_true h0
          clear HNXT
          go_wp2
          go_roundw
          case rel => exact ⟨k + 1, b1, by omega, by go_num, hb15, HX, hq5, cg5⟩
          case measure => simp [intOf]; omega
        have hd1 : decide ((y : Int) ≤ ((p.getD 0 0 : Nat) : Int)) = false := decide_eq_false (by omega)
        have hd2 : decide (y ≤ p.getD 0 0) = false := decide_eq_false h0
        have hhs := l1Has_any _ (natsI p) (y : Int) w5 hu5
        rw [decide_natsI] at hhs
        by_cases hyp : y ∈ p
        · have HX := Lib.hid (HNXT.out b1 (SrchR.refl HB1.out (step_none hp0 (.inr hyp))))
          rw [decide_eq_true hyp] at hhs
          generalize p.getD 0 0 = f0 at *
          clear HNXT hyp h0
          go_wp2_with (go_at_call 104; refine hhs.mono ?_; rintro e w' ⟨rfl, rfl⟩)
          go_roundw
          case rel => exact ⟨k + 1, b1, by omega, by go_num, hb15, HX, hq5, cg5⟩
          case measure => simp [intOf]; omega
        rw [decide_eq_false hyp] at hhs
        have HYP := Lib.hid hyp
        have HP0 := Lib.hid (show p.getD 0 0 < y by omega)
        have HYB := Lib.hid hyb
        clear hyp h0 hyb
        by_cases hn1 : nearN (netsL g) p y = 1
        · obtain ⟨hsp, hsc⟩ := step_one HS.out HP.out hyn (by rw [HZ.out]; exact HYB.out) HP0.out HYP.out hn1
          have HSP := Lib.hid hsp
          have HSC := Lib.hid hsc
          rw [hn1]
          clear hn1 hsp hsc hnle
          generalize p.getD 0 0 = f0 at *
          go_wp2_with (go_at_call 104; refine hhs.mono ?_; rintro e w' ⟨rfl, rfl⟩)
          clear hhs
          have hbB := hb15.lowS
          have hB5 : w.heap.size + 1 ≤ w5.heap.size := by have := cell_lt cg5; simp at this; omega
          generalize hBe : w5.heap.size = B5 at hbB hB5
          have HBE := Lib.hid hBe
          clear hBe
          apply meet5 (H := fun (_ : Value) (_ : Nat) (_ : Value) (r : Value) (w1 : World) => ∃ rr, SlI (fun _ => True) w1 .i64 r (natsI rr) ∧ SrchR (netsL g) g.length (CandC (netsL g) g.length (p ++ [y])) b1 rr ∧ Below w.heap.size w w1 ∧ w1.cell? ⟨w.heap.size, 0, none⟩ = some (.slice (some ⟨gb, goff, none⟩) g.length gc))
          case orders =>
            intro rest
            refine wp_region_held_drew (S := (fun w' => w'.cell? ⟨w.heap.size, 0, none⟩ = some (.slice (some ⟨gb, goff, none⟩) g.length gc))) (by kernel_rfl) ?_ (fun hHeld => ?_)
            · first | exact ‹_› | (simp [*, go_sem])
            have hqc := hq5.drew
            have hBd : Below w5.heap.size w5 w5.drew := (Below.refl _ _).drew
            have hbc := hbB.below hBd (Nat.le_refl _)
            have huc := hu5.below hBd (Nat.le_refl _)
            have hsz5 : B5 ≤ w5.drew.heap.size := by (have := HBE.out; show B5 ≤ w5.heap.size; omega)
            generalize w5.drew = wd at hqc hbc huc hHeld hsz5 ⊢
            have c4 := hHeld
            have hHeld : (fun w' => World.cell? w' ⟨w.heap.size, 0, none⟩ = some (.slice (some ⟨gb, goff, none⟩) g.length gc)) wd := c4
            refine wpAnyH_take (i := 0) (v := ?v14) (by simp only [List.getElem?_toArray, List.getElem?_cons_zero]; exact rfl) (by kernel_rfl) (by kernel_rfl) (by kernel_rfl) (by intro _ _ _ h; exact h) (Or.inl ⟨by rfl, ?y14⟩) hHeld ?_
            case y14 => (intro w hSw; (try dsimp only at hSw); go_simp; try (with_reducible rfl))
            try simp only [Act.put, List.setIfInBounds_toArray, List.set_cons_zero, List.set_cons_succ]
            refine wpAnyH_take (i := 1) (v := ?v15) (by simp only [List.getElem?_toArray, List.getElem?_cons_succ, List.getElem?_cons_zero]; exact rfl) (by kernel_rfl) (by kernel_rfl) (by kernel_rfl) (by intro _ _ _ h; exact h) (Or.inl ⟨by rfl, ?y15⟩) hHeld ?_
            case y15 => (intro w hSw; (try dsimp only at hSw); go_simp; try (with_reducible rfl))
            try simp only [Act.put, List.setIfInBounds_toArray, List.set_cons_zero, List.set_cons_succ]
            refine wpAnyH_take (i := 3) (v := ?v16) (by simp only [List.getElem?_toArray, List.getElem?_cons_succ, List.getElem?_cons_zero]; exact rfl) (by kernel_rfl) (by kernel_rfl) (by kernel_rfl) (by intro _ _ _ h; exact h) (Or.inl ⟨by rfl, ?y16⟩) hHeld ?_
            case y16 => (intro w hSw; (try dsimp only at hSw); go_simp; try (with_reducible rfl))
            try simp only [Act.put, List.setIfInBounds_toArray, List.set_cons_zero, List.set_cons_succ]
            refine wpAnyH_take (i := 6) (v := ?v17) (by simp only [List.getElem?_toArray, List.getElem?_cons_succ, List.getElem?_cons_zero]; exact rfl) (by kernel_rfl) (by kernel_rfl) (by kernel_rfl) (by intro _ _ _ h; exact h) (Or.inl ⟨by rfl, ?y17⟩) hHeld ?_
            case y17 => (intro w hSw; (try dsimp only at hSw); go_simp; try (with_reducible rfl))
            try simp only [Act.put, List.setIfInBounds_toArray, List.set_cons_zero, List.set_cons_succ]
            refine wpAnyH_ready (rs := [2, 4]) (by kernel_rfl) (by simp) ?_
            refine (AllReadyH.cons (by simp only [List.getElem?_toArray, List.getElem?_cons_succ, List.getElem?_cons_zero]; exact rfl) (fun K hK => ?b18_2) (AllReadyH.cons (by simp only [List.getElem?_toArray, List.getElem?_cons_succ, List.getElem?_cons_zero]; exact rfl) (fun K hK => ?b18_4) AllReadyH.nil))
            case b18_2 =>
              go_simp
              (with_reducible refine (l1Copy_any _ _ _ huc (by rw [natsI_len]; omega)).mono ?_)
              rintro e wn ⟨ux, rfl, hux, hbn⟩
              rw [natsI_len] at hux
              have hux := hux.weak (show B5 ≤ _ by omega)
              have hsz5 : B5 ≤ wn.heap.size := by have := hbn.size; omega
              try (have clit := (hbn.cell (cell_lt clit)).trans clit)
              have hqc := hqc.trans (hbn.mono hqc.size)
              have hbc := hbc.below hbn (Nat.le_refl _)
              have huc := huc.below hbn (Nat.le_refl _)
              have c4 := (hbn.cell (cell_lt c4)).trans c4
              obtain ⟨wd, rfl⟩ : ∃ wx : World, wx = wn := ⟨_, rfl⟩
              try dsimp only
              refine hK.out _ _ ?h19 (fun hHeld => ?_)
              case h19 => first | exact ‹_› | (simp [*, go_sem])
              clear hK K
              try simp only [Act.put, List.setIfInBounds_toArray, List.set_cons_zero, List.set_cons_succ]
              refine wpAnyH_ready (rs := [4]) (by kernel_rfl) (by simp) ?_
              refine AllReadyH.cons (by simp only [List.getElem?_toArray, List.getElem?_cons_succ, List.getElem?_cons_zero]; exact rfl) (fun K hK => ?_) AllReadyH.nil
              go_simp
              have hbn : Below wd.heap.size wd (wd.alloc (.cells #[.int .i64 (y : Int)] 2)) := (Below.refl _ _).alloc (Nat.le_refl _) _
              have clit : (wd.alloc (.cells #[.int .i64 (y : Int)] 2)).cell? ⟨wd.heap.size, 0, none⟩ = some (.int .i64 (y : Int)) := by simp [go_sem]
              have hsz5 : B5 ≤ (wd.alloc (.cells #[.int .i64 (y : Int)] 2)).heap.size := by simp; omega
              generalize (wd.alloc (.cells #[.int .i64 (y : Int)] 2)) = wn at hbn clit hsz5 ⊢
              generalize wd.heap.size = nb at clit ⊢
              try (have hux := hux.below hbn (Nat.le_refl _))
              have hqc := hqc.trans (hbn.mono hqc.size)
              have hbc := hbc.below hbn (Nat.le_refl _)
              have huc := huc.below hbn (Nat.le_refl _)
              have c4 := (hbn.cell (cell_lt c4)).trans c4
              obtain ⟨wd, rfl⟩ : ∃ wx : World, wx = wn := ⟨_, rfl⟩
              try dsimp only
              refine hK.out _ _ ?h21 (fun hHeld => ?_)
              case h21 => first | exact ‹_› | (simp [*, go_sem])
              clear hK K
              try simp only [Act.put, List.setIfInBounds_toArray, List.set_cons_zero, List.set_cons_succ]
              refine wpAnyH_ready (rs := [5]) (by kernel_rfl) (by simp) ?_
              refine AllReadyH.cons (by simp only [List.getElem?_toArray, List.getElem?_cons_succ, List.getElem?_cons_zero]; exact rfl) (fun K hK => ?_) AllReadyH.nil
              rw [if_pos (by rfl)]
              refine opWp_append elI64 _ _ rfl hux rfl rfl (news := [.int .i64 (y : Int)]) rfl (by intro j u hj; match j, hj with | 0, hj => (simp at hj; subst hj; simpa [Addr.add] using clit)) (by intro u hu; simp at hu; subst hu; rfl) (by omega) hsz5 ?_
              intro v' wn hown2 hgr hmv
              have hkept := KeptBut.of_grown hgr
              have c4 := (cell_heap (hkept.2.2.2.2 _ (cell_lt c4) (fun e => by have := hux.ge _ e.symm; (simp at this) <;> omega))).trans c4
              have hbc := hbc.keepK hkept hux hsz5
              have hqc := hkept.below hqc hqc.size (fun k hk => by have := hux.ge k hk; omega)
              obtain ⟨wd, rfl⟩ : ∃ wx : World, wx = wn := ⟨_, rfl⟩
              try dsimp only
              refine hK.out _ _ ?h23 (fun hHeld => ?_)
              case h23 => first | exact ‹_› | (simp [*, go_sem])
              clear hK K
              try simp only [Act.put, List.setIfInBounds_toArray, List.set_cons_zero, List.set_cons_succ]
              refine wpAnyH_ready (rs := [7]) (by kernel_rfl) (by simp) ?_
              refine AllReadyH.cons (by simp only [List.getElem?_toArray, List.getElem?_cons_succ, List.getElem?_cons_zero]; exact rfl) (fun K hK => ?_) AllReadyH.nil
              go_simp
              have huq : SlI (fun _ => True) wd .i64 v' (natsI (p ++ [y])) := by (rw [natsI_append]; exact (Own.ints (xs := natsI p ++ [(y : Int)]) (by simpa using hown2) (by omega)).weak (fun _ _ => trivial))
              (with_reducible refine (ih (p ++ [y]) b1 _ _ _ (by have := HD.out; simp; omega) HSP.out HB1.out (hv.below hqc (Nat.le_refl _)) huq (hbc.weak (fun _ _ => trivial))).mono ?_)
              rintro e wn ⟨r, rr, rfl, hr, hsr, hbn⟩
              have hqc := hqc.trans (hbn.mono hqc.size)
              have c4 := (hbn.cell (cell_lt c4)).trans c4
              try dsimp only
              refine hK.out _ _ ?h25 (fun hHeld => ?_)
              case h25 => first | exact ‹_› | (simp [*, go_sem])
              clear hK K
              try simp only [Act.put, List.setIfInBounds_toArray, List.set_cons_zero, List.set_cons_succ]
              refine wpAnyH_take (i := 8) (v := ?v26) (by simp only [List.getElem?_toArray, List.getElem?_cons_succ, List.getElem?_cons_zero]; exact rfl) (by kernel_rfl) (by kernel_rfl) (by kernel_rfl) (by intro _ _ _ h; exact h) (Or.inl ⟨by rfl, ?y26⟩) hHeld ?_
              case y26 => (intro w hSw; (try dsimp only at hSw); go_simp; try (with_reducible rfl))
              try simp only [Act.put, List.setIfInBounds_toArray, List.set_cons_zero, List.set_cons_succ]
              refine wpAnyH_done (by kernel_rfl) ?_ _
              exact rest ux nb v' r wn ⟨rr, hr, hsr, hqc, c4⟩
            case b18_4 =>
              go_simp
              have hbn : Below wd.heap.size wd (wd.alloc (.cells #[.int .i64 (y : Int)] 2)) := (Below.refl _ _).alloc (Nat.le_refl _) _
              have clit : (wd.alloc (.cells #[.int .i64 (y : Int)] 2)).cell? ⟨wd.heap.size, 0, none⟩ = some (.int .i64 (y : Int)) := by simp [go_sem]
              have hsz5 : B5 ≤ (wd.alloc (.cells #[.int .i64 (y : Int)] 2)).heap.size := by simp; omega
              generalize (wd.alloc (.cells #[.int .i64 (y : Int)] 2)) = wn at hbn clit hsz5 ⊢
              generalize wd.heap.size = nb at clit ⊢
              try (have hux := hux.below hbn (Nat.le_refl _))
              have hqc := hqc.trans (hbn.mono hqc.size)
              have hbc := hbc.below hbn (Nat.le_refl _)
              have huc := huc.below hbn (Nat.le_refl _)
              have c4 := (hbn.cell (cell_lt c4)).trans c4
              obtain ⟨wd, rfl⟩ : ∃ wx : World, wx = wn := ⟨_, rfl⟩
              try dsimp only
              refine hK.out _ _ ?h27 (fun hHeld => ?_)
              case h27 => first | exact ‹_› | (simp [*, go_sem])
              clear hK K
              try simp only [Act.put, List.setIfInBounds_toArray, List.set_cons_zero, List.set_cons_succ]
              refine wpAnyH_ready (rs := [2]) (by kernel_rfl) (by simp) ?_
              refine AllReadyH.cons (by simp only [List.getElem?_toArray, List.getElem?_cons_succ, List.getElem?_cons_zero]; exact rfl) (fun K hK => ?_) AllReadyH.nil
              go_simp
              (with_reducible refine (l1Copy_any _ _ _ huc (by rw [natsI_len]; omega)).mono ?_)
              rintro e wn ⟨ux, rfl, hux, hbn⟩
              rw [natsI_len] at hux
              have hux := hux.weak (show B5 ≤ _ by omega)
              have hsz5 : B5 ≤ wn.heap.size := by have := hbn.size; omega
              try (have clit := (hbn.cell (cell_lt clit)).trans clit)
              have hqc := hqc.trans (hbn.mono hqc.size)
              have hbc := hbc.below hbn (Nat.le_refl _)
              have huc := huc.below hbn (Nat.le_refl _)
              have c4 := (hbn.cell (cell_lt c4)).trans c4
              obtain ⟨wd, rfl⟩ : ∃ wx : World, wx = wn := ⟨_, rfl⟩
              try dsimp only
              refine hK.out _ _ ?h29 (fun hHeld => ?_)
              case h29 => first | exact ‹_› | (simp [*, go_sem])
              clear hK K
              try simp only [Act.put, List.setIfInBounds_toArray, List.set_cons_zero, List.set_cons_succ]
              refine wpAnyH_ready (rs := [5]) (by kernel_rfl) (by simp) ?_
              refine AllReadyH.cons (by simp only [List.getElem?_toArray, List.getElem?_cons_succ, List.getElem?_cons_zero]; exact rfl) (fun K hK => ?_) AllReadyH.nil
              rw [if_pos (by rfl)]
              refine opWp_append elI64 _ _ rfl hux rfl rfl (news := [.int .i64 (y : Int)]) rfl (by intro j u hj; match j, hj with | 0, hj => (simp at hj; subst hj; simpa [Addr.add] using clit)) (by intro u hu; simp at hu; subst hu; rfl) (by omega) hsz5 ?_
              intro v' wn hown2 hgr hmv
              have hkept := KeptBut.of_grown hgr
              have c4 := (cell_heap (hkept.2.2.2.2 _ (cell_lt c4) (fun e => by have := hux.ge _ e.symm; (simp at this) <;> omega))).trans c4
              have hbc := hbc.keepK hkept hux hsz5
              have hqc := hkept.below hqc hqc.size (fun k hk => by have := hux.ge k hk; omega)
              obtain ⟨wd, rfl⟩ : ∃ wx : World, wx = wn := ⟨_, rfl⟩
              try dsimp only
              refine hK.out _ _ ?h31 (fun hHeld => ?_)
              case h31 => first | exact ‹_› | (simp [*, go_sem])
              clear hK K
              try simp only [Act.put, List.setIfInBounds_toArray, List.set_cons_zero, List.set_cons_succ]
              refine wpAnyH_ready (rs := [7]) (by kernel_rfl) (by simp) ?_
              refine AllReadyH.cons (by simp only [List.getElem?_toArray, List.getElem?_cons_succ, List.getElem?_cons_zero]; exact rfl) (fun K hK => ?_) AllReadyH.nil
              go_simp
              have huq : SlI (fun _ => True) wd .i64 v' (natsI (p ++ [y])) := by (rw [natsI_append]; exact (Own.ints (xs := natsI p ++ [(y : Int)]) (by simpa using hown2) (by omega)).weak (fun _ _ => trivial))
              (with_reducible refine (ih (p ++ [y]) b1 _ _ _ (by have := HD.out; simp; omega) HSP.out HB1.out (hv.below hqc (Nat.le_refl _)) huq (hbc.weak (fun _ _ => trivial))).mono ?_)
              rintro e wn ⟨r, rr, rfl, hr, hsr, hbn⟩
              have hqc := hqc.trans (hbn.mono hqc.size)
              have c4 := (hbn.cell (cell_lt c4)).trans c4
              try dsimp only
              refine hK.out _ _ ?h33 (fun hHeld => ?_)
              case h33 => first | exact ‹_› | (simp [*, go_sem])
              clear hK K
              try simp only [Act.put, List.setIfInBounds_toArray, List.set_cons_zero, List.set_cons_succ]
              refine wpAnyH_take (i := 8) (v := ?v34) (by simp only [List.getElem?_toArray, List.getElem?_cons_succ, List.getElem?_cons_zero]; exact rfl) (by kernel_rfl) (by kernel_rfl) (by kernel_rfl) (by intro _ _ _ h; exact h) (Or.inl ⟨by rfl, ?y34⟩) hHeld ?_
              case y34 => (intro w hSw; (try dsimp only at hSw); go_simp; try (with_reducible rfl))
              try simp only [Act.put, List.setIfInBounds_toArray, List.set_cons_zero, List.set_cons_succ]
              refine wpAnyH_done (by kernel_rfl) ?_ _
              exact rest ux nb v' r wn ⟨rr, hr, hsr, hqc, c4⟩
          case rest =>
            intro ux nb v' r wn ⟨rr, hr, hsr, hqc, c4⟩
            obtain ⟨ra', rc', rfl⟩ := hr.slice
            have HX := Lib.hid (HNXT.out rr (hsr.sub fun q hq => HSC.out q hq))
            clear hsr
            go_wp2
            go_roundw
            case rel => exact ⟨k + 1, rr, by omega, by go_num, by simpa [natsI_len] using hr, HX, hqc, c4⟩
            case measure => simp [intOf]; omega
        have hn1b : ((nearN (netsL g) p y : Int) == 1) = false := by rw [beq_eq_false_iff_ne]; omega
        have hn1c : (nearN (netsL g) p y == 1) = false := by rw [beq_eq_false_iff_ne]; exact hn1
        have hf0 : p.getD 0 0 < g.length := HPN.out _ (getD_mem hp0)
        have hEB := edge_bit HG.out hf0 y
        by_cases hcond : nearN (netsL g) p y = 2 ∧ 3 ≤ p.length ∧ ((netsL g).getD (p.getD 0 0) 0).testBit y = true
        · obtain ⟨hn2, hp3, hf⟩ := hcond
          obtain ⟨hch, hct⟩ := step_two HS.out HP.out hyn (by rw [HZ.out]; exact HYB.out) HP0.out HYP.out hn2 hp3 hf
          have HX := Lib.hid (HNXT.out _ (srch_loop HB1.out hch hct))
          rw [hf] at hEB
          have HEB := Lib.hid hEB
          have hb2a : ((nearN (netsL g) p y : Int) == 2) = true := by rw [beq_iff_eq]; omega
          have hb2b : (nearN (netsL g) p y == 2) = true := by rw [beq_iff_eq]; exact hn2
          have hb3 : decide ((3 : Int) ≤ (p.length : Int)) = true := decide_eq_true (by omega)
          have hb3b : decide (3 ≤ p.length) = true := decide_eq_true hp3
          generalize p.getD 0 0 = f0 at *
          generalize nearN (netsL g) p y = nn at *
          clear hn1 hn2 hf hEB hch hct HNXT hnle
          go_wp2_with (go_at_call 104; refine hhs.mono ?_; rintro e w' ⟨rfl, rfl⟩)
          clear hhs
          refine wp_region_held_drew (S := (fun w' => w'.cell? ⟨w.heap.size, 0, none⟩ = some (.slice (some ⟨gb, goff, none⟩) g.length gc) ∧ w'.cell? ⟨ub, uo, none⟩ = some (.int .i64 (f0 : Int)))) (by kernel_rfl) ?_ (fun hHeld => ?_)
          · first | exact ⟨‹_›, ‹_›⟩ | (simp [*, go_sem])
          have hqc := hq5.drew
          have hBd : Below w5.heap.size w5 w5.drew := (Below.refl _ _).drew
          have hbc := hb15.below hBd (Nat.le_refl _)
          have huc := hu5.below hBd (Nat.le_refl _)
          generalize w5.drew = wd at hqc hbc huc hHeld ⊢
          obtain ⟨c4, e4⟩ := hHeld
          have hHeld : (fun w' => World.cell? w' ⟨w.heap.size, 0, none⟩ = some (.slice (some ⟨gb, goff, none⟩) g.length gc) ∧ World.cell? w' ⟨ub, uo, none⟩ = some (.int .i64 (f0 : Int))) wd := ⟨c4, e4⟩
          refine wpAnyH_take (i := 0) (v := ?v35) (by simp only [List.getElem?_toArray, List.getElem?_cons_zero]; exact rfl) (by kernel_rfl) (by kernel_rfl) (by kernel_rfl) (by intro _ _ _ h; exact h) (Or.inl ⟨by rfl, ?y35⟩) hHeld ?_
          case y35 => (intro w hSw; (try dsimp only at hSw); go_simp; try (with_reducible rfl))
          try simp only [Act.put, List.setIfInBounds_toArray, List.set_cons_zero, List.set_cons_succ]
          refine wpAnyH_take (i := 1) (v := ?v36) (by simp only [List.getElem?_toArray, List.getElem?_cons_succ, List.getElem?_cons_zero]; exact rfl) (by kernel_rfl) (by kernel_rfl) (by kernel_rfl) (by intro _ _ _ h; exact h) (Or.inl ⟨by rfl, ?y36⟩) hHeld ?_
          case y36 => (intro w hSw; (try dsimp only at hSw); go_simp; try (with_reducible rfl))
          try simp only [Act.put, List.setIfInBounds_toArray, List.set_cons_zero, List.set_cons_succ]
          refine wpAnyH_take (i := 2) (v := ?v37) (by simp only [List.getElem?_toArray, List.getElem?_cons_succ, List.getElem?_cons_zero]; exact rfl) (by kernel_rfl) (by kernel_rfl) (by kernel_rfl) (by intro _ _ _ h; exact h) (Or.inl ⟨by rfl, ?y37⟩) hHeld ?_
          case y37 => (intro w hSw; (try dsimp only at hSw); go_simp; try (with_reducible rfl))
          try simp only [Act.put, List.setIfInBounds_toArray, List.set_cons_zero, List.set_cons_succ]
          refine wpAnyH_take (i := 3) (v := ?v38) (by simp only [List.getElem?_toArray, List.getElem?_cons_succ, List.getElem?_cons_zero]; exact rfl) (by kernel_rfl) (by kernel_rfl) (by kernel_rfl) (by intro _ _ _ h; exact h) (Or.inl ⟨by rfl, ?y38⟩) hHeld ?_
          case y38 => (intro w hSw; (try dsimp only at hSw); go_simp; try (with_reducible rfl))
          try simp only [Act.put, List.setIfInBounds_toArray, List.set_cons_zero, List.set_cons_succ]
          refine wpAnyH_take (i := 4) (v := ?v39) (by simp only [List.getElem?_toArray, List.getElem?_cons_succ, List.getElem?_cons_zero]; exact rfl) (by kernel_rfl) (by kernel_rfl) (by kernel_rfl) (by intro _ _ _ h; exact h) (Or.inl ⟨by rfl, ?y39⟩) hHeld ?_
          case y39 => (intro w hSw; (try dsimp only at hSw); go_simp; try (with_reducible rfl))
          try simp only [Act.put, List.setIfInBounds_toArray, List.set_cons_zero, List.set_cons_succ]
          refine wpAnyH_take (i := 5) (v := ?v40) (by simp only [List.getElem?_toArray, List.getElem?_cons_succ, List.getElem?_cons_zero]; exact rfl) (by kernel_rfl) (by kernel_rfl) (by kernel_rfl) (by intro _ _ _ h; exact h) (Or.inl ⟨by rfl, ?y40⟩) hHeld ?_
          case y40 => (intro w hSw; (try dsimp only at hSw); go_simp; try (with_reducible rfl))
          try simp only [Act.put, List.setIfInBounds_toArray, List.set_cons_zero, List.set_cons_succ]
          refine wpAnyH_take (i := 6) (v := ?v41) (by simp only [List.getElem?_toArray, List.getElem?_cons_succ, List.getElem?_cons_zero]; exact rfl) (by kernel_rfl) (by kernel_rfl) (by kernel_rfl) (by intro _ _ _ h; exact h) (Or.inl ⟨by rfl, ?y41⟩) hHeld ?_
          case y41 => (intro w hSw; (try dsimp only at hSw); go_simp; try (with_reducible rfl))
          try simp only [Act.put, List.setIfInBounds_toArray, List.set_cons_zero, List.set_cons_succ]
          refine wpAnyH_take (i := 7) (v := ?v42) (by simp only [List.getElem?_toArray, List.getElem?_cons_succ, List.getElem?_cons_zero]; exact rfl) (by kernel_rfl) (by kernel_rfl) (by kernel_rfl) (by intro _ _ _ h; exact h) (Or.inl ⟨by rfl, ?y42⟩) hHeld ?_
          case y42 => (intro w hSw; (try dsimp only at hSw); go_simp; try (with_reducible rfl))
          try simp only [Act.put, List.setIfInBounds_toArray, List.set_cons_zero, List.set_cons_succ]
          refine wpAnyH_take (i := 8) (v := ?v43) (by simp only [List.getElem?_toArray, List.getElem?_cons_succ, List.getElem?_cons_zero]; exact rfl) (by kernel_rfl) (by kernel_rfl) (by kernel_rfl) (by intro _ _ _ h; exact h) (Or.inl ⟨by rfl, ?y43⟩) hHeld ?_
          case y43 => (intro w hSw; (try dsimp only at hSw); go_simp; try (with_reducible rfl))
          try simp only [Act.put, List.setIfInBounds_toArray, List.set_cons_zero, List.set_cons_succ]
          refine wpAnyH_take (i := 9) (v := ?v44) (by simp only [List.getElem?_toArray, List.getElem?_cons_succ, List.getElem?_cons_zero]; exact rfl) (by kernel_rfl) (by kernel_rfl) (by kernel_rfl) (by intro _ _ _ h; exact h) (Or.inl ⟨by rfl, ?y44⟩) hHeld ?_
          case y44 => (intro w hSw; (try dsimp only at hSw); go_simp; try (with_reducible rfl))
          try simp only [Act.put, List.setIfInBounds_toArray, List.set_cons_zero, List.set_cons_succ]
          refine wpAnyH_take (i := 10) (v := ?v45) (by simp only [List.getElem?_toArray, List.getElem?_cons_succ, List.getElem?_cons_zero]; exact rfl) (by kernel_rfl) (by kernel_rfl) (by kernel_rfl) (by intro _ _ _ h; exact h) (Or.inl ⟨by rfl, ?y45⟩) hHeld ?_
          case y45 => (intro w hSw; (try dsimp only at hSw); go_simp; try (with_reducible rfl))
          try simp only [Act.put, List.setIfInBounds_toArray, List.set_cons_zero, List.set_cons_succ]
          refine wpAnyH_take (i := 11) (v := ?v46) (by simp only [List.getElem?_toArray, List.getElem?_cons_succ, List.getElem?_cons_zero]; exact rfl) (by kernel_rfl) (by kernel_rfl) (by kernel_rfl) (by intro _ _ _ h; exact h) (Or.inl ⟨by rfl, ?y46⟩) hHeld ?_
          case y46 => (intro w hSw; (try dsimp only at hSw); go_simp; try (with_reducible rfl))
          try simp only [Act.put, List.setIfInBounds_toArray, List.set_cons_zero, List.set_cons_succ]
          refine wpAnyH_take (i := 12) (v := ?v47) (by simp only [List.getElem?_toArray, List.getElem?_cons_succ, List.getElem?_cons_zero]; exact rfl) (by kernel_rfl) (by kernel_rfl) (by kernel_rfl) (by intro _ _ _ h; exact h) (Or.inl ⟨by rfl, ?y47⟩) hHeld ?_
          case y47 => (intro w hSw; (try dsimp only at hSw); go_simp; try (with_reducible rfl))
          try simp only [Act.put, List.setIfInBounds_toArray, List.set_cons_zero, List.set_cons_succ]
          refine wpAnyH_ready (rs := [13]) (by kernel_rfl) (by simp) ?_
          refine AllReadyH.cons (by simp only [List.getElem?_toArray, List.getElem?_cons_succ, List.getElem?_cons_zero]; exact rfl) (fun K hK => ?_) AllReadyH.nil
          go_simp
          (with_reducible refine (l1Edge_any (hv.below hqc (Nat.le_refl _)) (u := f0) (x := (y : Int)) hf0).mono ?_)
          rintro e wn ⟨rfl, hbn⟩
          rw [HEB.out]
          have hqc := hqc.trans (hbn.mono hqc.size)
          have hbc := hbc.below hbn (Nat.le_refl _)
          have huc := huc.below hbn (Nat.le_refl _)
          have c4 := (hbn.cell (cell_lt c4)).trans c4
          have e4 := (hbn.cell (cell_lt e4)).trans e4
          try dsimp only
          refine hK.out _ _ ?h49 (fun hHeld => ?_)
          case h49 => first | exact ⟨‹_›, ‹_›⟩ | (simp [*, go_sem])
          clear hK K
          try simp only [Act.put, List.setIfInBounds_toArray, List.set_cons_zero, List.set_cons_succ]
          refine wpAnyH_take (i := 14) (v := ?v50) (by simp only [List.getElem?_toArray, List.getElem?_cons_succ, List.getElem?_cons_zero]; exact rfl) (by kernel_rfl) (by kernel_rfl) (by kernel_rfl) (by intro _ _ _ h; exact h) (Or.inl ⟨by rfl, ?y50⟩) hHeld ?_
          case y50 => (intro w hSw; (try dsimp only at hSw); go_simp; try (with_reducible rfl))
          try simp only [Act.put, List.setIfInBounds_toArray, List.set_cons_zero, List.set_cons_succ]
          refine wpAnyH_take (i := 15) (v := ?v51) (by simp only [List.getElem?_toArray, List.getElem?_cons_succ, List.getElem?_cons_zero]; exact rfl) (by kernel_rfl) (by kernel_rfl) (by kernel_rfl) (by intro _ _ _ h; exact h) (Or.inl ⟨by rfl, ?y51⟩) hHeld ?_
          case y51 => (intro w hSw; (try dsimp only at hSw); go_simp; try (with_reducible rfl))
          try simp only [Act.put, List.setIfInBounds_toArray, List.set_cons_zero, List.set_cons_succ]
          refine wpAnyH_done (by kernel_rfl) ?_ _
          go_wp2_with fail
          refine (l1Copy_any _ _ _ huc (by rw [natsI_len]; omega)).mono ?_
          rintro e w7 ⟨ux, rfl, hux, hb7⟩
          rw [natsI_len] at hux
          have hq7 := hqc.trans (hb7.mono hqc.size)
          have c7 := (hb7.cell (cell_lt c4)).trans c4
          have hbB := hbc.lowS.below hb7 (Nat.le_refl _)
          have hb7s := hb7.size
          have hq7s := hqc.size
          have hc4 : w.heap.size + 1 ≤ wn.heap.size := by have := cell_lt c4; simp at this; omega
          generalize hBe : wn.heap.size = B5 at hbB hux hb7s hq7s hc4
          clear hbc huc c4 e4 hb15 hu5 hqc hb7 hBe cg5 e25 hq5
          by_cases hb1e : b1 = []
          case pos =>
            subst hb1e
            have HX3 : RowKit.Hid (SrchR (netsL g) g.length (MetC (netsL g) g.length p Y (k + 1)) best (p ++ [y])) := Lib.hid (by have := HX.out; rwa [if_pos (.inl rfl)] at this)
            clear HX
            go_wp2_with (at_builtin; (first | refine wpList_append1 elI64 rfl _ _ rfl hux rfl rfl rfl (by omega) hb7s ?_ | refine wpList_append1b elI64 rfl _ _ rfl hux rfl rfl rfl rfl (by omega) hb7s ?_); intro v' w8 hown8 hkept hmv)
            have hq8 := hkept.below hq7 hq7.size (fun k hk => by have := hux.ge k hk; omega)
            have c8 := (cell_heap (hkept.2.2.2.2 _ (cell_lt c7) (fun e => by have := hux.ge _ e.symm; (simp at this) <;> omega))).trans c7
            have hl8 : SlI (fun _ => True) w8 .i64 v' (natsI (p ++ [y])) := by (rw [natsI_append]; exact (Own.ints (xs := natsI p ++ [(y : Int)]) (by simpa using hown8) (by omega)).weak (fun _ _ => trivial))
            go_roundw
            case rel => exact ⟨k + 1, p ++ [y], by omega, by go_num, hl8, HX3, hq8, c8⟩
            case measure => simp [intOf]; omega
          have hb1p := List.length_pos_iff.2 hb1e
          have hz1 : ((b1.length : Int) == 0) = false := by rw [beq_eq_false_iff_ne]; omega
          have hz2 : (b1.length == 0) = false := by rw [beq_eq_false_iff_ne]; omega
          have HB1E := Lib.hid hb1e
          clear hb1e
          go_wp2_with (at_builtin; (first | refine wpList_append1 elI64 rfl _ _ rfl hux rfl rfl rfl (by omega) hb7s ?_ | refine wpList_append1b elI64 rfl _ _ rfl hux rfl rfl rfl rfl (by omega) hb7s ?_); intro v' w8 hown8 hkept hmv)
          have hq8 := hkept.below hq7 hq7.size (fun k hk => by have := hux.ge k hk; omega)
          have c8 := (cell_heap (hkept.2.2.2.2 _ (cell_lt c7) (fun e => by have := hux.ge _ e.symm; (simp at this) <;> omega))).trans c7
          have hl8 : SlI (fun _ => True) w8 .i64 v' (natsI (p ++ [y])) := by (rw [natsI_append]; exact (Own.ints (xs := natsI p ++ [(y : Int)]) (by simpa using hown8) (by omega)).weak (fun _ _ => trivial))
          have hbc8 := hbB.keepK hkept hux hb7s
          have hls := l1Less_any hl8 hbc8
          have hbc8 : SlI (fun _ => True) w8 .i64 (.slice ba1 b1.length bc1) (natsI b1) := hbc8.weak (fun _ _ => trivial)
          cases hlb : lessN (p ++ [y]) b1 with
          | true =>
            have HX3 : RowKit.Hid (SrchR (netsL g) g.length (MetC (netsL g) g.length p Y (k + 1)) best (p ++ [y])) := Lib.hid (by have := HX.out; rwa [if_pos (.inr hlb)] at this)
            rw [hlb] at hls
            clear HX hlb
            refine hls.mono ?_
            rintro e w9 ⟨rfl, hd⟩
            clear hls
            have hl9 := hl8.drawn hd
            have hq9 := hq8.trans (hd.below _)
            have c9 := (hd.cell _).trans c8
            go_wp2
            go_roundw
            case rel => exact ⟨k + 1, p ++ [y], by omega, by go_num, hl9, HX3, hq9, c9⟩
            case measure => simp [intOf]; omega
          | false =>
            have HX3 : RowKit.Hid (SrchR (netsL g) g.length (MetC (netsL g) g.length p Y (k + 1)) best b1) := Lib.hid (by
              have := HX.out
              rwa [if_neg (fun h => by
                rcases h with h | h
                · exact HB1E.out h
                · rw [hlb] at h; cases h)] at this)
            rw [hlb] at hls
            clear HX hlb
            refine hls.mono ?_
            rintro e w9 ⟨rfl, hd⟩
            clear hls
            have hl9 := hbc8.drawn hd
            have hq9 := hq8.trans (hd.below _)
            have c9 := (hd.cell _).trans c8
            go_wp2
            go_roundw
            case rel => exact ⟨k + 1, b1, by omega, by go_num, hl9, HX3, hq9, c9⟩
            case measure => simp [intOf]; omega
        have HX := Lib.hid (HNXT.out b1 (SrchR.refl HB1.out (step_more HS.out HP.out hyn hn1 hcond)))
        by_cases hn2 : nearN (netsL g) p y = 2
        case neg =>
          have hb2a : ((nearN (netsL g) p y : Int) == 2) = false := by rw [beq_eq_false_iff_ne]; omega
          have hb2b : (nearN (netsL g) p y == 2) = false := by rw [beq_eq_false_iff_ne]; exact hn2
          generalize p.getD 0 0 = f0 at *
          generalize nearN (netsL g) p y = nn at *
          clear hn1 hn2 hcond hEB HNXT hnle
          go_wp2_with (go_at_call 104; refine hhs.mono ?_; rintro e w' ⟨rfl, rfl⟩)
          clear hhs
          go_quiet (fail)
          go_wp2
          go_roundw
          case rel => exact ⟨k + 1, b1, by omega, by go_num, hb15.drawn ((Drawn.refl _).drewN _), HX, hq5.drewN' _, cg5⟩
          case measure => simp [intOf]; omega
        by_cases hp3 : 3 ≤ p.length
        case neg =>
          have hb2a : ((nearN (netsL g) p y : Int) == 2) = true := by rw [beq_iff_eq]; omega
          have hb2b : (nearN (netsL g) p y == 2) = true := by rw [beq_iff_eq]; exact hn2
          have hb3 : decide ((3 : Int) ≤ (p.length : Int)) = false := decide_eq_false (by omega)
          have hb3b : decide (3 ≤ p.length) = false := decide_eq_false hp3
          generalize p.getD 0 0 = f0 at *
          generalize nearN (netsL g) p y = nn at *
          clear hn1 hn2 hcond hEB HNXT hnle hp3
          go_wp2_with (go_at_call 104; refine hhs.mono ?_; rintro e w' ⟨rfl, rfl⟩)
          clear hhs
          go_quiet (fail)
          go_wp2
          go_roundw
          case rel => exact ⟨k + 1, b1, by omega, by go_num, hb15.drawn ((Drawn.refl _).drewN _), HX, hq5.drewN' _, cg5⟩
          case measure => simp [intOf]; omega
        have hf : ((netsL g).getD (p.getD 0 0) 0).testBit y = false := by
          cases hb : ((netsL g).getD (p.getD 0 0) 0).testBit y
          · rfl
          · exact absurd ⟨hn2, hp3, hb⟩ hcond
        rw [hf] at hEB
        have HEB := Lib.hid hEB
        have hb2a : ((nearN (netsL g) p y : Int) == 2) = true := by rw [beq_iff_eq]; omega
        have hb2b : (nearN (netsL g) p y == 2) = true := by rw [beq_iff_eq]; exact hn2
        have hb3 : decide ((3 : Int) ≤ (p.length : Int)) = true := decide_eq_true (by omega)
        have hb3b : decide (3 ≤ p.length) = true := decide_eq_true hp3
        generalize p.getD 0 0 = f0 at *
        generalize nearN (netsL g) p y = nn at *
        clear hn1 hn2 hf hEB hcond HNXT hnle
        go_wp2_with (go_at_call 104; refine hhs.mono ?_; rintro e w' ⟨rfl, rfl⟩)
        clear hhs
        refine wp_region_held_drew (S := (fun w' => w'.cell? ⟨w.heap.size, 0, none⟩ = some (.slice (some ⟨gb, goff, none⟩) g.length gc) ∧ w'.cell? ⟨ub, uo, none⟩ = some (.int .i64 (f0 : Int)))) (by kernel_rfl) ?_ (fun hHeld => ?_)
        · first | exact ⟨‹_›, ‹_›⟩ | (simp [*, go_sem])
        have hqc := hq5.drew
        have hBd : Below w5.heap.size w5 w5.drew := (Below.refl _ _).drew
        have hbc := hb15.below hBd (Nat.le_refl _)
        generalize w5.drew = wd at hqc hbc hHeld ⊢
        obtain ⟨c4, e4⟩ := hHeld
        have hHeld : (fun w' => World.cell? w' ⟨w.heap.size, 0, none⟩ = some (.slice (some ⟨gb, goff, none⟩) g.length gc) ∧ World.cell? w' ⟨ub, uo, none⟩ = some (.int .i64 (f0 : Int))) wd := ⟨c4, e4⟩
        refine wpAnyH_take (i := 0) (v := ?v52) (by simp only [List.getElem?_toArray, List.getElem?_cons_zero]; exact rfl) (by kernel_rfl) (by kernel_rfl) (by kernel_rfl) (by intro _ _ _ h; exact h) (Or.inl ⟨by rfl, ?y52⟩) hHeld ?_
        case y52 => (intro w hSw; (try dsimp only at hSw); go_simp; try (with_reducible rfl))
        try simp only [Act.put, List.setIfInBounds_toArray, List.set_cons_zero, List.set_cons_succ]
        refine wpAnyH_take (i := 1) (v := ?v53) (by simp only [List.getElem?_toArray, List.getElem?_cons_succ, List.getElem?_cons_zero]; exact rfl) (by kernel_rfl) (by kernel_rfl) (by kernel_rfl) (by intro _ _ _ h; exact h) (Or.inl ⟨by rfl, ?y53⟩) hHeld ?_
        case y53 => (intro w hSw; (try dsimp only at hSw); go_simp; try (with_reducible rfl))
        try simp only [Act.put, List.setIfInBounds_toArray, List.set_cons_zero, List.set_cons_succ]
        refine wpAnyH_take (i := 2) (v := ?v54) (by simp only [List.getElem?_toArray, List.getElem?_cons_succ, List.getElem?_cons_zero]; exact rfl) (by kernel_rfl) (by kernel_rfl) (by kernel_rfl) (by intro _ _ _ h; exact h) (Or.inl ⟨by rfl, ?y54⟩) hHeld ?_
        case y54 => (intro w hSw; (try dsimp only at hSw); go_simp; try (with_reducible rfl))
        try simp only [Act.put, List.setIfInBounds_toArray, List.set_cons_zero, List.set_cons_succ]
        refine wpAnyH_take (i := 3) (v := ?v55) (by simp only [List.getElem?_toArray, List.getElem?_cons_succ, List.getElem?_cons_zero]; exact rfl) (by kernel_rfl) (by kernel_rfl) (by kernel_rfl) (by intro _ _ _ h; exact h) (Or.inl ⟨by rfl, ?y55⟩) hHeld ?_
        case y55 => (intro w hSw; (try dsimp only at hSw); go_simp; try (with_reducible rfl))
        try simp only [Act.put, List.setIfInBounds_toArray, List.set_cons_zero, List.set_cons_succ]
        refine wpAnyH_take (i := 4) (v := ?v56) (by simp only [List.getElem?_toArray, List.getElem?_cons_succ, List.getElem?_cons_zero]; exact rfl) (by kernel_rfl) (by kernel_rfl) (by kernel_rfl) (by intro _ _ _ h; exact h) (Or.inl ⟨by rfl, ?y56⟩) hHeld ?_
        case y56 => (intro w hSw; (try dsimp only at hSw); go_simp; try (with_reducible rfl))
        try simp only [Act.put, List.setIfInBounds_toArray, List.set_cons_zero, List.set_cons_succ]
        refine wpAnyH_take (i := 5) (v := ?v57) (by simp only [List.getElem?_toArray, List.getElem?_cons_succ, List.getElem?_cons_zero]; exact rfl) (by kernel_rfl) (by kernel_rfl) (by kernel_rfl) (by intro _ _ _ h; exact h) (Or.inl ⟨by rfl, ?y57⟩) hHeld ?_
        case y57 => (intro w hSw; (try dsimp only at hSw); go_simp; try (with_reducible rfl))
        try simp only [Act.put, List.setIfInBounds_toArray, List.set_cons_zero, List.set_cons_succ]
        refine wpAnyH_take (i := 6) (v := ?v58) (by simp only [List.getElem?_toArray, List.getElem?_cons_succ, List.getElem?_cons_zero]; exact rfl) (by kernel_rfl) (by kernel_rfl) (by kernel_rfl) (by intro _ _ _ h; exact h) (Or.inl ⟨by rfl, ?y58⟩) hHeld ?_
        case y58 => (intro w hSw; (try dsimp only at hSw); go_simp; try (with_reducible rfl))
        try simp only [Act.put, List.setIfInBounds_toArray, List.set_cons_zero, List.set_cons_succ]
        refine wpAnyH_take (i := 7) (v := ?v59) (by simp only [List.getElem?_toArray, List.getElem?_cons_succ, List.getElem?_cons_zero]; exact rfl) (by kernel_rfl) (by kernel_rfl) (by kernel_rfl) (by intro _ _ _ h; exact h) (Or.inl ⟨by rfl, ?y59⟩) hHeld ?_
        case y59 => (intro w hSw; (try dsimp only at hSw); go_simp; try (with_reducible rfl))
        try simp only [Act.put, List.setIfInBounds_toArray, List.set_cons_zero, List.set_cons_succ]
        refine wpAnyH_take (i := 8) (v := ?v60) (by simp only [List.getElem?_toArray, List.getElem?_cons_succ, List.getElem?_cons_zero]; exact rfl) (by kernel_rfl) (by kernel_rfl) (by kernel_rfl) (by intro _ _ _ h; exact h) (Or.inl ⟨by rfl, ?y60⟩) hHeld ?_
        case y60 => (intro w hSw; (try dsimp only at hSw); go_simp; try (with_reducible rfl))
        try simp only [Act.put, List.setIfInBounds_toArray, List.set_cons_zero, List.set_cons_succ]
        refine wpAnyH_take (i := 9) (v := ?v61) (by simp only [List.getElem?_toArray, List.getElem?_cons_succ, List.getElem?_cons_zero]; exact rfl) (by kernel_rfl) (by kernel_rfl) (by kernel_rfl) (by intro _ _ _ h; exact h) (Or.inl ⟨by rfl, ?y61⟩) hHeld ?_
        case y61 => (intro w hSw; (try dsimp only at hSw); go_simp; try (with_reducible rfl))
        try simp only [Act.put, List.setIfInBounds_toArray, List.set_cons_zero, List.set_cons_succ]
        refine wpAnyH_take (i := 10) (v := ?v62) (by simp only [List.getElem?_toArray, List.getElem?_cons_succ, List.getElem?_cons_zero]; exact rfl) (by kernel_rfl) (by kernel_rfl) (by kernel_rfl) (by intro _ _ _ h; exact h) (Or.inl ⟨by rfl, ?y62⟩) hHeld ?_
        case y62 => (intro w hSw; (try dsimp only at hSw); go_simp; try (with_reducible rfl))
        try simp only [Act.put, List.setIfInBounds_toArray, List.set_cons_zero, List.set_cons_succ]
        refine wpAnyH_take (i := 11) (v := ?v63) (by simp only [List.getElem?_toArray, List.getElem?_cons_succ, List.getElem?_cons_zero]; exact rfl) (by kernel_rfl) (by kernel_rfl) (by kernel_rfl) (by intro _ _ _ h; exact h) (Or.inl ⟨by rfl, ?y63⟩) hHeld ?_
        case y63 => (intro w hSw; (try dsimp only at hSw); go_simp; try (with_reducible rfl))
        try simp only [Act.put, List.setIfInBounds_toArray, List.set_cons_zero, List.set_cons_succ]
        refine wpAnyH_take (i := 12) (v := ?v64) (by simp only [List.getElem?_toArray, List.getElem?_cons_succ, List.getElem?_cons_zero]; exact rfl) (by kernel_rfl) (by kernel_rfl) (by kernel_rfl) (by intro _ _ _ h; exact h) (Or.inl ⟨by rfl, ?y64⟩) hHeld ?_
        case y64 => (intro w hSw; (try dsimp only at hSw); go_simp; try (with_reducible rfl))
        try simp only [Act.put, List.setIfInBounds_toArray, List.set_cons_zero, List.set_cons_succ]
        refine wpAnyH_ready (rs := [13]) (by kernel_rfl) (by simp) ?_
        refine AllReadyH.cons (by simp only [List.getElem?_toArray, List.getElem?_cons_succ, List.getElem?_cons_zero]; exact rfl) (fun K hK => ?_) AllReadyH.nil
        go_simp
        (with_reducible refine (l1Edge_any (hv.below hqc (Nat.le_refl _)) (u := f0) (x := (y : Int)) hf0).mono ?_)
        rintro e wn ⟨rfl, hbn⟩
        rw [HEB.out]
        have hqc := hqc.trans (hbn.mono hqc.size)
        have hbc := hbc.below hbn (Nat.le_refl _)
        have c4 := (hbn.cell (cell_lt c4)).trans c4
        have e4 := (hbn.cell (cell_lt e4)).trans e4
        try dsimp only
        refine hK.out _ _ ?h66 (fun hHeld => ?_)
        case h66 => first | exact ⟨‹_›, ‹_›⟩ | (simp [*, go_sem])
        clear hK K
        try simp only [Act.put, List.setIfInBounds_toArray, List.set_cons_zero, List.set_cons_succ]
        refine wpAnyH_take (i := 14) (v := ?v67) (by simp only [List.getElem?_toArray, List.getElem?_cons_succ, List.getElem?_cons_zero]; exact rfl) (by kernel_rfl) (by kernel_rfl) (by kernel_rfl) (by intro _ _ _ h; exact h) (Or.inl ⟨by rfl, ?y67⟩) hHeld ?_
        case y67 => (intro w hSw; (try dsimp only at hSw); go_simp; try (with_reducible rfl))
        try simp only [Act.put, List.setIfInBounds_toArray, List.set_cons_zero, List.set_cons_succ]
        refine wpAnyH_take (i := 15) (v := ?v68) (by simp only [List.getElem?_toArray, List.getElem?_cons_succ, List.getElem?_cons_zero]; exact rfl) (by kernel_rfl) (by kernel_rfl) (by kernel_rfl) (by intro _ _ _ h; exact h) (Or.inl ⟨by rfl, ?y68⟩) hHeld ?_
        case y68 => (intro w hSw; (try dsimp only at hSw); go_simp; try (with_reducible rfl))
        try simp only [Act.put, List.setIfInBounds_toArray, List.set_cons_zero, List.set_cons_succ]
        refine wpAnyH_done (by kernel_rfl) ?_ _
        go_wp2
        go_roundw
        case rel => exact ⟨k + 1, b1, by omega, by go_num, hbc, HX, hqc, c4⟩
        case measure => simp [intOf]; omega
    have hcA : decide ((0 : Int) < (best.length : Int)) = true := decide_eq_true (by have := List.length_pos_iff.2 hbe; omega)
    have hcB : decide (0 < best.length) = true := decide_eq_true (List.length_pos_iff.2 hbe)
    have hcC : decide ((best.length : Int) ≤ (p.length : Int)) = false := decide_eq_false (by
      rcases HBS.out with h | h
      · exact absurd h hbe
      · omega)
    have hcD : decide (best.length ≤ p.length) = false := decide_eq_false (by
      rcases HBS.out with h | h
      · exact absurd h hbe
      · omega)
    clear hbe
    go_enter Tryd.func68, Tryd.ntmps68
    go_wp2
    go_loopw [8, 2] (fun iv bv wr => ∃ (k : Nat) (b1 : List Nat), k ≤ Y.length ∧ iv = .int .i64 k ∧ SlI (fun _ => True) wr .i64 bv (natsI b1) ∧ RowKit.Hid (SrchR (netsL g) g.length (MetC (netsL g) g.length p Y k) best b1) ∧ Below w.heap.size w wr ∧ wr.cell? ⟨w.heap.size, 0, none⟩ = some (.slice (some ⟨gb, goff, none⟩) g.length gc)) (fun iv _ _ => Y.length - (intOf iv).toNat)
    case atStart => exact ⟨0, best, Nat.zero_le _, rfl, hbv.below hb0 (Nat.le_refl _), HR0, hb0, c0⟩
    case round =>
      clear HR0 hb0 c0 hbv hcA hcB
      obtain ⟨k, b1, hk, rfl, hb1, HR, hq, cg⟩ := hrel
      obtain ⟨wi, rfl⟩ : ∃ wi : World, wi = wr := ⟨_, rfl⟩
      obtain ⟨ba1, bc1, rfl⟩ := hb1.slice
      simp only [natsI_len] at hb1 ⊢
      have kr := (hq.cell (cell_lt k1)).trans k1
      by_cases hlt : k < Y.length
      case neg =>
        obtain rfl : k = Y.length := by omega
        have HF := Lib.hid (HALL.out b1 HR.out)
        go_wp2
        go_ret
        exact ⟨_, b1, rfl, hb1, HF.out, hq⟩
      have hre2 := hre (by rw [natsI_len]; omega)
      rw [natsI_len] at hre2
      simp only [Value.slice.injEq] at hre2
      obtain ⟨rfl, -, rfl⟩ := hre2
      obtain ⟨hyn, hyb⟩ := HIN.out _ (List.getElem_mem hlt)
      have hrk := HRC.out k hlt
      have d1 := (hq.cell (cell_lt hrk)).trans hrk
      have HNXT := Lib.hid (fun r h2 => metC_next (r := r) hlt HR.out h2)
      have HB1 := Lib.hid HR.out.ok
      have hb1l : b1.length ≤ 16 := by
        rcases HB1.out with h | h
        · rw [h]; simp
        · have := loop_len h.loop.path; omega
      clear hrk HR HALL
      generalize Y[k] = y at *
      have e2i := (hq.cell (cell_lt e2)).trans e2
      have hui := hu.below hq (Nat.le_refl _)
      go_wp2_with fail
      refine (l8Near_any (x := y) HG.out (hv.below hq (Nat.le_refl _)) hui HPN.out (by omega)).mono ?_
      rintro e w5 ⟨rfl, hb5⟩
      have hq5 := hq.trans (hb5.mono hq.size)
      have cg5 := (hb5.cell (cell_lt cg)).trans cg
      have e25 := (hb5.cell (cell_lt e2i)).trans e2i
      have hb15 := hb1.below hb5 (Nat.le_refl _)
      have hu5 := hui.below hb5 (Nat.le_refl _)
      have hnle := nearN_le (netsL g) p y
      clear hq cg hb1 hb5 d1 kr e2i hui
      by_cases h0 : y ≤ p.getD 0 0
      · have HX := Lib.hid (HNXT.out b1 (SrchR.refl HB1.out (step_none hp0 (.inl h0))))
        generalize p.getD 0 0 = f0 at *
        have hd1 : decide ((y : Int) ≤ (f0 : Int)) = true := decide_eq_true (by omega)
        have hd2 : decide (y ≤ f0) = true := decide_eq_true h0
        clear HNXT
        go_wp2
        go_roundw
        case rel => exact ⟨k + 1, b1, by omega, by go_num, hb15, HX, hq5, cg5⟩
        case measure => simp [intOf]; omega
      have hd1 : decide ((y : Int) ≤ ((p.getD 0 0 : Nat) : Int)) = false := decide_eq_false (by omega)
      have hd2 : decide (y ≤ p.getD 0 0) = false := decide_eq_false h0
      have hhs := l1Has_any _ (natsI p) (y : Int) w5 hu5
      rw [decide_natsI] at hhs
      by_cases hyp : y ∈ p
      · have HX := Lib.hid (HNXT.out b1 (SrchR.refl HB1.out (step_none hp0 (.inr hyp))))
        rw [decide_eq_true hyp] at hhs
        generalize p.getD 0 0 = f0 at *
        clear HNXT hyp h0
        go_wp2_with (go_at_call 104; refine hhs.mono ?_; rintro e w' ⟨rfl, rfl⟩)
        go_roundw
        case rel => exact ⟨k + 1, b1, by omega, by go_num, hb15, HX, hq5, cg5⟩
        case measure => simp [intOf]; omega
      rw [decide_eq_false hyp] at hhs
      have HYP := Lib.hid hyp
      have HP0 := Lib.hid (show p.getD 0 0 < y by omega)
      have HYB := Lib.hid hyb
      clear hyp h0 hyb
      by_cases hn1 : nearN (netsL g) p y = 1
      · obtain ⟨hsp, hsc⟩ := step_one HS.out HP.out hyn (by rw [HZ.out]; exact HYB.out) HP0.out HYP.out hn1
        have HSP := Lib.hid hsp
        have HSC := Lib.hid hsc
        rw [hn1]
        clear hn1 hsp hsc hnle
        generalize p.getD 0 0 = f0 at *
        go_wp2_with (go_at_call 104; refine hhs.mono ?_; rintro e w' ⟨rfl, rfl⟩)
        clear hhs
        have hbB := hb15.lowS
        have hB5 : w.heap.size + 1 ≤ w5.heap.size := by have := cell_lt cg5; simp at this; omega
        generalize hBe : w5.heap.size = B5 at hbB hB5
        have HBE := Lib.hid hBe
        clear hBe
        apply meet5 (H := fun (_ : Value) (_ : Nat) (_ : Value) (r : Value) (w1 : World) => ∃ rr, SlI (fun _ => True) w1 .i64 r (natsI rr) ∧ SrchR (netsL g) g.length (CandC (netsL g) g.length (p ++ [y])) b1 rr ∧ Below w.heap.size w w1 ∧ w1.cell? ⟨w.heap.size, 0, none⟩ = some (.slice (some ⟨gb, goff, none⟩) g.length gc))
        case orders =>
          intro rest
          refine wp_region_held_drew (S := (fun w' => w'.cell? ⟨w.heap.size, 0, none⟩ = some (.slice (some ⟨gb, goff, none⟩) g.length gc))) (by kernel_rfl) ?_ (fun hHeld => ?_)
          · first | exact ‹_› | (simp [*, go_sem])
          have hqc := hq5.drew
          have hBd : Below w5.heap.size w5 w5.drew := (Below.refl _ _).drew
          have hbc := hbB.below hBd (Nat.le_refl _)
          have huc := hu5.below hBd (Nat.le_refl _)
          have hsz5 : B5 ≤ w5.drew.heap.size := by (have := HBE.out; show B5 ≤ w5.heap.size; omega)
          generalize w5.drew = wd at hqc hbc huc hHeld hsz5 ⊢
          have c4 := hHeld
          have hHeld : (fun w' => World.cell? w' ⟨w.heap.size, 0, none⟩ = some (.slice (some ⟨gb, goff, none⟩) g.length gc)) wd := c4
          refine wpAnyH_take (i := 0) (v := ?v69) (by simp only [List.getElem?_toArray, List.getElem?_cons_zero]; exact rfl) (by kernel_rfl) (by kernel_rfl) (by kernel_rfl) (by intro _ _ _ h; exact h) (Or.inl ⟨by rfl, ?y69⟩) hHeld ?_
          case y69 => (intro w hSw; (try dsimp only at hSw); go_simp; try (with_reducible rfl))
          try simp only [Act.put, List.setIfInBounds_toArray, List.set_cons_zero, List.set_cons_succ]
          refine wpAnyH_take (i := 1) (v := ?v70) (by simp only [List.getElem?_toArray, List.getElem?_cons_succ, List.getElem?_cons_zero]; exact rfl) (by kernel_rfl) (by kernel_rfl) (by kernel_rfl) (by intro _ _ _ h; exact h) (Or.inl ⟨by rfl, ?y70⟩) hHeld ?_
          case y70 => (intro w hSw; (try dsimp only at hSw); go_simp; try (with_reducible rfl))
          try simp only [Act.put, List.setIfInBounds_toArray, List.set_cons_zero, List.set_cons_succ]
          refine wpAnyH_take (i := 3) (v := ?v71) (by simp only [List.getElem?_toArray, List.getElem?_cons_succ, List.getElem?_cons_zero]; exact rfl) (by kernel_rfl) (by kernel_rfl) (by kernel_rfl) (by intro _ _ _ h; exact h) (Or.inl ⟨by rfl, ?y71⟩) hHeld ?_
          case y71 => (intro w hSw; (try dsimp only at hSw); go_simp; try (with_reducible rfl))
          try simp only [Act.put, List.setIfInBounds_toArray, List.set_cons_zero, List.set_cons_succ]
          refine wpAnyH_take (i := 6) (v := ?v72) (by simp only [List.getElem?_toArray, List.getElem?_cons_succ, List.getElem?_cons_zero]; exact rfl) (by kernel_rfl) (by kernel_rfl) (by kernel_rfl) (by intro _ _ _ h; exact h) (Or.inl ⟨by rfl, ?y72⟩) hHeld ?_
          case y72 => (intro w hSw; (try dsimp only at hSw); go_simp; try (with_reducible rfl))
          try simp only [Act.put, List.setIfInBounds_toArray, List.set_cons_zero, List.set_cons_succ]
          refine wpAnyH_ready (rs := [2, 4]) (by kernel_rfl) (by simp) ?_
          refine (AllReadyH.cons (by simp only [List.getElem?_toArray, List.getElem?_cons_succ, List.getElem?_cons_zero]; exact rfl) (fun K hK => ?b73_2) (AllReadyH.cons (by simp only [List.getElem?_toArray, List.getElem?_cons_succ, List.getElem?_cons_zero]; exact rfl) (fun K hK => ?b73_4) AllReadyH.nil))
          case b73_2 =>
            go_simp
            (with_reducible refine (l1Copy_any _ _ _ huc (by rw [natsI_len]; omega)).mono ?_)
            rintro e wn ⟨ux, rfl, hux, hbn⟩
            rw [natsI_len] at hux
            have hux := hux.weak (show B5 ≤ _ by omega)
            have hsz5 : B5 ≤ wn.heap.size := by have := hbn.size; omega
            try (have clit := (hbn.cell (cell_lt clit)).trans clit)
            have hqc := hqc.trans (hbn.mono hqc.size)
            have hbc := hbc.below hbn (Nat.le_refl _)
            have huc := huc.below hbn (Nat.le_refl _)
            have c4 := (hbn.cell (cell_lt c4)).trans c4
            obtain ⟨wd, rfl⟩ : ∃ wx : World, wx = wn := ⟨_, rfl⟩
            try dsimp only
            refine hK.out _ _ ?h74 (fun hHeld => ?_)
            case h74 => first | exact ‹_› | (simp [*, go_sem])
            clear hK K
            try simp only [Act.put, List.setIfInBounds_toArray, List.set_cons_zero, List.set_cons_succ]
            refine wpAnyH_ready (rs := [4]) (by kernel_rfl) (by simp) ?_
            refine AllReadyH.cons (by simp only [List.getElem?_toArray, List.getElem?_cons_succ, List.getElem?_cons_zero]; exact rfl) (fun K hK => ?_) AllReadyH.nil
            go_simp
            have hbn : Below wd.heap.size wd (wd.alloc (.cells #[.int .i64 (y : Int)] 2)) := (Below.refl _ _).alloc (Nat.le_refl _) _
            have clit : (wd.alloc (.cells #[.int .i64 (y : Int)] 2)).cell? ⟨wd.heap.size, 0, none⟩ = some (.int .i64 (y : Int)) := by simp [go_sem]
            have hsz5 : B5 ≤ (wd.alloc (.cells #[.int .i64 (y : Int)] 2)).heap.size := by simp; omega
            generalize (wd.alloc (.cells #[.int .i64 (y : Int)] 2)) = wn at hbn clit hsz5 ⊢
            generalize wd.heap.size = nb at clit ⊢
            try (have hux := hux.below hbn (Nat.le_refl _))
            have hqc := hqc.trans (hbn.mono hqc.size)
            have hbc := hbc.below hbn (Nat.le_refl _)
            have huc := huc.below hbn (Nat.le_refl _)
            have c4 := (hbn.cell (cell_lt c4)).trans c4
            obtain ⟨wd, rfl⟩ : ∃ wx : World, wx = wn := ⟨_, rfl⟩
            try dsimp only
            refine hK.out _ _ ?h76 (fun hHeld => ?_)
            case h76 => first | exact ‹_› | (simp [*, go_sem])
            clear hK K
            try simp only [Act.put, List.setIfInBounds_toArray, List.set_cons_zero, List.set_cons_succ]
            refine wpAnyH_ready (rs := [5]) (by kernel_rfl) (by simp) ?_
            refine AllReadyH.cons (by simp only [List.getElem?_toArray, List.getElem?_cons_succ, List.getElem?_cons_zero]; exact rfl) (fun K hK => ?_) AllReadyH.nil
            rw [if_pos (by rfl)]
            refine opWp_append elI64 _ _ rfl hux rfl rfl (news := [.int .i64 (y : Int)]) rfl (by intro j u hj; match j, hj with | 0, hj => (simp at hj; subst hj; simpa [Addr.add] using clit)) (by intro u hu; simp at hu; subst hu; rfl) (by omega) hsz5 ?_
            intro v' wn hown2 hgr hmv
            have hkept := KeptBut.of_grown hgr
            have c4 := (cell_heap (hkept.2.2.2.2 _ (cell_lt c4) (fun e => by have := hux.ge _ e.symm; (simp at this) <;> omega))).trans c4
            have hbc := hbc.keepK hkept hux hsz5
            have hqc := hkept.below hqc hqc.size (fun k hk => by have := hux.ge k hk; omega)
            obtain ⟨wd, rfl⟩ : ∃ wx : World, wx = wn := ⟨_, rfl⟩
            try dsimp only
            refine hK.out _ _ ?h78 (fun hHeld => ?_)
            case h78 => first | exact ‹_› | (simp [*, go_sem])
            clear hK K
            try simp only [Act.put, List.setIfInBounds_toArray, List.set_cons_zero, List.set_cons_succ]
            refine wpAnyH_ready (rs := [7]) (by kernel_rfl) (by simp) ?_
            refine AllReadyH.cons (by simp only [List.getElem?_toArray, List.getElem?_cons_succ, List.getElem?_cons_zero]; exact rfl) (fun K hK => ?_) AllReadyH.nil
            go_simp
            have huq : SlI (fun _ => True) wd .i64 v' (natsI (p ++ [y])) := by (rw [natsI_append]; exact (Own.ints (xs := natsI p ++ [(y : Int)]) (by simpa using hown2) (by omega)).weak (fun _ _ => trivial))
            (with_reducible refine (ih (p ++ [y]) b1 _ _ _ (by have := HD.out; simp; omega) HSP.out HB1.out (hv.below hqc (Nat.le_refl _)) huq (hbc.weak (fun _ _ => trivial))).mono ?_)
            rintro e wn ⟨r, rr, rfl, hr, hsr, hbn⟩
            have hqc := hqc.trans (hbn.mono hqc.size)
            have c4 := (hbn.cell (cell_lt c4)).trans c4
            try dsimp only
            refine hK.out _ _ ?h80 (fun hHeld => ?_)
            case h80 => first | exact ‹_› | (simp [*, go_sem])
            clear hK K
            try simp only [Act.put, List.setIfInBounds_toArray, List.set_cons_zero, List.set_cons_succ]
            refine wpAnyH_take (i := 8) (v := ?v81) (by simp only [List.getElem?_toArray, List.getElem?_cons_succ, List.getElem?_cons_zero]; exact rfl) (by kernel_rfl) (by kernel_rfl) (by kernel_rfl) (by intro _ _ _ h; exact h) (Or.inl ⟨by rfl, ?y81⟩) hHeld ?_
            case y81 => (intro w hSw; (try dsimp only at hSw); go_simp; try (with_reducible rfl))
            try simp only [Act.put, List.setIfInBounds_toArray, List.set_cons_zero, List.set_cons_succ]
            refine wpAnyH_done (by kernel_rfl) ?_ _
            exact rest ux nb v' r wn ⟨rr, hr, hsr, hqc, c4⟩
          case b73_4 =>
            go_simp
            have hbn : Below wd.heap.size wd (wd.alloc (.cells #[.int .i64 (y : Int)] 2)) := (Below.refl _ _).alloc (Nat.le_refl _) _
            have clit : (wd.alloc (.cells #[.int .i64 (y : Int)] 2)).cell? ⟨wd.heap.size, 0, none⟩ = some (.int .i64 (y : Int)) := by simp [go_sem]
            have hsz5 : B5 ≤ (wd.alloc (.cells #[.int .i64 (y : Int)] 2)).heap.size := by simp; omega
            generalize (wd.alloc (.cells #[.int .i64 (y : Int)] 2)) = wn at hbn clit hsz5 ⊢
            generalize wd.heap.size = nb at clit ⊢
            try (have hux := hux.below hbn (Nat.le_refl _))
            have hqc := hqc.trans (hbn.mono hqc.size)
            have hbc := hbc.below hbn (Nat.le_refl _)
            have huc := huc.below hbn (Nat.le_refl _)
            have c4 := (hbn.cell (cell_lt c4)).trans c4
            obtain ⟨wd, rfl⟩ : ∃ wx : World, wx = wn := ⟨_, rfl⟩
            try dsimp only
            refine hK.out _ _ ?h82 (fun hHeld => ?_)
            case h82 => first | exact ‹_› | (simp [*, go_sem])
            clear hK K
            try simp only [Act.put, List.setIfInBounds_toArray, List.set_cons_zero, List.set_cons_succ]
            refine wpAnyH_ready (rs := [2]) (by kernel_rfl) (by simp) ?_
            refine AllReadyH.cons (by simp only [List.getElem?_toArray, List.getElem?_cons_succ, List.getElem?_cons_zero]; exact rfl) (fun K hK => ?_) AllReadyH.nil
            go_simp
            (with_reducible refine (l1Copy_any _ _ _ huc (by rw [natsI_len]; omega)).mono ?_)
            rintro e wn ⟨ux, rfl, hux, hbn⟩
            rw [natsI_len] at hux
            have hux := hux.weak (show B5 ≤ _ by omega)
            have hsz5 : B5 ≤ wn.heap.size := by have := hbn.size; omega
            try (have clit := (hbn.cell (cell_lt clit)).trans clit)
            have hqc := hqc.trans (hbn.mono hqc.size)
            have hbc := hbc.below hbn (Nat.le_refl _)
            have huc := huc.below hbn (Nat.le_refl _)
            have c4 := (hbn.cell (cell_lt c4)).trans c4
            obtain ⟨wd, rfl⟩ : ∃ wx : World, wx = wn := ⟨_, rfl⟩
            try dsimp only
            refine hK.out _ _ ?h84 (fun hHeld => ?_)
            case h84 => first | exact ‹_› | (simp [*, go_sem])
            clear hK K
            try simp only [Act.put, List.setIfInBounds_toArray, List.set_cons_zero, List.set_cons_succ]
            refine wpAnyH_ready (rs := [5]) (by kernel_rfl) (by simp) ?_
            refine AllReadyH.cons (by simp only [List.getElem?_toArray, List.getElem?_cons_succ, List.getElem?_cons_zero]; exact rfl) (fun K hK => ?_) AllReadyH.nil
            rw [if_pos (by rfl)]
            refine opWp_append elI64 _ _ rfl hux rfl rfl (news := [.int .i64 (y : Int)]) rfl (by intro j u hj; match j, hj with | 0, hj => (simp at hj; subst hj; simpa [Addr.add] using clit)) (by intro u hu; simp at hu; subst hu; rfl) (by omega) hsz5 ?_
            intro v' wn hown2 hgr hmv
            have hkept := KeptBut.of_grown hgr
            have c4 := (cell_heap (hkept.2.2.2.2 _ (cell_lt c4) (fun e => by have := hux.ge _ e.symm; (simp at this) <;> omega))).trans c4
            have hbc := hbc.keepK hkept hux hsz5
            have hqc := hkept.below hqc hqc.size (fun k hk => by have := hux.ge k hk; omega)
            obtain ⟨wd, rfl⟩ : ∃ wx : World, wx = wn := ⟨_, rfl⟩
            try dsimp only
            refine hK.out _ _ ?h86 (fun hHeld => ?_)
            case h86 => first | exact ‹_› | (simp [*, go_sem])
            clear hK K
            try simp only [Act.put, List.setIfInBounds_toArray, List.set_cons_zero, List.set_cons_succ]
            refine wpAnyH_ready (rs := [7]) (by kernel_rfl) (by simp) ?_
            refine AllReadyH.cons (by simp only [List.getElem?_toArray, List.getElem?_cons_succ, List.getElem?_cons_zero]; exact rfl) (fun K hK => ?_) AllReadyH.nil
            go_simp
            have huq : SlI (fun _ => True) wd .i64 v' (natsI (p ++ [y])) := by (rw [natsI_append]; exact (Own.ints (xs := natsI p ++ [(y : Int)]) (by simpa using hown2) (by omega)).weak (fun _ _ => trivial))
            (with_reducible refine (ih (p ++ [y]) b1 _ _ _ (by have := HD.out; simp; omega) HSP.out HB1.out (hv.below hqc (Nat.le_refl _)) huq (hbc.weak (fun _ _ => trivial))).mono ?_)
            rintro e wn ⟨r, rr, rfl, hr, hsr, hbn⟩
            have hqc := hqc.trans (hbn.mono hqc.size)
            have c4 := (hbn.cell (cell_lt c4)).trans c4
            try dsimp only
            refine hK.out _ _ ?h88 (fun hHeld => ?_)
            case h88 => first | exact ‹_› | (simp [*, go_sem])
            clear hK K
            try simp only [Act.put, List.setIfInBounds_toArray, List.set_cons_zero, List.set_cons_succ]
            refine wpAnyH_take (i := 8) (v := ?v89) (by simp only [List.getElem?_toArray, List.getElem?_cons_succ, List.getElem?_cons_zero]; exact rfl) (by kernel_rfl) (by kernel_rfl) (by kernel_rfl) (by intro _ _ _ h; exact h) (Or.inl ⟨by rfl, ?y89⟩) hHeld ?_
            case y89 => (intro w hSw; (try dsimp only at hSw); go_simp; try (with_reducible rfl))
            try simp only [Act.put, List.setIfInBounds_toArray, List.set_cons_zero, List.set_cons_succ]
            refine wpAnyH_done (by kernel_rfl) ?_ _
            exact rest ux nb v' r wn ⟨rr, hr, hsr, hqc, c4⟩
        case rest =>
          intro ux nb v' r wn ⟨rr, hr, hsr, hqc, c4⟩
          obtain ⟨ra', rc', rfl⟩ := hr.slice
          have HX := Lib.hid (HNXT.out rr (hsr.sub fun q hq => HSC.out q hq))
          clear hsr
          go_wp2
          go_roundw
          case rel => exact ⟨k + 1, rr, by omega, by go_num, by simpa [natsI_len] using hr, HX, hqc, c4⟩
          case measure => simp [intOf]; omega
      have hn1b : ((nearN (netsL g) p y : Int) == 1) = false := by rw [beq_eq_false_iff_ne]; omega
      have hn1c : (nearN (netsL g) p y == 1) = false := by rw [beq_eq_false_iff_ne]; exact hn1
      have hf0 : p.getD 0 0 < g.length := HPN.out _ (getD_mem hp0)
      have hEB := edge_bit HG.out hf0 y
      by_cases hcond : nearN (netsL g) p y = 2 ∧ 3 ≤ p.length ∧ ((netsL g).getD (p.getD 0 0) 0).testBit y = true
      · obtain ⟨hn2, hp3, hf⟩ := hcond
        obtain ⟨hch, hct⟩ := step_two HS.out HP.out hyn (by rw [HZ.out]; exact HYB.out) HP0.out HYP.out hn2 hp3 hf
        have HX := Lib.hid (HNXT.out _ (srch_loop HB1.out hch hct))
        rw [hf] at hEB
        have HEB := Lib.hid hEB
        have hb2a : ((nearN (netsL g) p y : Int) == 2) = true := by rw [beq_iff_eq]; omega
        have hb2b : (nearN (netsL g) p y == 2) = true := by rw [beq_iff_eq]; exact hn2
        have hb3 : decide ((3 : Int) ≤ (p.length : Int)) = true := decide_eq_true (by omega)
        have hb3b : decide (3 ≤ p.length) = true := decide_eq_true hp3
        generalize p.getD 0 0 = f0 at *
        generalize nearN (netsL g) p y = nn at *
        clear hn1 hn2 hf hEB hch hct HNXT hnle
        go_wp2_with (go_at_call 104; refine hhs.mono ?_; rintro e w' ⟨rfl, rfl⟩)
        clear hhs
        refine wp_region_held_drew (S := (fun w' => w'.cell? ⟨w.heap.size, 0, none⟩ = some (.slice (some ⟨gb, goff, none⟩) g.length gc) ∧ w'.cell? ⟨ub, uo, none⟩ = some (.int .i64 (f0 : Int)))) (by kernel_rfl) ?_ (fun hHeld => ?_)
        · first | exact ⟨‹_›, ‹_›⟩ | (simp [*, go_sem])
        have hqc := hq5.drew
        have hBd : Below w5.heap.size w5 w5.drew := (Below.refl _ _).drew
        have hbc := hb15.below hBd (Nat.le_refl _)
        have huc := hu5.below hBd (Nat.le_refl _)
        generalize w5.drew = wd at hqc hbc huc hHeld ⊢
        obtain ⟨c4, e4⟩ := hHeld
        have hHeld : (fun w' => World.cell? w' ⟨w.heap.size, 0, none⟩ = some (.slice (some ⟨gb, goff, none⟩) g.length gc) ∧ World.cell? w' ⟨ub, uo, none⟩ = some (.int .i64 (f0 : Int))) wd := ⟨c4, e4⟩
        refine wpAnyH_take (i := 0) (v := ?v90) (by simp only [List.getElem?_toArray, List.getElem?_cons_zero]; exact rfl) (by kernel_rfl) (by kernel_rfl) (by kernel_rfl) (by intro _ _ _ h; exact h) (Or.inl ⟨by rfl, ?y90⟩) hHeld ?_
        case y90 => (intro w hSw; (try dsimp only at hSw); go_simp; try (with_reducible rfl))
        try simp only [Act.put, List.setIfInBounds_toArray, List.set_cons_zero, List.set_cons_succ]
        refine wpAnyH_take (i := 1) (v := ?v91) (by simp only [List.getElem?_toArray, List.getElem?_cons_succ, List.getElem?_cons_zero]; exact rfl) (by kernel_rfl) (by kernel_rfl) (by kernel_rfl) (by intro _ _ _ h; exact h) (Or.inl ⟨by rfl, ?y91⟩) hHeld ?_
        case y91 => (intro w hSw; (try dsimp only at hSw); go_simp; try (with_reducible rfl))
        try simp only [Act.put, List.setIfInBounds_toArray, List.set_cons_zero, List.set_cons_succ]
        refine wpAnyH_take (i := 2) (v := ?v92) (by simp only [List.getElem?_toArray, List.getElem?_cons_succ, List.getElem?_cons_zero]; exact rfl) (by kernel_rfl) (by kernel_rfl) (by kernel_rfl) (by intro _ _ _ h; exact h) (Or.inl ⟨by rfl, ?y92⟩) hHeld ?_
        case y92 => (intro w hSw; (try dsimp only at hSw); go_simp; try (with_reducible rfl))
        try simp only [Act.put, List.setIfInBounds_toArray, List.set_cons_zero, List.set_cons_succ]
        refine wpAnyH_take (i := 3) (v := ?v93) (by simp only [List.getElem?_toArray, List.getElem?_cons_succ, List.getElem?_cons_zero]; exact rfl) (by kernel_rfl) (by kernel_rfl) (by kernel_rfl) (by intro _ _ _ h; exact h) (Or.inl ⟨by rfl, ?y93⟩) hHeld ?_
        case y93 => (intro w hSw; (try dsimp only at hSw); go_simp; try (with_reducible rfl))
        try simp only [Act.put, List.setIfInBounds_toArray, List.set_cons_zero, List.set_cons_succ]
        refine wpAnyH_take (i := 4) (v := ?v94) (by simp only [List.getElem?_toArray, List.getElem?_cons_succ, List.getElem?_cons_zero]; exact rfl) (by kernel_rfl) (by kernel_rfl) (by kernel_rfl) (by intro _ _ _ h; exact h) (Or.inl ⟨by rfl, ?y94⟩) hHeld ?_
        case y94 => (intro w hSw; (try dsimp only at hSw); go_simp; try (with_reducible rfl))
        try simp only [Act.put, List.setIfInBounds_toArray, List.set_cons_zero, List.set_cons_succ]
        refine wpAnyH_take (i := 5) (v := ?v95) (by simp only [List.getElem?_toArray, List.getElem?_cons_succ, List.getElem?_cons_zero]; exact rfl) (by kernel_rfl) (by kernel_rfl) (by kernel_rfl) (by intro _ _ _ h; exact h) (Or.inl ⟨by rfl, ?y95⟩) hHeld ?_
        case y95 => (intro w hSw; (try dsimp only at hSw); go_simp; try (with_reducible rfl))
        try simp only [Act.put, List.setIfInBounds_toArray, List.set_cons_zero, List.set_cons_succ]
        refine wpAnyH_take (i := 6) (v := ?v96) (by simp only [List.getElem?_toArray, List.getElem?_cons_succ, List.getElem?_cons_zero]; exact rfl) (by kernel_rfl) (by kernel_rfl) (by kernel_rfl) (by intro _ _ _ h; exact h) (Or.inl ⟨by rfl, ?y96⟩) hHeld ?_
        case y96 => (intro w hSw; (try dsimp only at hSw); go_simp; try (with_reducible rfl))
        try simp only [Act.put, List.setIfInBounds_toArray, List.set_cons_zero, List.set_cons_succ]
        refine wpAnyH_take (i := 7) (v := ?v97) (by simp only [List.getElem?_toArray, List.getElem?_cons_succ, List.getElem?_cons_zero]; exact rfl) (by kernel_rfl) (by kernel_rfl) (by kernel_rfl) (by intro _ _ _ h; exact h) (Or.inl ⟨by rfl, ?y97⟩) hHeld ?_
        case y97 => (intro w hSw; (try dsimp only at hSw); go_simp; try (with_reducible rfl))
        try simp only [Act.put, List.setIfInBounds_toArray, List.set_cons_zero, List.set_cons_succ]
        refine wpAnyH_take (i := 8) (v := ?v98) (by simp only [List.getElem?_toArray, List.getElem?_cons_succ, List.getElem?_cons_zero]; exact rfl) (by kernel_rfl) (by kernel_rfl) (by kernel_rfl) (by intro _ _ _ h; exact h) (Or.inl ⟨by rfl, ?y98⟩) hHeld ?_
        case y98 => (intro w hSw; (try dsimp only at hSw); go_simp; try (with_reducible rfl))
        try simp only [Act.put, List.setIfInBounds_toArray, List.set_cons_zero, List.set_cons_succ]
        refine wpAnyH_take (i := 9) (v := ?v99) (by simp only [List.getElem?_toArray, List.getElem?_cons_succ, List.getElem?_cons_zero]; exact rfl) (by kernel_rfl) (by kernel_rfl) (by kernel_rfl) (by intro _ _ _ h; exact h) (Or.inl ⟨by rfl, ?y99⟩) hHeld ?_
        case y99 => (intro w hSw; (try dsimp only at hSw); go_simp; try (with_reducible rfl))
        try simp only [Act.put, List.setIfInBounds_toArray, List.set_cons_zero, List.set_cons_succ]
        refine wpAnyH_take (i := 10) (v := ?v100) (by simp only [List.getElem?_toArray, List.getElem?_cons_succ, List.getElem?_cons_zero]; exact rfl) (by kernel_rfl) (by kernel_rfl) (by kernel_rfl) (by intro _ _ _ h; exact h) (Or.inl ⟨by rfl, ?y100⟩) hHeld ?_
        case y100 => (intro w hSw; (try dsimp only at hSw); go_simp; try (with_reducible rfl))
        try simp only [Act.put, List.setIfInBounds_toArray, List.set_cons_zero, List.set_cons_succ]
        refine wpAnyH_take (i := 11) (v := ?v101) (by simp only [List.getElem?_toArray, List.getElem?_cons_succ, List.getElem?_cons_zero]; exact rfl) (by kernel_rfl) (by kernel_rfl) (by kernel_rfl) (by intro _ _ _ h; exact h) (Or.inl ⟨by rfl, ?y101⟩) hHeld ?_
        case y101 => (intro w hSw; (try dsimp only at hSw); go_simp; try (with_reducible rfl))
        try simp only [Act.put, List.setIfInBounds_toArray, List.set_cons_zero, List.set_cons_succ]
        refine wpAnyH_take (i := 12) (v := ?v102) (by simp only [List.getElem?_toArray, List.getElem?_cons_succ, List.getElem?_cons_zero]; exact rfl) (by kernel_rfl) (by kernel_rfl) (by kernel_rfl) (by intro _ _ _ h; exact h) (Or.inl ⟨by rfl, ?y102⟩) hHeld ?_
        case y102 => (intro w hSw; (try dsimp only at hSw); go_simp; try (with_reducible rfl))
        try simp only [Act.put, List.setIfInBounds_toArray, List.set_cons_zero, List.set_cons_succ]
        refine wpAnyH_ready (rs := [13]) (by kernel_rfl) (by simp) ?_
        refine AllReadyH.cons (by simp only [List.getElem?_toArray, List.getElem?_cons_succ, List.getElem?_cons_zero]; exact rfl) (fun K hK => ?_) AllReadyH.nil
        go_simp
        (with_reducible refine (l1Edge_any (hv.below hqc (Nat.le_refl _)) (u := f0) (x := (y : Int)) hf0).mono ?_)
        rintro e wn ⟨rfl, hbn⟩
        rw [HEB.out]
        have hqc := hqc.trans (hbn.mono hqc.size)
        have hbc := hbc.below hbn (Nat.le_refl _)
        have huc := huc.below hbn (Nat.le_refl _)
        have c4 := (hbn.cell (cell_lt c4)).trans c4
        have e4 := (hbn.cell (cell_lt e4)).trans e4
        try dsimp only
        refine hK.out _ _ ?h104 (fun hHeld => ?_)
        case h104 => first | exact ⟨‹_›, ‹_›⟩ | (simp [*, go_sem])
        clear hK K
        try simp only [Act.put, List.setIfInBounds_toArray, List.set_cons_zero, List.set_cons_succ]
        refine wpAnyH_take (i := 14) (v := ?v105) (by simp only [List.getElem?_toArray, List.getElem?_cons_succ, List.getElem?_cons_zero]; exact rfl) (by kernel_rfl) (by kernel_rfl) (by kernel_rfl) (by intro _ _ _ h; exact h) (Or.inl ⟨by rfl, ?y105⟩) hHeld ?_
        case y105 => (intro w hSw; (try dsimp only at hSw); go_simp; try (with_reducible rfl))
        try simp only [Act.put, List.setIfInBounds_toArray, List.set_cons_zero, List.set_cons_succ]
        refine wpAnyH_take (i := 15) (v := ?v106) (by simp only [List.getElem?_toArray, List.getElem?_cons_succ, List.getElem?_cons_zero]; exact rfl) (by kernel_rfl) (by kernel_rfl) (by kernel_rfl) (by intro _ _ _ h; exact h) (Or.inl ⟨by rfl, ?y106⟩) hHeld ?_
        case y106 => (intro w hSw; (try dsimp only at hSw); go_simp; try (with_reducible rfl))
        try simp only [Act.put, List.setIfInBounds_toArray, List.set_cons_zero, List.set_cons_succ]
        refine wpAnyH_done (by kernel_rfl) ?_ _
        go_wp2_with fail
        refine (l1Copy_any _ _ _ huc (by rw [natsI_len]; omega)).mono ?_
        rintro e w7 ⟨ux, rfl, hux, hb7⟩
        rw [natsI_len] at hux
        have hq7 := hqc.trans (hb7.mono hqc.size)
        have c7 := (hb7.cell (cell_lt c4)).trans c4
        have hbB := hbc.lowS.below hb7 (Nat.le_refl _)
        have hb7s := hb7.size
        have hq7s := hqc.size
        have hc4 : w.heap.size + 1 ≤ wn.heap.size := by have := cell_lt c4; simp at this; omega
        generalize hBe : wn.heap.size = B5 at hbB hux hb7s hq7s hc4
        clear hbc huc c4 e4 hb15 hu5 hqc hb7 hBe cg5 e25 hq5
        by_cases hb1e : b1 = []
        case pos =>
          subst hb1e
          have HX3 : RowKit.Hid (SrchR (netsL g) g.length (MetC (netsL g) g.length p Y (k + 1)) best (p ++ [y])) := Lib.hid (by have := HX.out; rwa [if_pos (.inl rfl)] at this)
          clear HX
          go_wp2_with (at_builtin; (first | refine wpList_append1 elI64 rfl _ _ rfl hux rfl rfl rfl (by omega) hb7s ?_ | refine wpList_append1b elI64 rfl _ _ rfl hux rfl rfl rfl rfl (by omega) hb7s ?_); intro v' w8 hown8 hkept hmv)
          have hq8 := hkept.below hq7 hq7.size (fun k hk => by have := hux.ge k hk; omega)
          have c8 := (cell_heap (hkept.2.2.2.2 _ (cell_lt c7) (fun e => by have := hux.ge _ e.symm; (simp at this) <;> omega))).trans c7
          have hl8 : SlI (fun _ => True) w8 .i64 v' (natsI (p ++ [y])) := by (rw [natsI_append]; exact (Own.ints (xs := natsI p ++ [(y : Int)]) (by simpa using hown8) (by omega)).weak (fun _ _ => trivial))
          go_roundw
          case rel => exact ⟨k + 1, p ++ [y], by omega, by go_num, hl8, HX3, hq8, c8⟩
          case measure => simp [intOf]; omega
        have hb1p := List.length_pos_iff.2 hb1e
        have hz1 : ((b1.length : Int) == 0) = false := by rw [beq_eq_false_iff_ne]; omega
        have hz2 : (b1.length == 0) = false := by rw [beq_eq_false_iff_ne]; omega
        have HB1E := Lib.hid hb1e
        clear hb1e
        go_wp2_with (at_builtin; (first | refine wpList_append1 elI64 rfl _ _ rfl hux rfl rfl rfl (by omega) hb7s ?_ | refine wpList_append1b elI64 rfl _ _ rfl hux rfl rfl rfl rfl (by omega) hb7s ?_); intro v' w8 hown8 hkept hmv)
        have hq8 := hkept.below hq7 hq7.size (fun k hk => by have := hux.ge k hk; omega)
        have c8 := (cell_heap (hkept.2.2.2.2 _ (cell_lt c7) (fun e => by have := hux.ge _ e.symm; (simp at this) <;> omega))).trans c7
        have hl8 : SlI (fun _ => True) w8 .i64 v' (natsI (p ++ [y])) := by (rw [natsI_append]; exact (Own.ints (xs := natsI p ++ [(y : Int)]) (by simpa using hown8) (by omega)).weak (fun _ _ => trivial))
        have hbc8 := hbB.keepK hkept hux hb7s
        have hls := l1Less_any hl8 hbc8
        have hbc8 : SlI (fun _ => True) w8 .i64 (.slice ba1 b1.length bc1) (natsI b1) := hbc8.weak (fun _ _ => trivial)
        cases hlb : lessN (p ++ [y]) b1 with
        | true =>
          have HX3 : RowKit.Hid (SrchR (netsL g) g.length (MetC (netsL g) g.length p Y (k + 1)) best (p ++ [y])) := Lib.hid (by have := HX.out; rwa [if_pos (.inr hlb)] at this)
          rw [hlb] at hls
          clear HX hlb
          refine hls.mono ?_
          rintro e w9 ⟨rfl, hd⟩
          clear hls
          have hl9 := hl8.drawn hd
          have hq9 := hq8.trans (hd.below _)
          have c9 := (hd.cell _).trans c8
          go_wp2
          go_roundw
          case rel => exact ⟨k + 1, p ++ [y], by omega, by go_num, hl9, HX3, hq9, c9⟩
          case measure => simp [intOf]; omega
        | false =>
          have HX3 : RowKit.Hid (SrchR (netsL g) g.length (MetC (netsL g) g.length p Y (k + 1)) best b1) := Lib.hid (by
            have := HX.out
            rwa [if_neg (fun h => by
              rcases h with h | h
              · exact HB1E.out h
              · rw [hlb] at h; cases h)] at this)
          rw [hlb] at hls
          clear HX hlb
          refine hls.mono ?_
          rintro e w9 ⟨rfl, hd⟩
          clear hls
          have hl9 := hbc8.drawn hd
          have hq9 := hq8.trans (hd.below _)
          have c9 := (hd.cell _).trans c8
          go_wp2
          go_roundw
          case rel => exact ⟨k + 1, b1, by omega, by go_num, hl9, HX3, hq9, c9⟩
          case measure => simp [intOf]; omega
      have HX := Lib.hid (HNXT.out b1 (SrchR.refl HB1.out (step_more HS.out HP.out hyn hn1 hcond)))
      by_cases hn2 : nearN (netsL g) p y = 2
      case neg =>
        have hb2a : ((nearN (netsL g) p y : Int) == 2) = false := by rw [beq_eq_false_iff_ne]; omega
        have hb2b : (nearN (netsL g) p y == 2) = false := by rw [beq_eq_false_iff_ne]; exact hn2
        generalize p.getD 0 0 = f0 at *
        generalize nearN (netsL g) p y = nn at *
        clear hn1 hn2 hcond hEB HNXT hnle
        go_wp2_with (go_at_call 104; refine hhs.mono ?_; rintro e w' ⟨rfl, rfl⟩)
        clear hhs
        go_quiet (fail)
        go_wp2
        go_roundw
        case rel => exact ⟨k + 1, b1, by omega, by go_num, hb15.drawn ((Drawn.refl _).drewN _), HX, hq5.drewN' _, cg5⟩
        case measure => simp [intOf]; omega
      by_cases hp3 : 3 ≤ p.length
      case neg =>
        have hb2a : ((nearN (netsL g) p y : Int) == 2) = true := by rw [beq_iff_eq]; omega
        have hb2b : (nearN (netsL g) p y == 2) = true := by rw [beq_iff_eq]; exact hn2
        have hb3 : decide ((3 : Int) ≤ (p.length : Int)) = false := decide_eq_false (by omega)
        have hb3b : decide (3 ≤ p.length) = false := decide_eq_false hp3
        generalize p.getD 0 0 = f0 at *
        generalize nearN (netsL g) p y = nn at *
        clear hn1 hn2 hcond hEB HNXT hnle hp3
        go_wp2_with (go_at_call 104; refine hhs.mono ?_; rintro e w' ⟨rfl, rfl⟩)
        clear hhs
        go_quiet (fail)
        go_wp2
        go_roundw
        case rel => exact ⟨k + 1, b1, by omega, by go_num, hb15.drawn ((Drawn.refl _).drewN _), HX, hq5.drewN' _, cg5⟩
        case measure => simp [intOf]; omega
      have hf : ((netsL g).getD (p.getD 0 0) 0).testBit y = false := by
        cases hb : ((netsL g).getD (p.getD 0 0) 0).testBit y
        · rfl
        · exact absurd ⟨hn2, hp3, hb⟩ hcond
      rw [hf] at hEB
      have HEB := Lib.hid hEB
      have hb2a : ((nearN (netsL g) p y : Int) == 2) = true := by rw [beq_iff_eq]; omega
      have hb2b : (nearN (netsL g) p y == 2) = true := by rw [beq_iff_eq]; exact hn2
      have hb3 : decide ((3 : Int) ≤ (p.length : Int)) = true := decide_eq_true (by omega)
      have hb3b : decide (3 ≤ p.length) = true := decide_eq_true hp3
      generalize p.getD 0 0 = f0 at *
      generalize nearN (netsL g) p y = nn at *
      clear hn1 hn2 hf hEB hcond HNXT hnle
      go_wp2_with (go_at_call 104; refine hhs.mono ?_; rintro e w' ⟨rfl, rfl⟩)
      clear hhs
      refine wp_region_held_drew (S := (fun w' => w'.cell? ⟨w.heap.size, 0, none⟩ = some (.slice (some ⟨gb, goff, none⟩) g.length gc) ∧ w'.cell? ⟨ub, uo, none⟩ = some (.int .i64 (f0 : Int)))) (by kernel_rfl) ?_ (fun hHeld => ?_)
      · first | exact ⟨‹_›, ‹_›⟩ | (simp [*, go_sem])
      have hqc := hq5.drew
      have hBd : Below w5.heap.size w5 w5.drew := (Below.refl _ _).drew
      have hbc := hb15.below hBd (Nat.le_refl _)
      generalize w5.drew = wd at hqc hbc hHeld ⊢
      obtain ⟨c4, e4⟩ := hHeld
      have hHeld : (fun w' => World.cell? w' ⟨w.heap.size, 0, none⟩ = some (.slice (some ⟨gb, goff, none⟩) g.length gc) ∧ World.cell? w' ⟨ub, uo, none⟩ = some (.int .i64 (f0 : Int))) wd := ⟨c4, e4⟩
      refine wpAnyH_take (i := 0) (v := ?v107) (by simp only [List.getElem?_toArray, List.getElem?_cons_zero]; exact rfl) (by kernel_rfl) (by kernel_rfl) (by kernel_rfl) (by intro _ _ _ h; exact h) (Or.inl ⟨by rfl, ?y107⟩) hHeld ?_
      case y107 => (intro w hSw; (try dsimp only at hSw); go_simp; try (with_reducible rfl))
      try simp only [Act.put, List.setIfInBounds_toArray, List.set_cons_zero, List.set_cons_succ]
      refine wpAnyH_take (i := 1) (v := ?v108) (by simp only [List.getElem?_toArray, List.getElem?_cons_succ, List.getElem?_cons_zero]; exact rfl) (by kernel_rfl) (by kernel_rfl) (by kernel_rfl) (by intro _ _ _ h; exact h) (Or.inl ⟨by rfl, ?y108⟩) hHeld ?_
      case y108 => (intro w hSw; (try dsimp only at hSw); go_simp; try (with_reducible rfl))
      try simp only [Act.put, List.setIfInBounds_toArray, List.set_cons_zero, List.set_cons_succ]
      refine wpAnyH_take (i := 2) (v := ?v109) (by simp only [List.getElem?_toArray, List.getElem?_cons_succ, List.getElem?_cons_zero]; exact rfl) (by kernel_rfl) (by kernel_rfl) (by kernel_rfl) (by intro _ _ _ h; exact h) (Or.inl ⟨by rfl, ?y109⟩) hHeld ?_
      case y109 => (intro w hSw; (try dsimp only at hSw); go_simp; try (with_reducible rfl))
      try simp only [Act.put, List.setIfInBounds_toArray, List.set_cons_zero, List.set_cons_succ]
      refine wpAnyH_take (i := 3) (v := ?v110) (by simp only [List.getElem?_toArray, List.getElem?_cons_succ, List.getElem?_cons_zero]; exact rfl) (by kernel_rfl) (by kernel_rfl) (by kernel_rfl) (by intro _ _ _ h; exact h) (Or.inl ⟨by rfl, ?y110⟩) hHeld ?_
      case y110 => (intro w hSw; (try dsimp only at hSw); go_simp; try (with_reducible rfl))
      try simp only [Act.put, List.setIfInBounds_toArray, List.set_cons_zero, List.set_cons_succ]
      refine wpAnyH_take (i := 4) (v := ?v111) (by simp only [List.getElem?_toArray, List.getElem?_cons_succ, List.getElem?_cons_zero]; exact rfl) (by kernel_rfl) (by kernel_rfl) (by kernel_rfl) (by intro _ _ _ h; exact h) (Or.inl ⟨by rfl, ?y111⟩) hHeld ?_
      case y111 => (intro w hSw; (try dsimp only at hSw); go_simp; try (with_reducible rfl))
      try simp only [Act.put, List.setIfInBounds_toArray, List.set_cons_zero, List.set_cons_succ]
      refine wpAnyH_take (i := 5) (v := ?v112) (by simp only [List.getElem?_toArray, List.getElem?_cons_succ, List.getElem?_cons_zero]; exact rfl) (by kernel_rfl) (by kernel_rfl) (by kernel_rfl) (by intro _ _ _ h; exact h) (Or.inl ⟨by rfl, ?y112⟩) hHeld ?_
      case y112 => (intro w hSw; (try dsimp only at hSw); go_simp; try (with_reducible rfl))
      try simp only [Act.put, List.setIfInBounds_toArray, List.set_cons_zero, List.set_cons_succ]
      refine wpAnyH_take (i := 6) (v := ?v113) (by simp only [List.getElem?_toArray, List.getElem?_cons_succ, List.getElem?_cons_zero]; exact rfl) (by kernel_rfl) (by kernel_rfl) (by kernel_rfl) (by intro _ _ _ h; exact h) (Or.inl ⟨by rfl, ?y113⟩) hHeld ?_
      case y113 => (intro w hSw; (try dsimp only at hSw); go_simp; try (with_reducible rfl))
      try simp only [Act.put, List.setIfInBounds_toArray, List.set_cons_zero, List.set_cons_succ]
      refine wpAnyH_take (i := 7) (v := ?v114) (by simp only [List.getElem?_toArray, List.getElem?_cons_succ, List.getElem?_cons_zero]; exact rfl) (by kernel_rfl) (by kernel_rfl) (by kernel_rfl) (by intro _ _ _ h; exact h) (Or.inl ⟨by rfl, ?y114⟩) hHeld ?_
      case y114 => (intro w hSw; (try dsimp only at hSw); go_simp; try (with_reducible rfl))
      try simp only [Act.put, List.setIfInBounds_toArray, List.set_cons_zero, List.set_cons_succ]
      refine wpAnyH_take (i := 8) (v := ?v115) (by simp only [List.getElem?_toArray, List.getElem?_cons_succ, List.getElem?_cons_zero]; exact rfl) (by kernel_rfl) (by kernel_rfl) (by kernel_rfl) (by intro _ _ _ h; exact h) (Or.inl ⟨by rfl, ?y115⟩) hHeld ?_
      case y115 => (intro w hSw; (try dsimp only at hSw); go_simp; try (with_reducible rfl))
      try simp only [Act.put, List.setIfInBounds_toArray, List.set_cons_zero, List.set_cons_succ]
      refine wpAnyH_take (i := 9) (v := ?v116) (by simp only [List.getElem?_toArray, List.getElem?_cons_succ, List.getElem?_cons_zero]; exact rfl) (by kernel_rfl) (by kernel_rfl) (by kernel_rfl) (by intro _ _ _ h; exact h) (Or.inl ⟨by rfl, ?y116⟩) hHeld ?_
      case y116 => (intro w hSw; (try dsimp only at hSw); go_simp; try (with_reducible rfl))
      try simp only [Act.put, List.setIfInBounds_toArray, List.set_cons_zero, List.set_cons_succ]
      refine wpAnyH_take (i := 10) (v := ?v117) (by simp only [List.getElem?_toArray, List.getElem?_cons_succ, List.getElem?_cons_zero]; exact rfl) (by kernel_rfl) (by kernel_rfl) (by kernel_rfl) (by intro _ _ _ h; exact h) (Or.inl ⟨by rfl, ?y117⟩) hHeld ?_
      case y117 => (intro w hSw; (try dsimp only at hSw); go_simp; try (with_reducible rfl))
      try simp only [Act.put, List.setIfInBounds_toArray, List.set_cons_zero, List.set_cons_succ]
      refine wpAnyH_take (i := 11) (v := ?v118) (by simp only [List.getElem?_toArray, List.getElem?_cons_succ, List.getElem?_cons_zero]; exact rfl) (by kernel_rfl) (by kernel_rfl) (by kernel_rfl) (by intro _ _ _ h; exact h) (Or.inl ⟨by rfl, ?y118⟩) hHeld ?_
      case y118 => (intro w hSw; (try dsimp only at hSw); go_simp; try (with_reducible rfl))
      try simp only [Act.put, List.setIfInBounds_toArray, List.set_cons_zero, List.set_cons_succ]
      refine wpAnyH_take (i := 12) (v := ?v119) (by simp only [List.getElem?_toArray, List.getElem?_cons_succ, List.getElem?_cons_zero]; exact rfl) (by kernel_rfl) (by kernel_rfl) (by kernel_rfl) (by intro _ _ _ h; exact h) (Or.inl ⟨by rfl, ?y119⟩) hHeld ?_
      case y119 => (intro w hSw; (try dsimp only at hSw); go_simp; try (with_reducible rfl))
      try simp only [Act.put, List.setIfInBounds_toArray, List.set_cons_zero, List.set_cons_succ]
      refine wpAnyH_ready (rs := [13]) (by kernel_rfl) (by simp) ?_
      refine AllReadyH.cons (by simp only [List.getElem?_toArray, List.getElem?_cons_succ, List.getElem?_cons_zero]; exact rfl) (fun K hK => ?_) AllReadyH.nil
      go_simp
      (with_reducible refine (l1Edge_any (hv.below hqc (Nat.le_refl _)) (u := f0) (x := (y : Int)) hf0).mono ?_)
      rintro e wn ⟨rfl, hbn⟩
      rw [HEB.out]
      have hqc := hqc.trans (hbn.mono hqc.size)
      have hbc := hbc.below hbn (Nat.le_refl _)
      have c4 := (hbn.cell (cell_lt c4)).trans c4
      have e4 := (hbn.cell (cell_lt e4)).trans e4
      try dsimp only
      refine hK.out _ _ ?h121 (fun hHeld => ?_)
      case h121 => first | exact ⟨‹_›, ‹_›⟩ | (simp [*, go_sem])
      clear hK K
      try simp only [Act.put, List.setIfInBounds_toArray, List.set_cons_zero, List.set_cons_succ]
      refine wpAnyH_take (i := 14) (v := ?v122) (by simp only [List.getElem?_toArray, List.getElem?_cons_succ, List.getElem?_cons_zero]; exact rfl) (by kernel_rfl) (by kernel_rfl) (by kernel_rfl) (by intro _ _ _ h; exact h) (Or.inl ⟨by rfl, ?y122⟩) hHeld ?_
      case y122 => (intro w hSw; (try dsimp only at hSw); go_simp; try (with_reducible rfl))
      try simp only [Act.put, List.setIfInBounds_toArray, List.set_cons_zero, List.set_cons_succ]
      refine wpAnyH_take (i := 15) (v := ?v123) (by simp only [List.getElem?_toArray, List.getElem?_cons_succ, List.getElem?_cons_zero]; exact rfl) (by kernel_rfl) (by kernel_rfl) (by kernel_rfl) (by intro _ _ _ h; exact h) (Or.inl ⟨by rfl, ?y123⟩) hHeld ?_
      case y123 => (intro w hSw; (try dsimp only at hSw); go_simp; try (with_reducible rfl))
      try simp only [Act.put, List.setIfInBounds_toArray, List.set_cons_zero, List.set_cons_succ]
      refine wpAnyH_done (by kernel_rfl) ?_ _
      go_wp2
      go_roundw
      case rel => exact ⟨k + 1, b1, by omega, by go_num, hbc, HX, hqc, c4⟩
      case measure => simp [intOf]; omega
end Go.Proofs.YthpbeiihlembnaaDoor
