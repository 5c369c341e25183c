/- OddLoop of the reference. -/
import Derived.Test.YthpbeiihlembnaaDoorTwice
import Derived.Test.YthpbeiihlembnaaDoorLess
import Derived.Test.YthpbeiihlembnaaDoorFit4
namespace Go.Proofs.YthpbeiihlembnaaDoor
open Go.RowKit
theorem SlI.emptyO (S : Nat → Prop) (w : World) (k : IntKind) (a : Option Addr) : SlI S w k (.slice a 0 0) [] := ⟨a, 0, 0, 0, rfl, by simp, fun h => by simp at h, fun i hi => by simp at hi⟩
/-- The least odd loop. -/
noncomputable def oddF (g : List (List Int)) : List Nat := if gokB g = true then pickG (OddN (netsL g) g.length) else []
theorem irrO {g : List (List Int)} (hg : GOk g) {x : Nat} (hx : x < g.length) : ((netsL g).getD x 0).testBit x = false := by
  rw [nets_bit2 hg hx]
  exact decide_eq_false fun h => (hg.symD hx h).2.2 rfl
theorem oi_of {g : List (List Int)} (hg : GOk g) {s : Nat} {D : Nat → Int} (hs : s < g.length) (hD : IsD (nbO (netsL g)) (2 * g.length) (2 * s) D) : OI (netsL g) g.length s D :=
  ⟨fun u => nat_getD (netsL_lt hg) u, fun x y hx h => by rw [nets_bit2 hg hx, decide_eq_true_eq] at h; exact (hg.symD hx h).1, fun x y hx hy h => by
    rw [nets_bit2 hg hx, decide_eq_true_eq] at h
    rw [nets_bit2 hg hy, decide_eq_true_eq]; exact (hg.symD hx h).2.1, hs, hD⟩
def BestO (H : List Nat) (n k : Nat) (best : List Nat) : Prop := (best = [] ∨ CW H n best) ∧ ∀ q, CW H n q → q.getD 0 0 < k → best ≠ [] ∧ leN best q
theorem cw_pos {H : List Nat} {n : Nat} {q : List Nat} (h : CW H n q) : 0 < q.length := by have := h.odd; omega
theorem BestO.end_ {H : List Nat} {n : Nat} {best : List Nat} (h : BestO H n n best) (hir : ∀ x, x < n → (H.getD x 0).testBit x = false) : best = pickG (OddN H n) := by
  rcases h.1 with h1 | h1
  · rw [h1, pick_none]
    intro q hq
    exact (h.2 q hq.cw (hq.cw.lt 0 (cw_pos hq.cw))).1 h1
  · rw [pick_some (cw_least hir ⟨h1, fun q hq => (h.2 q hq (hq.lt 0 (cw_pos hq))).2⟩)]
theorem BestO.skip {H : List Nat} {n k : Nat} {D : Nat → Int} {best : List Nat} (h : BestO H n k best) (hO : OI H n k D) (h0 : oddW H D (D (2 * k + 1)).toNat k = []) : BestO H n (k + 1) best :=
  ⟨h.1, fun q hq hv => by
    by_cases e : q.getD 0 0 = k
    · obtain ⟨L, h1, h2, -⟩ := odd_from hO hq e
      have := congrArg List.length h0
      rw [odd_len, h1, Int.toNat_natCast] at this
      simp at this; omega
    · exact h.2 q hq (by omega)⟩
theorem BestO.take {H : List Nat} {n k : Nat} {D : Nat → Int} {best : List Nat} (h : BestO H n k best) (hO : OI H n k D) (h0 : oddW H D (D (2 * k + 1)).toNat k ≠ []) :
    BestO H n (k + 1) (if best = [] ∨ lessN (oddW H D (D (2 * k + 1)).toNat k) best = true then oddW H D (D (2 * k + 1)).toNat k else best) := by
  have hL : 0 < (D (2 * k + 1)).toNat := by
    apply Classical.byContradiction
    intro hc
    exact h0 (by rw [show (D (2 * k + 1)).toNat = 0 by omega]; rfl)
  have hcw := (odd_cw (L := (D (2 * k + 1)).toNat) hO (by omega) hL).1
  have hle : ∀ q, CW H n q → q.getD 0 0 = k → leN (oddW H D (D (2 * k + 1)).toNat k) q := fun q hq e => by
    obtain ⟨L, h1, -, h3⟩ := odd_from hO hq e
    rw [h1, Int.toNat_natCast]; exact h3
  generalize oddW H D (D (2 * k + 1)).toNat k = l at *
  by_cases hb : best = [] ∨ lessN l best = true
  · rw [if_pos hb]
    refine ⟨.inr hcw, fun q hq hv => ⟨h0, ?_⟩⟩
    by_cases e : q.getD 0 0 = k
    · exact hle q hq e
    · have h2 := h.2 q hq (by omega)
      rcases hb with hb | hb
      · exact absurd hb h2.1
      · exact leN_trans (less_yes hb) h2.2
  · rw [if_neg hb]
    have h1 : best ≠ [] := fun e => hb (.inl e)
    have h2 : lessN l best = false := by
      cases hx : lessN l best
      · rfl
      · exact absurd (.inr hx) hb
    refine ⟨h.1, fun q hq hv => ⟨h1, ?_⟩⟩
    by_cases e : q.getD 0 0 = k
    · exact leN_trans (less_no h2) (hle q hq e)
    · exact (h.2 q hq (by omega)).2
set_option maxRecDepth 100000 in
set_option maxHeartbeats 8000000 in
theorem specOddLoop_any {S : Nat → Prop} {v : Value} {g : List (List Int)} {w : World} (hv : SlR S w v g) :
    Calls Tryd.prog 26 #[.agg #[v]] w fun e w' => ∃ u, e = .returned u ∧ SlI (fun b => b < w'.heap.size) w' .i64 u (natsI (oddF g)) ∧ Below w.heap.size w w' := by
  have hv0 := hv
  obtain ⟨a, c, rfl⟩ := hv.slice
  have hb0 : Below w.heap.size w ((w.alloc (.cells #[.slice a g.length c] 29)).alloc (.cells #[] 2)) := ((Below.refl _ _).alloc (Nat.le_refl _) _).alloc (by simp) _
  have c0 : ((w.alloc (.cells #[.slice a g.length c] 29)).alloc (.cells #[] 2)).cell? ⟨w.heap.size, 0, none⟩ = some (.slice a g.length c) := by simp [go_sem]
  have hsize := fun (W : World) (hb : Below w.heap.size w W) => l1Size_any (hv0.below hb (Nat.le_refl _))
  have hgo := fun (W : World) (hb : Below w.heap.size w W) => specGraphOk_any _ _ _ (hv0.below hb (Nat.le_refl _))
  by_cases hgb : gokB g = true
  case neg =>
    have HE := Lib.hid (show oddF g = [] by rw [oddF, if_neg hgb])
    rw [Bool.not_eq_true] at hgb
    rw [hgb] at hgo
    clear hgb
    rw [HE.out]
    go_enter Tryd.func26, Tryd.ntmps26
    go_wp2
    go_loopw [3, 4] (fun bv sv wr => bv = .slice (some ⟨w.heap.size + 1, 0, none⟩) 0 0 ∧ sv = .int .i64 0 ∧ Below w.heap.size w wr ∧ wr.cell? ⟨w.heap.size, 0, none⟩ = some (.slice a g.length c)) (fun _ _ _ => 0)
    case atStart => exact ⟨rfl, rfl, hb0, c0⟩
    case round =>
      clear hb0 c0
      obtain ⟨rfl, rfl, hq, cg⟩ := hrel
      by_cases h0 : 0 < g.length
      · have hd : decide ((0 : Int) < (g.length : Int)) = true := by simp; omega
        go_wp2_with fail
        refine (hsize _ hq).mono ?_
        rintro e w5 ⟨rfl, hb5⟩
        have hq5 := hq.trans (hb5.mono hq.size)
        have cg5 := (hb5.cell (cell_lt cg)).trans cg
        go_wp2_with fail
        refine (hgo _ hq5).mono ?_
        rintro e w6 ⟨rfl, hb6⟩
        go_wp2
        go_ret
        exact ⟨_, rfl, SlI.emptyO _ _ _ _, hq5.trans (hb6.mono hq5.size)⟩
      · have hd : decide ((0 : Int) < (g.length : Int)) = false := decide_eq_false (by omega)
        go_wp2_with fail
        refine (hsize _ hq).mono ?_
        rintro e w5 ⟨rfl, hb5⟩
        go_wp2
        go_ret
        exact ⟨_, rfl, SlI.emptyO _ _ _ _, hq.trans (hb5.mono hq.size)⟩
  have hg := gokB_iff.1 hgb
  have h16 := hg.hi
  have HE := Lib.hid (show oddF g = pickG (OddN (netsL g) g.length) by rw [oddF, if_pos hgb])
  rw [hgb] at hgo
  have HG := Lib.hid hg
  clear hgb
  rw [HE.out]
  have hodd := fun (W : World) (hb : Below w.heap.size w W) (k : Nat) (hk : k < g.length) => l3Odd_any HG.out (hv0.below hb (Nat.le_refl _)) hk
  have H0 := Lib.hid (show BestO (netsL g) g.length 0 [] from ⟨.inl rfl, fun q _ h => absurd h (Nat.not_lt_zero _)⟩)
  clear hg
  go_enter Tryd.func26, Tryd.ntmps26
  go_wp2
  go_loopw [3, 4] (fun bv sv wr => ∃ (k : Nat) (best : List Nat), k ≤ g.length ∧ sv = .int .i64 k ∧ SlI (fun _ => True) wr .i64 bv (natsI best) ∧ RowKit.Hid (BestO (netsL g) g.length k best) ∧ Below w.heap.size w wr ∧ wr.cell? ⟨w.heap.size, 0, none⟩ = some (.slice a g.length c)) (fun _ sv _ => g.length - (RowKit.intOf sv).toNat)
  case atStart => exact ⟨0, [], Nat.zero_le _, rfl, SlI.emptyO _ _ _ _, H0, hb0, c0⟩
  case round =>
    clear H0 hb0 c0
    obtain ⟨k, best, hk, rfl, hbest, HB, hq, cg⟩ := hrel
    obtain ⟨ba, bc, rfl⟩ := hbest.slice
    simp only [natsI_len] at hbest ⊢
    by_cases hlt : k < g.length
    case neg =>
      obtain rfl : k = g.length := by omega
      have HF := Lib.hid (HB.out.end_ (fun x hx => irrO HG.out hx))
      go_wp2_with fail
      refine (hsize _ hq).mono ?_
      rintro e w5 ⟨rfl, hb5⟩
      go_wp2
      go_ret
      rw [← HF.out]
      exact ⟨_, rfl, (hbest.below hb5 (Nat.le_refl _)).lowS, hq.trans (hb5.mono hq.size)⟩
    go_wp2_with fail
    refine (hsize _ hq).mono ?_
    rintro e w5 ⟨rfl, hb5⟩
    have hq5 := hq.trans (hb5.mono hq.size)
    have cg5 := (hb5.cell (cell_lt cg)).trans cg
    have hbest5 := hbest.below hb5 (Nat.le_refl _)
    go_wp2_with fail
    refine (hgo _ hq5).mono ?_
    rintro e w6 ⟨rfl, hb6⟩
    have hq6 := hq5.trans (hb6.mono hq5.size)
    have cg6 := (hb6.cell (cell_lt cg5)).trans cg5
    have hbest6 := hbest5.below hb6 (Nat.le_refl _)
    clear hbest hbest5 hq hq5 cg cg5 hb5 hb6
    go_wp2_with fail
    refine (hodd _ hq6 k hlt).mono ?_
    rintro e w7 ⟨u, D, rfl, hu, hD, h32, hb7⟩
    have hq7 := hq6.trans (hb7.mono hq6.size)
    have cg7 := (hb7.cell (cell_lt cg6)).trans cg6
    have hbest7 := hbest6.below hb7 (Nat.le_refl _)
    have hO := oi_of HG.out hlt hD
    have hll : (oddW (netsL g) D (D (2 * k + 1)).toNat k).length ≤ 32 := by rw [odd_len]; have := h32 (2 * k + 1); omega
    have hT := fun h => BestO.take HB.out hO h
    have hS := fun h => BestO.skip HB.out hO h
    generalize oddW (netsL g) D (D (2 * k + 1)).toNat k = l at *
    have hli : SlI (fun _ => True) w7 .i64 u (natsI l) := (Own.ints (xs := natsI l) hu (by omega)).weak (fun _ _ => trivial)
    obtain ⟨la, lc, rfl⟩ := hu.isSlice
    clear hbest6 hq6 cg6 hb7 hu hD h32 hO HB
    by_cases hl0 : l = []
    · subst hl0
      have HN := Lib.hid (hS rfl)
      clear hT hS
      go_wp2
      go_roundw
      case rel => exact ⟨k + 1, best, by omega, by go_num, hbest7, HN, hq7, cg7⟩
      case measure => simp [RowKit.intOf]; omega
    have HNEW := Lib.hid (hT hl0)
    have hlp : 0 < l.length := List.length_pos_iff.2 hl0
    have hls := l1Less_any hli hbest7
    clear hT hS hl0
    by_cases hb0 : best = []
    · subst hb0
      have HN3 : RowKit.Hid (BestO (netsL g) g.length (k + 1) l) := Lib.hid (by have := HNEW.out; rwa [if_pos (.inl rfl)] at this)
      clear hls HNEW
      go_wp2
      go_roundw
      case rel => exact ⟨k + 1, l, by omega, by go_num, hli, HN3, hq7, cg7⟩
      case measure => simp [RowKit.intOf]; omega
    have hbl0 : 0 < best.length := List.length_pos_iff.2 hb0
    have hbl1 : ((best.length : Int) == 0) = false := by
      rw [beq_eq_false_iff_ne]; omega
    have hbl2 : (best.length == 0) = false := by
      rw [beq_eq_false_iff_ne]; omega
    have HB0 := Lib.hid hb0
    clear hb0 hbl0
    cases hlb : lessN l best with
    | true =>
      have HN3 : RowKit.Hid (BestO (netsL g) g.length (k + 1) l) := Lib.hid (by have := HNEW.out; rwa [if_pos (.inr hlb)] at this)
      rw [hlb] at hls
      clear HNEW hlb
      go_wp2_with fail
      refine hls.mono ?_
      rintro e wc ⟨rfl, hd⟩
      clear hls
      have hlc := hli.drawn hd
      have hqd := hq7.trans (hd.below _)
      have cgd := (hd.cell _).trans cg7
      go_wp2_with fail
      go_roundw
      case rel => exact ⟨k + 1, l, by omega, by go_num, hlc, HN3, hqd, cgd⟩
      case measure => simp [RowKit.intOf]; omega
    | false =>
      have HN3 : RowKit.Hid (BestO (netsL g) g.length (k + 1) best) := Lib.hid (by
        have := HNEW.out
        rwa [if_neg (fun h => by
          rcases h with h | h
          · exact HB0.out h
          · rw [hlb] at h; cases h)] at this)
      rw [hlb] at hls
      clear HNEW hlb
      go_wp2_with fail
      refine hls.mono ?_
      rintro e wc ⟨rfl, hd⟩
      clear hls
      have hbd := hbest7.drawn hd
      have hqd := hq7.trans (hd.below _)
      have cgd := (hd.cell _).trans cg7
      go_wp2_with fail
      go_roundw
      case rel => exact ⟨k + 1, best, by omega, by go_num, hbd, HN3, hqd, cgd⟩
      case measure => simp [RowKit.intOf]; omega
end Go.Proofs.YthpbeiihlembnaaDoor
