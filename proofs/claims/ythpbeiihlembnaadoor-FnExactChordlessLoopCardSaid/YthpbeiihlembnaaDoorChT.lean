/- ChordlessLoop of the reference: the whole. -/
import Derived.Test.YthpbeiihlembnaaDoorChS
namespace Go.Proofs.YthpbeiihlembnaaDoor
open Go.RowKit
/-- The least loop without chords. -/
noncomputable def chF (g : List (List Int)) : List Nat := if gokB g = true then pickG (ChordN (netsL g) g.length) else []
theorem srch_done {H : List Nat} {n : Nat} (hs : ∀ x y, x < n → y < n → (H.getD x 0).testBit y = true → (H.getD y 0).testBit x = true) {best : List Nat} (h : SrchR H n (fun q => ∃ s, s < n ∧ CandC H n [s] q) [] best) : best = pickG (ChordN H n) := by
  have hall : ∀ q, ChordN H n q → best ≠ [] ∧ leN best q := fun q hq => by
    obtain ⟨q', h1, h2, h3⟩ := chord_turn hs hq
    have h4 := h1.four
    have h0 : q'.getD 0 0 < n := h1.loop.path.lt _ (getD_mem (by omega))
    obtain ⟨h5, h6⟩ := h.all q' ⟨q'.getD 0 0, h0, h1, (fun x hx => h2 x hx), by simp; omega, by
      cases q' with
      | nil => simp at h4
      | cons a t => simp⟩
    exact ⟨h5, leN_trans h6 h3⟩
  rcases h.ok with h1 | h1
  · rw [h1, pick_none]
    exact fun q hq => (hall q hq).1 h1
  · rw [pick_some ⟨h1, fun q hq => (hall q hq).2⟩]
theorem chF_len (g : List (List Int)) : (chF g).length ≤ 16 := by
  unfold chF
  split
  case isTrue hg =>
    have h := (gokB_iff.1 hg).hi
    by_cases he : ∃ q, LeastG (ChordN (netsL g) g.length) q
    · obtain ⟨q, hq⟩ := he
      rw [pick_some hq]
      have := loop_len hq.1.loop.path; omega
    · unfold pickG; rw [dif_neg he]; simp
  case isFalse => simp
theorem srchP_one {H : List Nat} {n k : Nat} (hk : k < n) : SrchP H n [k] := ⟨PathN.one hk, fun x hx => by simp at hx; simp [hx], fun i j hij hj => by simp at hj; omega⟩
set_option maxRecDepth 100000 in
set_option maxHeartbeats 8000000 in
theorem specChordlessLoop_any {S : Nat → Prop} {v : Value} {g : List (List Int)} {w : World} (hv : SlR S w v g) :
    Calls Tryd.prog 16 #[.agg #[v]] w fun e w' => ∃ u, e = .returned (.tuple #[u, .bool (decide (chF g ≠ []))]) ∧ SlI (fun b => b < w'.heap.size) w' .i64 u (natsI (chF g)) ∧ Below w.heap.size w w' := by
  have hv0 := hv
  obtain ⟨a, c, rfl⟩ := hv.slice
  have hb0 : Below w.heap.size w ((w.alloc (.cells #[.slice a g.length c] 29)).alloc (.cells #[] 2)) := ((Below.refl _ _).alloc (Nat.le_refl _) _).alloc (by simp) _
  have c0 : ((w.alloc (.cells #[.slice a g.length c] 29)).alloc (.cells #[] 2)).cell? ⟨w.heap.size, 0, none⟩ = some (.slice a g.length c) := by simp [go_sem]
  have hsize := fun (W : World) (hb : Below w.heap.size w W) => l1Size_any (hv0.below hb (Nat.le_refl _))
  have hgo := fun (W : World) (hb : Below w.heap.size w W) => specGraphOk_any _ _ _ (hv0.below hb (Nat.le_refl _))
  have emp : ∀ (w : World) (a : Option Addr), SlI (fun b => b < w.heap.size) w .i64 (.slice a 0 0) (natsI []) := fun w a => ⟨a, 0, 0, 0, rfl, by simp [natsI], fun h => by simp [natsI] at h, fun i hi => by simp [natsI] at hi⟩
  by_cases hgb : gokB g = true
  case neg =>
    have HE := Lib.hid (show chF g = [] by rw [chF, if_neg hgb])
    rw [Bool.not_eq_true] at hgb
    rw [hgb] at hgo
    clear hgb
    rw [HE.out]
    go_enter Tryd.func16, Tryd.ntmps16
    go_wp2
    go_loopw [4, 5] (fun bv sv wr => bv = .slice (some ⟨w.heap.size + 1, 0, none⟩) 0 0 ∧ sv = .int .i64 0 ∧ Below w.heap.size w wr ∧ wr.cell? ⟨w.heap.size, 0, none⟩ = some (.slice a g.length c)) (fun _ _ _ => 0)
    case atStart => exact ⟨rfl, rfl, hb0, c0⟩
    case round =>
      clear hb0 c0
      obtain ⟨rfl, rfl, hq, cg⟩ := hrel
      by_cases h0 : 0 < g.length
      · have hd : decide ((0 : Int) < (g.length : Int)) = true := by simp; omega
        go_wp2_with fail
        refine (hsize _ hq).mono ?_
        rintro e w5 ⟨rfl, hb5⟩
        have hq5 := hq.trans (hb5.mono hq.size)
        have cg5 := (hb5.cell (cell_lt cg)).trans cg
        go_wp2_with fail
        refine (hgo _ hq5).mono ?_
        rintro e w6 ⟨rfl, hb6⟩
        go_wp2
        go_ret2
        exact ⟨_, rfl, emp _ _, hq5.trans (hb6.mono hq5.size)⟩
      · have hd : decide ((0 : Int) < (g.length : Int)) = false := decide_eq_false (by omega)
        go_wp2_with fail
        refine (hsize _ hq).mono ?_
        rintro e w5 ⟨rfl, hb5⟩
        go_wp2
        go_ret2
        exact ⟨_, rfl, emp _ _, hq.trans (hb5.mono hq.size)⟩
  have hg := gokB_iff.1 hgb
  have h16 := hg.hi
  have HE := Lib.hid (show chF g = pickG (ChordN (netsL g) g.length) by rw [chF, if_pos hgb])
  rw [hgb] at hgo
  have HG := Lib.hid hg
  clear hgb
  have hse := fun (W : World) (k : Nat) (b1 : List Nat) (u bv : Value) (hb : Below w.heap.size w W) (hk : k < g.length) => l8Search_any HG.out g.length [k] b1 u bv W (by simp) (srchP_one hk) (gv := .slice a g.length c) (S := S)
  have HSE := Lib.hid hse
  have H0 := Lib.hid (show SrchR (netsL g) g.length (fun q => ∃ s, s < 0 ∧ CandC (netsL g) g.length [s] q) [] [] from SrchR.refl (.inl rfl) (fun q ⟨s, h, _⟩ => by omega))
  have HDN := Lib.hid (fun best h => srch_done (best := best) (nets_symC hg) h)
  clear hg hse
  go_enter Tryd.func16, Tryd.ntmps16
  go_wp2
  go_loopw [4, 5] (fun bv sv wr => ∃ (k : Nat) (best : List Nat), k ≤ g.length ∧ sv = .int .i64 k ∧ SlI (fun _ => True) wr .i64 bv (natsI best) ∧ RowKit.Hid (SrchR (netsL g) g.length (fun q => ∃ s, s < k ∧ CandC (netsL g) g.length [s] q) [] best) ∧ Below w.heap.size w wr ∧ wr.cell? ⟨w.heap.size, 0, none⟩ = some (.slice a g.length c)) (fun _ sv _ => g.length - (RowKit.intOf sv).toNat)
  case atStart => exact ⟨0, [], Nat.zero_le _, rfl, (emp _ _).weak (fun _ _ => trivial), H0, hb0, c0⟩
  case round =>
    clear H0 hb0 c0 emp
    obtain ⟨k, best, hk, rfl, hbest, HB, hq, cg⟩ := hrel
    obtain ⟨ba, bc, rfl⟩ := hbest.slice
    simp only [natsI_len] at hbest ⊢
    by_cases hlt : k < g.length
    case neg =>
      obtain rfl : k = g.length := by omega
      have hF := HDN.out best HB.out
      rw [← HE.out] at hF
      have HF := Lib.hid hF
      have hdb : (0 < best.length) ↔ chF g ≠ [] := by rw [← hF]; exact List.length_pos_iff
      obtain ⟨db, hdbe⟩ : ∃ db, db = decide (chF g ≠ []) := ⟨_, rfl⟩
      have hde : decide (0 < best.length) = db := by rw [hdbe, decide_eq_decide]; exact hdb
      have hde2 : decide ((0 : Int) < (best.length : Int)) = db := by rw [hdbe, decide_eq_decide, ← hdb]; omega
      have HDB := Lib.hid hdbe
      clear hF hdb hdbe
      go_wp2_with fail
      refine (hsize _ hq).mono ?_
      rintro e w5 ⟨rfl, hb5⟩
      go_wp2
      go_ret2
      rw [← HDB.out, ← HF.out]
      exact ⟨.slice ba best.length bc, rfl, (hbest.below hb5 (Nat.le_refl _)).lowS, hq.trans (hb5.mono hq.size)⟩
    go_wp2_with fail
    refine (hsize _ hq).mono ?_
    rintro e w5 ⟨rfl, hb5⟩
    have hq5 := hq.trans (hb5.mono hq.size)
    have cg5 := (hb5.cell (cell_lt cg)).trans cg
    have hbest5 := hbest.below hb5 (Nat.le_refl _)
    go_wp2_with fail
    refine (hgo _ hq5).mono ?_
    rintro e w6 ⟨rfl, hb6⟩
    have hq6 := hq5.trans (hb6.mono hq5.size)
    have cg6 := (hb6.cell (cell_lt cg5)).trans cg5
    have hbest6 := hbest5.below hb6 (Nat.le_refl _)
    clear hbest hbest5 hq hq5 cg cg5 hb5 hb6
    have hba : Below w6.heap.size w6 (w6.alloc (.cells #[.int .i64 (k : Int)] 2)) := (Below.refl _ _).alloc (Nat.le_refl _) _
    have hqa := hq6.trans (hba.mono hq6.size)
    have hbesta := hbest6.below hba (Nat.le_refl _)
    have hone : SlI (fun _ => True) (w6.alloc (.cells #[.int .i64 (k : Int)] 2)) .i64 (.slice (some ⟨w6.heap.size, 0, none⟩) 1 1) (natsI [k]) := by
      have := Own.ints (xs := [(k : Int)]) (k := .i64) (by simpa using own_new w6 w6.heap.size 2 (.int .i64 (k : Int)) (Nat.le_refl _)) (by omega)
      exact (by simpa [natsI] using this : SlI _ _ _ _ (natsI [k])).weak (fun _ _ => trivial)
    have hse := HSE.out _ k best _ _ hqa hlt HB.out.ok (hv0.below hqa (Nat.le_refl _)) hone hbesta
    clear hba
    go_wp2_with fail
    refine hse.mono ?_
    rintro e w7 ⟨x, r, rfl, hx, hr, hb7⟩
    clear hse
    have hq7 := hqa.trans (hb7.mono hqa.size)
    have cg7 := (hb7.cell (by have := cell_lt cg6; simp at *; omega)).trans ((World.cell?_alloc_some _ _ _ (by rw [cg6]; rfl)).trans cg6)
    have HN := Lib.hid (show SrchR (netsL g) g.length (fun q => ∃ s, s < k + 1 ∧ CandC (netsL g) g.length [s] q) [] r from (HB.out.trans hr).sub fun q ⟨s, hs, hc⟩ => by
      by_cases e : s = k
      · subst e; exact .inr hc
      · exact .inl ⟨s, by omega, hc⟩)
    clear hr
    go_wp2
    go_roundw
    case rel => exact ⟨k + 1, r, by omega, by go_num, hx, HN, hq7, cg7⟩
    case measure => simp [RowKit.intOf]; omega
end Go.Proofs.YthpbeiihlembnaaDoor
