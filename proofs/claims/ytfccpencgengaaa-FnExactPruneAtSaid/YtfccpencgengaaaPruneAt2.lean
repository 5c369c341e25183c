/- PruneAt of the reference and of the program; the law. -/
import Derived.Test.YtfccpencgengaaaPruneAt
import Derived.Test.YtfccpencgengaaaSets
import Derived.Test.YtfccpencgengaaaBits
namespace Go.Proofs.Ytfccpencgengaaa
open Go.RowKit
def AtP (g : List (List Int)) (s : List Int) (x : Int) (o : Option Tri) : Prop := if setOkB g s = true ∧ x ∈ s then IsP (netsL g) (maskL s) x.toNat o else o = none
theorem AtP.unique {g : List (List Int)} {s : List Int} {x : Int} {o o' : Option Tri} (h : AtP g s x o) (h' : AtP g s x o') : o = o' := by
  unfold AtP at h h'
  split at h
  · rw [if_pos (by assumption)] at h'; exact h.unique h'
  · rw [if_neg (by assumption)] at h'; rw [h, h']
theorem AtP.no {g : List (List Int)} {s : List Int} {x : Int} (h : ¬ (setOkB g s = true ∧ x ∈ s)) : AtP g s x none := by unfold AtP; rw [if_neg h]
theorem AtP.yes {g : List (List Int)} {s : List Int} {j : Nat} {o : Option Tri} (h : setOkB g s = true) (hx : (j : Int) ∈ s) (ho : IsP (netsL g) (maskL s) j o) : AtP g s (j : Int) o := by unfold AtP; rw [if_pos ⟨h, hx⟩, Int.toNat_natCast]; exact ho
/-- What a right set says: its word. -/
theorem set_word {g : List (List Int)} {s : List Int} (h : setOkB g s = true) : GOk g ∧ (∀ x ∈ s, 0 ≤ x ∧ x < g.length) ∧ bitsI (maskL s) = s ∧ maskL s < 2 ^ g.length ∧ ∀ j : Nat, (maskL s).testBit j = decide ((j : Int) ∈ s) := by
  have hgr : gokB g = true ∧ riseB s g.length = true := by simpa [setOkB] using h
  have hg := gokB_iff.1 hgr.1
  have hr := riseB_iff.1 hgr.2
  have hhi := hg.hi
  have h2 : ∀ x ∈ s, 0 ≤ x ∧ x < g.length := fun x hx => rise_ge hr x hx
  have h3 : ∀ x ∈ s, 0 ≤ x ∧ x < 32 := fun x hx => by have := h2 x hx; omega
  exact ⟨hg, h2, bitsI_maskL (rise_sorted hr) h3, maskL_lt h2, fun j => testBit_maskL (fun x hx => (h2 x hx).1) j⟩
theorem isVertex_any {S : Nat → Prop} {v : Value} {g : List (List Int)} {x : Int} {w : World} (hv : SlR S w v g) :
    Calls Try.prog 45 #[.agg #[v], .int .i64 x] w fun e w' => e = .returned (.bool (gokB g && inB x 0 ((g.length : Int) - 1))) ∧ Below w.heap.size w w' := by
  have hq0 : Below w.heap.size w (w.alloc (.cells #[v] 29)) := (Below.refl _ _).alloc (Nat.le_refl _) _
  obtain ⟨va, vc, rfl⟩ := hv.slice
  have hgo := implGraphOk_any _ _ _ (hv.below hq0 (Nat.le_refl _))
  by_cases hgg : gokB g = true
  case neg =>
    have hgg' : gokB g = false := by simpa using hgg
    rw [hgg'] at hgo ⊢
    clear hgg hgg'
    go_enter Try.func45, Try.ntmps45
    go_wp2_with (go_at_call 36; refine hgo.mono ?_; rintro e w1 ⟨rfl, hb1⟩)
    go_ret
    exact ⟨ret_bool (by simp), hq0.trans (hb1.mono hq0.size)⟩
  have h16 := (gokB_iff.1 hgg).hi
  rw [hgg] at hgo ⊢
  clear hgg
  go_enter Try.func45, Try.ntmps45
  go_wp2_with (first | (go_at_call 36; refine hgo.mono ?_; rintro e w1 ⟨rfl, hb1⟩; have cg : w1.cell? ⟨w.heap.size, 0, none⟩ = some (.slice va g.length vc) := (hb1.cell (p := ⟨w.heap.size, 0, none⟩) (by simp)).trans (by simp [go_sem])) | (go_at_call 39; refine (inRange_any x 0 ((g.length : Int) - 1) _).mono ?_; rintro e w' ⟨rfl, rfl⟩))
  go_ret
  exact ⟨ret_bool (by simp), hq0.trans (hb1.mono hq0.size)⟩
set_option maxRecDepth 100000 in
set_option maxHeartbeats 4000000 in
theorem specPruneAt_any {S S' : Nat → Prop} {v u : Value} {g : List (List Int)} {s : List Int} {x : Int} {w : World} (hv : SlR S w v g) (hu : SlI S' w .i64 u s) :
    Calls Try.prog 15 #[.agg #[v], u, .int .i64 x] w fun e w' => ∃ o : Option Tri, AtP g s x o ∧ e = .returned (.tuple #[triV (o.getD ⟨0, 0, 0⟩), .bool o.isSome]) ∧ Below w.heap.size w w' := by
  obtain ⟨va, vc, rfl⟩ := hv.slice
  have hq0 : Below w.heap.size w ((w.alloc (.cells #[.slice va g.length vc] 29)).alloc (.cells #[.int .i64 0, .int .i64 0, .int .i64 0] 38)) := ((Below.refl _ _).alloc (Nat.le_refl _) _).alloc (by simp) _
  have hgo := specGraphOk_any _ _ _ (hv.below hq0 (Nat.le_refl _))
  have hset := fun (W : World) (hb : Below w.heap.size w W) => specSetOk_any _ _ _ _ _ (hv.below hb (Nat.le_refl _)) (hu.below hb (Nat.le_refl _))
  have hhas := fun (W : World) (hb : Below w.heap.size w W) => l1Has_any _ _ x _ (hu.below hb (Nat.le_refl _))
  by_cases hgg : gokB g = true
  case neg =>
    have hgg' : gokB g = false := by simpa using hgg
    rw [hgg'] at hgo
    have HE := Lib.hid (AtP.no (g := g) (s := s) (x := x) (by simp [setOkB, hgg']))
    clear hgg hgg' hset hhas
    go_enter Try.func15, Try.ntmps15
    go_wp2_with fail
    refine hgo.mono ?_
    rintro e w1 ⟨rfl, hb1⟩
    have hq1 := hq0.trans (hb1.mono hq0.size)
    obtain ⟨c0, c1, c2, g0, g1, g2⟩ : Box3 w1 (w.heap.size + 1) (.int .i64 0) (.int .i64 0) (.int .i64 0) := Box3.below ⟨by simp [go_sem], by simp [go_sem], by simp [go_sem], by simp [go_sem], by simp [go_sem], by simp [go_sem]⟩ hb1 (Nat.le_refl _)
    go_wp2
    refine bodyPost_ret (v := .tuple #[.agg #[.int .i64 0, .int .i64 0, .int .i64 0], .bool false]) (by simp [results, Try.results15, go_sem, c0, c1, c2]) rfl ⟨none, HE.out, rfl, ?_⟩
    exact ((hq1.setCell (by simp) _).setCell (by simp) _).setCell (by simp) _
  rw [hgg] at hgo
  have hs0 : setOkB g s = setOkB g s := rfl
  go_enter Try.func15, Try.ntmps15
  go_wp2_with fail
  refine hgo.mono ?_
  rintro e w1 ⟨rfl, hb1⟩
  have hq1 := hq0.trans (hb1.mono hq0.size)
  have cg1 : w1.cell? ⟨w.heap.size, 0, none⟩ = some (.slice va g.length vc) := (hb1.cell (p := ⟨w.heap.size, 0, none⟩) (by simp <;> omega)).trans (by simp [go_sem])
  have r1 : Box3 w1 (w.heap.size + 1) (.int .i64 0) (.int .i64 0) (.int .i64 0) := Box3.below ⟨by simp [go_sem], by simp [go_sem], by simp [go_sem], by simp [go_sem], by simp [go_sem], by simp [go_sem]⟩ hb1 (Nat.le_refl _)
  go_wp2_with fail
  refine (hset _ hq1).mono ?_
  rintro e w2 ⟨rfl, hb2⟩
  have hq2 := hq1.trans (hb2.mono hq1.size)
  have cg2 := (hb2.cell (cell_lt cg1)).trans cg1
  have r2 := r1.below hb2 (Nat.le_refl _)
  have hh2 := hhas _ hq2
  clear hset hhas hgo r1 cg1
  by_cases hs : setOkB g s = true
  case neg =>
    have HE := Lib.hid (AtP.no (g := g) (s := s) (x := x) (fun h => hs h.1))
    have hs' : setOkB g s = false := by simpa using hs
    rw [hs']
    clear hs hs'
    obtain ⟨c0, c1, c2, g0, g1, g2⟩ := r2
    go_wp2
    refine bodyPost_ret (v := .tuple #[.agg #[.int .i64 0, .int .i64 0, .int .i64 0], .bool false]) (by simp [results, Try.results15, go_sem, c0, c1, c2]) rfl ⟨none, HE.out, rfl, ?_⟩
    exact ((hq2.setCell (by simp) _).setCell (by simp) _).setCell (by simp) _
  rw [hs]
  by_cases hx : x ∈ s
  case neg =>
    have HE := Lib.hid (AtP.no (g := g) (s := s) (x := x) (fun h => hx h.2))
    rw [decide_eq_false hx] at hh2
    clear hs hx
    obtain ⟨c0, c1, c2, g0, g1, g2⟩ := r2
    go_wp2_with (go_at_call 32; refine hh2.mono ?_; rintro e w' ⟨rfl, rfl⟩)
    refine bodyPost_ret (v := .tuple #[.agg #[.int .i64 0, .int .i64 0, .int .i64 0], .bool false]) (by simp [results, Try.results15, go_sem, c0, c1, c2]) rfl ⟨none, HE.out, rfl, ?_⟩
    exact ((hq2.setCell (by simp) _).setCell (by simp) _).setCell (by simp) _
  obtain ⟨hg, hge, hbm, hml, htb⟩ := set_word hs
  obtain ⟨j, rfl⟩ := Int.eq_ofNat_of_zero_le (hge x hx).1
  have htj : (maskL s).testBit j = true := by rw [htb, decide_eq_true hx]
  have HY := Lib.hid (fun o => AtP.yes (o := o) hs hx)
  have hat := l18At_any hg (hv.below hq2 (Nat.le_refl _)) (show SlI S' w2 .i64 u (bitsI (maskL s)) by rw [hbm]; exact hu.below hq2 (Nat.le_refl _)) hml htj
  rw [decide_eq_true hx] at hh2
  unfold PrP at hat
  clear hs hx htb htj hbm hge hml
  go_wp2_with (go_at_call 32; refine hh2.mono ?_; rintro e w' ⟨rfl, rfl⟩)
  refine hat.mono ?_
  rintro e w3 ⟨o, ho, rfl, hb3⟩
  have hq3 := hq2.trans (hb3.mono hq2.size)
  obtain ⟨c0, c1, c2, g0, g1, g2⟩ := r2.below hb3 (Nat.le_refl _)
  have HO := Lib.hid (HY.out o ho)
  obtain ⟨q, hqe⟩ : ∃ q, q = o.getD ⟨0, 0, 0⟩ := ⟨_, rfl⟩
  obtain ⟨b, hbe⟩ : ∃ b, b = o.isSome := ⟨_, rfl⟩
  rw [← hqe, ← hbe]
  have HQ := Lib.hid hqe; have HB := Lib.hid hbe
  clear hqe hbe hat hh2 ho r2
  obtain ⟨qa, qb, qc⟩ := q
  simp only [triV]
  go_wp2
  refine bodyPost_ret (v := .tuple #[.agg #[.int .i64 qa, .int .i64 qb, .int .i64 qc], .bool b]) (by simp [results, Try.results15, go_sem, c0, c1, c2]) rfl ⟨o, HO.out, by rw [← HQ.out, ← HB.out]; rfl, ?_⟩
  exact ((hq3.setCell (by simp) _).setCell (by simp) _).setCell (by simp) _
set_option maxRecDepth 100000 in
set_option maxHeartbeats 4000000 in
theorem implPruneAt_any {S S' : Nat → Prop} {v u : Value} {g : List (List Int)} {s : List Int} {x : Int} {w : World} (hv : SlR S w v g) (hu : SlI S' w .i64 u s) :
    Calls Try.prog 17 #[.agg #[v], u, .int .i64 x] w fun e w' => ∃ o : Option Tri, AtP g s x o ∧ e = .returned (.tuple #[triV (o.getD ⟨0, 0, 0⟩), .bool o.isSome]) ∧ Below w.heap.size w w' := by
  obtain ⟨va, vc, rfl⟩ := hv.slice
  have hq0 : Below w.heap.size w ((w.alloc (.cells #[.slice va g.length vc] 29)).alloc (.cells #[.int .i64 0, .int .i64 0, .int .i64 0] 38)) := ((Below.refl _ _).alloc (Nat.le_refl _) _).alloc (by simp) _
  have hiv := isVertex_any (x := x) (hv.below hq0 (Nat.le_refl _))
  have hset := fun (W : World) (hb : Below w.heap.size w W) => implSetOk_any _ _ _ _ _ (hv.below hb (Nat.le_refl _)) (hu.below hb (Nat.le_refl _))
  have hin : ∀ (h : setOkB g s = true) (hx : x ∈ s), (gokB g && inB x 0 ((g.length : Int) - 1)) = true := fun h hx => by
    obtain ⟨hg, hge, -⟩ := set_word h
    have h2 := hge x hx
    rw [gokB_iff.2 hg]
    simp only [inB, Bool.true_and, Bool.and_eq_true, decide_eq_true_eq]; omega
  have HIN := Lib.hid hin
  clear hin
  go_enter Try.func17, Try.ntmps17
  go_wp2_with fail
  refine hiv.mono ?_
  rintro e w1 ⟨rfl, hb1⟩
  have hq1 := hq0.trans (hb1.mono hq0.size)
  have cg1 : w1.cell? ⟨w.heap.size, 0, none⟩ = some (.slice va g.length vc) := (hb1.cell (p := ⟨w.heap.size, 0, none⟩) (by simp <;> omega)).trans (by simp [go_sem])
  have r1 : Box3 w1 (w.heap.size + 1) (.int .i64 0) (.int .i64 0) (.int .i64 0) := Box3.below ⟨by simp [go_sem], by simp [go_sem], by simp [go_sem], by simp [go_sem], by simp [go_sem], by simp [go_sem]⟩ hb1 (Nat.le_refl _)
  by_cases hvx : (gokB g && inB x 0 ((g.length : Int) - 1)) = true
  case neg =>
    have HE := Lib.hid (AtP.no (g := g) (s := s) (x := x) (fun h => hvx (HIN.out h.1 h.2)))
    rw [Bool.not_eq_true] at hvx
    rw [hvx]
    obtain ⟨c0, c1, c2, g0, g1, g2⟩ := r1
    clear hvx hset hiv
    go_wp2
    refine bodyPost_ret (v := .tuple #[.agg #[.int .i64 0, .int .i64 0, .int .i64 0], .bool false]) (by simp [results, Try.results17, go_sem, c0, c1, c2]) rfl ⟨none, HE.out, rfl, ?_⟩
    exact ((hq1.setCell (by simp) _).setCell (by simp) _).setCell (by simp) _
  rw [hvx]
  have hx0 : 0 ≤ x ∧ x < g.length := by
    simp only [inB, Bool.and_eq_true, decide_eq_true_eq] at hvx; omega
  have HX0 := Lib.hid hx0
  clear hvx hiv hx0
  go_wp2_with fail
  refine (hset _ hq1).mono ?_
  rintro e w2 ⟨rfl, hb2⟩
  have hq2 := hq1.trans (hb2.mono hq1.size)
  have cg2 := (hb2.cell (cell_lt cg1)).trans cg1
  have r2 := r1.below hb2 (Nat.le_refl _)
  clear hset r1 cg1
  by_cases hs : setOkB g s = true
  case neg =>
    have HE := Lib.hid (AtP.no (g := g) (s := s) (x := x) (fun h => hs h.1))
    have hs' : setOkB g s = false := by simpa using hs
    rw [hs']
    clear hs hs'
    obtain ⟨c0, c1, c2, g0, g1, g2⟩ := r2
    go_wp2
    refine bodyPost_ret (v := .tuple #[.agg #[.int .i64 0, .int .i64 0, .int .i64 0], .bool false]) (by simp [results, Try.results17, go_sem, c0, c1, c2]) rfl ⟨none, HE.out, rfl, ?_⟩
    exact ((hq2.setCell (by simp) _).setCell (by simp) _).setCell (by simp) _
  rw [hs]
  obtain ⟨hg, hge, hbm, hml, htb⟩ := set_word hs
  have h16 := hg.hi
  have hge32 : ∀ x ∈ s, 0 ≤ x ∧ x < 32 := fun x hx => by have := hge x hx; omega
  have hm32 := maskL_lt32 hge32
  have hmask := fun (W : World) (hb : Below w.heap.size w W) => maskOf_any _ _ _ (hu.below hb (Nat.le_refl _)) hge32
  have hx0 := HX0.out
  clear HX0
  obtain ⟨j, rfl⟩ := Int.eq_ofNat_of_zero_le hx0.1
  have hhas := has_any (maskL s) j w2 hm32 (by omega)
  rw [htb] at hhas
  by_cases hx : (j : Int) ∈ s
  case neg =>
    have HE := Lib.hid (AtP.no (g := g) (s := s) (x := (j : Int)) (fun h => hx h.2))
    rw [decide_eq_false hx] at hhas
    clear hs hx htb hbm hge hml
    obtain ⟨c0, c1, c2, g0, g1, g2⟩ := r2
    go_wp2_with (first | (go_at_call 47; refine (hmask _ hq2).mono ?_; rintro e w' ⟨rfl, rfl⟩) | (go_at_call 40; refine hhas.mono ?_; rintro e w' ⟨rfl, rfl⟩))
    refine bodyPost_ret (v := .tuple #[.agg #[.int .i64 0, .int .i64 0, .int .i64 0], .bool false]) (by simp [results, Try.results17, go_sem, c0, c1, c2]) rfl ⟨none, HE.out, rfl, ?_⟩
    exact ((hq2.setCell (by simp) _).setCell (by simp) _).setCell (by simp) _
  have htj : (maskL s).testBit j = true := by rw [htb, decide_eq_true hx]
  have HY := Lib.hid (fun o => AtP.yes (o := o) hs hx)
  have HI : PrI (netsL g) (maskL s) g.length := { PrI.start hg with left := hml }
  have HPI := Lib.hid HI
  have HTJ := Lib.hid htj
  rw [decide_eq_true hx] at hhas
  clear hs hx htb htj hbm hge hml HI
  go_wp2_with (first | (go_at_call 47; refine (hmask _ hq2).mono ?_; rintro e w' ⟨rfl, rfl⟩) | (go_at_call 40; refine hhas.mono ?_; rintro e w' ⟨rfl, rfl⟩))
  refine (netsOf_any _ _ _ (hv.below hq2 (Nat.le_refl _)) hg).mono ?_
  rintro e w3 ⟨nv, rfl, hn3, hb3⟩
  have hq3 := hq2.trans (hb3.mono hq2.size)
  have r3 := r2.below hb3 (Nat.le_refl _)
  obtain ⟨ng, nc, rfl⟩ := own_some hn3 (by have := hg.lo; omega)
  have hni := Own.ints (xs := natsI (netsL g)) hn3 (by omega)
  have hpr := pruneOf_any HPI.out hni (by omega) HTJ.out
  unfold PrP at hpr
  clear hni r2 hhas
  go_wp2_with (go_at_call 47; refine (hmask _ hq3).mono ?_; rintro e w' ⟨rfl, rfl⟩)
  refine hpr.mono ?_
  rintro e w4 ⟨o, ho, rfl, hb4⟩
  have hq4 := hq3.trans (hb4.mono hq3.size)
  obtain ⟨c0, c1, c2, g0, g1, g2⟩ := r3.below hb4 (Nat.le_refl _)
  have HO := Lib.hid (HY.out o ho)
  obtain ⟨q, hqe⟩ : ∃ q, q = o.getD ⟨0, 0, 0⟩ := ⟨_, rfl⟩
  obtain ⟨b, hbe⟩ : ∃ b, b = o.isSome := ⟨_, rfl⟩
  rw [← hqe, ← hbe]
  have HQ := Lib.hid hqe; have HB := Lib.hid hbe
  clear hqe hbe hpr ho r3 hmask
  obtain ⟨qa, qb, qc⟩ := q
  simp only [triV]
  go_wp2
  refine bodyPost_ret (v := .tuple #[.agg #[.int .i64 qa, .int .i64 qb, .int .i64 qc], .bool b]) (by simp [results, Try.results17, go_sem, c0, c1, c2]) rfl ⟨o, HO.out, by rw [← HQ.out, ← HB.out]; rfl, ?_⟩
  exact ((hq4.setCell (by simp) _).setCell (by simp) _).setCell (by simp) _
end Go.Proofs.Ytfccpencgengaaa
