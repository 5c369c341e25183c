/- Widths: WidthFrom, TreeWidth and WidthAtMost of the reference. -/
import Derived.Test.YtfkdhlmigbkefaaDoorWide4
namespace Go.Proofs.YtfkdhlmigbkefaaDoor
open Go.RowKit
theorem SlR.lowW {S : Nat → Prop} {w : World} {v : Value} {g : List (List Int)} (h : SlR S w v g) (h0 : 0 < g.length) : SlR (fun b => b < w.heap.size) w v g := by
  obtain ⟨a, b, off, cap, f, rfl, hl, ha, hc⟩ := h
  refine ⟨a, b, off, cap, f, rfl, hl, fun h0 => ⟨(ha h0).1, cell_lt (hc 0 h0).1⟩, fun i hi => ⟨(hc i hi).1, ?_⟩⟩
  obtain ⟨a2, b2, off2, cap2, e2, hl2, ha2, hc2⟩ := (hc i hi).2
  exact ⟨a2, b2, off2, cap2, e2, hl2, fun h => ⟨(ha2 h).1, cell_lt (hc2 0 h)⟩, hc2⟩
theorem SlI.nilW (S : Nat → Prop) (w : World) (k : IntKind) (a : Option Addr) : SlI S w k (.slice a 0 0) [] := ⟨a, 0, 0, 0, rfl, by simp, fun h => by simp at h, fun i hi => by simp at hi⟩
noncomputable def widthI (g : List (List Int)) (s : List Int) : Int := if (wideB g && riseB s g.length) = true then (widthN (netsL g) g.length (maskL s) : Int) else -1
theorem rise_nil (n : Int) (h : 0 ≤ n) : riseB [] n = true := by
  apply riseB_true
  intro i hi
  exact absurd hi (by simp)
set_option maxRecDepth 100000 in
set_option maxHeartbeats 4000000 in
theorem specWidthFrom_any {S S' : Nat → Prop} {v u : Value} {g : List (List Int)} {s : List Int} {w : World} (hv : SlR S w v g) (hu : SlI S' w .i64 u s) :
    Calls Tryd.prog 13 #[.agg #[v], u] w fun e w' => e = .returned (.int .i64 (widthI g s)) ∧ Below w.heap.size w w' := by
  have hq0 : Below w.heap.size w (w.alloc (.cells #[v] 27)) := (Below.refl _ _).alloc (Nat.le_refl _) _
  obtain ⟨va, vc, rfl⟩ := hv.slice
  have hwi := l10Wide_any (hv.below hq0 (Nat.le_refl _))
  by_cases hw : wideB g = true
  case neg =>
    have hw' : wideB g = false := by simpa using hw
    rw [hw'] at hwi
    have HE := Lib.hid (show widthI g s = -1 by simp [widthI, hw'])
    clear hw hw'
    go_enter Tryd.func13, Tryd.ntmps13
    go_wp2_with fail
    refine hwi.mono ?_
    rintro e w1 ⟨rfl, hb1⟩
    go_wp2
    go_ret
    exact ⟨ret_int HE.out.symm, hq0.trans (hb1.mono hq0.size)⟩
  rw [hw] at hwi
  have hgw : gokB g = true ∧ g.length ≤ 10 := by simpa [wideB] using hw
  have hg := gokB_iff.1 hgw.1
  have h10 := hgw.2
  have h0 : 0 < g.length := by have := hg.lo; omega
  have hset := fun (W : World) (hb : Below w.heap.size w W) => l1Set_any _ _ (g.length : Int) _ (hu.below hb (Nat.le_refl _)) (by omega) (by omega)
  have hsz := fun (W : World) (hb : Below w.heap.size w W) => wSize_any (hv.below hb (Nat.le_refl _))
  have hvl := hv.lowW h0
  clear hgw
  go_enter Tryd.func13, Tryd.ntmps13
  go_wp2_with fail
  refine hwi.mono ?_
  rintro e w1 ⟨rfl, hb1⟩
  have hq1 := hq0.trans (hb1.mono hq0.size)
  have cg1 : w1.cell? ⟨w.heap.size, 0, none⟩ = some (.slice va g.length vc) := (hb1.cell (p := ⟨w.heap.size, 0, none⟩) (by simp)).trans (by simp [go_sem])
  clear hwi hq0 hb1
  go_wp2_with fail
  refine (hsz _ hq1).mono ?_
  rintro e w2 ⟨rfl, hb2⟩
  have hq2 := hq1.trans (hb2.mono hq1.size)
  have cg2 := (hb2.cell (cell_lt cg1)).trans cg1
  clear hsz hq1 cg1 hb2
  go_wp2_with fail
  refine (hset _ hq2).mono ?_
  rintro e w3 ⟨rfl, hd3⟩
  have hq3 := hq2.trans ((hd3.below _).mono hq2.size)
  have cg3 := (hd3.cell ⟨w.heap.size, 0, none⟩).trans cg2
  clear hset hq2 cg2 hd3
  by_cases hr : riseB s g.length = true
  case neg =>
    have hr' : riseB s g.length = false := by simpa using hr
    have HE := Lib.hid (show widthI g s = -1 by simp [widthI, hr'])
    rw [hr']
    clear hr hr'
    go_wp2
    go_ret
    exact ⟨ret_int HE.out.symm, hq3⟩
  have HE := Lib.hid (show widthI g s = (widthN (netsL g) g.length (maskL s) : Int) by simp [widthI, hw, hr])
  rw [hr]
  have hri := riseB_iff.1 hr
  have hge : ∀ x ∈ s, 0 ≤ x ∧ x < g.length := fun x hx => rise_ge hri x hx
  have hml : maskL s < 2 ^ g.length := maskL_lt hge
  have HML := Lib.hid hml
  obtain ⟨N, hN⟩ : ∃ N, bit g.length = N := ⟨_, rfl⟩
  have HN := Lib.hid hN
  have hK : Known (netsL g) g.length (fun _ => -1) := fun c _ => .inl rfl
  have HK := Lib.hid hK
  have hmarks := fun (W : World) (hb : Below w.heap.size w W) => l10Marks_any (hv.below hb (Nat.le_refl _)) (hu.below hb (Nat.le_refl _)) hge h10 h0
  have htab := fun (W : World) (hb : Below w.heap.size w W) => l10Table_any (hv.below hb (Nat.le_refl _)) HN.out h10
  clear hr hri hml hN hK hw
  go_wp2
  refine wp_region_held_drew (S := (fun w' => w'.cell? ⟨w.heap.size, 0, none⟩ = some (.slice va g.length vc))) (by kernel_rfl) ?_ (fun hHeld => ?_)
  · first | exact cg3 | exact cg | assumption
  have hqc := hq3.drew
  generalize w3.drew = wd at hqc hHeld ⊢
  have cg := hHeld
  refine wpAnyH_take (i := 0) (v := ?v1) (by simp only [List.getElem?_toArray, List.getElem?_cons_zero]; exact rfl) (by kernel_rfl) (by kernel_rfl) (by kernel_rfl) (by intro _ _ _ h; exact h) (Or.inl ⟨by rfl, ?y1⟩) hHeld ?_
  case y1 => (intro w hSw; (try dsimp only at hSw); go_simp; try (with_reducible rfl))
  try simp only [Act.put, List.setIfInBounds_toArray, List.set_cons_zero, List.set_cons_succ]
  refine wpAnyH_take (i := 1) (v := ?v2) (by simp only [List.getElem?_toArray, List.getElem?_cons_succ, List.getElem?_cons_zero]; exact rfl) (by kernel_rfl) (by kernel_rfl) (by kernel_rfl) (by intro _ _ _ h; exact h) (Or.inl ⟨by rfl, ?y2⟩) hHeld ?_
  case y2 => (intro w hSw; (try dsimp only at hSw); go_simp; try (with_reducible rfl))
  try simp only [Act.put, List.setIfInBounds_toArray, List.set_cons_zero, List.set_cons_succ]
  refine wpAnyH_take (i := 2) (v := ?v3) (by simp only [List.getElem?_toArray, List.getElem?_cons_succ, List.getElem?_cons_zero]; exact rfl) (by kernel_rfl) (by kernel_rfl) (by kernel_rfl) (by intro _ _ _ h; exact h) (Or.inl ⟨by rfl, ?y3⟩) hHeld ?_
  case y3 => (intro w hSw; (try dsimp only at hSw); go_simp; try (with_reducible rfl))
  try simp only [Act.put, List.setIfInBounds_toArray, List.set_cons_zero, List.set_cons_succ]
  refine wpAnyH_take (i := 4) (v := ?v4) (by simp only [List.getElem?_toArray, List.getElem?_cons_succ, List.getElem?_cons_zero]; exact rfl) (by kernel_rfl) (by kernel_rfl) (by kernel_rfl) (by intro _ _ _ h; exact h) (Or.inl ⟨by rfl, ?y4⟩) hHeld ?_
  case y4 => (intro w hSw; (try dsimp only at hSw); go_simp; try (with_reducible rfl))
  try simp only [Act.put, List.setIfInBounds_toArray, List.set_cons_zero, List.set_cons_succ]
  refine wpAnyH_ready (rs := [3]) (by kernel_rfl) (by simp) ?_
  refine AllReadyH.cons (by simp only [List.getElem?_toArray, List.getElem?_cons_succ, List.getElem?_cons_zero]; exact rfl) (fun K hK => ?_) AllReadyH.nil
  go_simp
  refine (hmarks _ hqc).mono ?_
  rintro e wn ⟨gb, rfl, hgb, hm, hbn⟩
  have hgb : w.heap.size < gb := Nat.lt_of_lt_of_le (cell_lt cg) hgb
  have hgl := hm.lt h0
  have hqc := hqc.trans (hbn.mono hqc.size)
  have cg := (hbn.cell (cell_lt cg)).trans cg
  obtain ⟨wd, rfl⟩ : ∃ wx : World, wx = wn := ⟨_, rfl⟩
  try dsimp only
  refine hK.out _ _ ?h6 (fun hHeld => ?_)
  case h6 => first | exact cg3 | exact cg | assumption
  clear hK K
  try simp only [Act.put, List.setIfInBounds_toArray, List.set_cons_zero, List.set_cons_succ]
  refine wpAnyH_ready (rs := [5]) (by kernel_rfl) (by simp) ?_
  refine AllReadyH.cons (by simp only [List.getElem?_toArray, List.getElem?_cons_succ, List.getElem?_cons_zero]; exact rfl) (fun K hK => ?_) AllReadyH.nil
  go_simp
  refine (htab _ hqc).mono ?_
  rintro e wn ⟨kb, rfl, hkb, ht, hbn⟩
  have hm := hm.below hbn (Nat.le_refl _)
  have hne : gb ≠ kb := (by omega)
  have hkb : w.heap.size < kb := Nat.lt_of_lt_of_le (cell_lt cg) hkb
  have hqc := hqc.trans (hbn.mono hqc.size)
  have cg := (hbn.cell (cell_lt cg)).trans cg
  obtain ⟨wd, rfl⟩ : ∃ wx : World, wx = wn := ⟨_, rfl⟩
  try dsimp only
  refine hK.out _ _ ?h8 (fun hHeld => ?_)
  case h8 => first | exact cg3 | exact cg | assumption
  clear hK K
  try simp only [Act.put, List.setIfInBounds_toArray, List.set_cons_zero, List.set_cons_succ]
  refine wpAnyH_ready (rs := [6]) (by kernel_rfl) (by simp) ?_
  refine AllReadyH.cons (by simp only [List.getElem?_toArray, List.getElem?_cons_succ, List.getElem?_cons_zero]; exact rfl) (fun K hK => ?_) AllReadyH.nil
  go_simp
  refine (l10From_any hg h10 HN.out _ _ _ gb kb _ _ rfl HML.out hne ((hvl.below hqc (Nat.le_refl _)).weak (fun b (hb : b < w.heap.size) => ⟨by omega, by omega, Nat.lt_of_lt_of_le hb hqc.size⟩)) hm ht HK.out).mono ?_
  rintro e wn ⟨rfl, -, -, hkk⟩
  have hqf := hkk.below hqc hqc.size (Nat.le_of_lt hgb) (Nat.le_of_lt hkb)
  have cg := hkk.cell cg (by omega) (by omega)
  obtain ⟨wd, rfl⟩ : ∃ wx : World, wx = wn := ⟨_, rfl⟩
  try dsimp only
  refine hK.out _ _ ?h10 (fun hHeld => ?_)
  case h10 => first | exact cg3 | exact cg | assumption
  clear hK K
  try simp only [Act.put, List.setIfInBounds_toArray, List.set_cons_zero, List.set_cons_succ]
  refine wpAnyH_take (i := 7) (v := ?v11) (by simp only [List.getElem?_toArray, List.getElem?_cons_succ, List.getElem?_cons_zero]; exact rfl) (by kernel_rfl) (by kernel_rfl) (by kernel_rfl) (by intro _ _ _ h; exact h) (Or.inl ⟨by rfl, ?y11⟩) hHeld ?_
  case y11 => (intro w hSw; (try dsimp only at hSw); go_simp; try (with_reducible rfl))
  try simp only [Act.put, List.setIfInBounds_toArray, List.set_cons_zero, List.set_cons_succ]
  refine wpAnyH_done (by kernel_rfl) ?_ _
  all_goals
    go_wp2
    go_ret
    exact ⟨ret_int HE.out.symm, hqf⟩
theorem specTreeWidth_any {S : Nat → Prop} {v : Value} {g : List (List Int)} {w : World} (hv : SlR S w v g) :
    Calls Tryd.prog 9 #[.agg #[v]] w fun e w' => e = .returned (.int .i64 (widthI g [])) ∧ Below w.heap.size w w' := by
  have hq0 : Below w.heap.size w ((w.alloc (.cells #[v] 27)).alloc (.cells #[] 2)) := ((Below.refl _ _).alloc (Nat.le_refl _) _).alloc (by simp) _
  obtain ⟨va, vc, rfl⟩ := hv.slice
  have hwf := specWidthFrom_any (hv.below hq0 (Nat.le_refl _)) (SlI.nilW (fun _ => True) _ .i64 (some ⟨w.heap.size + 1, 0, none⟩))
  go_enter Tryd.func9, Tryd.ntmps9
  go_wp2_with fail
  refine hwf.mono ?_
  rintro e w1 ⟨rfl, hb1⟩
  go_wp2
  go_ret
  exact ⟨rfl, hq0.trans (hb1.mono hq0.size)⟩
noncomputable def mostB (g : List (List Int)) (k : Int) : Bool := wideB g && decide (widthI g [] ≤ k)
theorem specWidthAtMost_any {S : Nat → Prop} {v : Value} {g : List (List Int)} {k : Int} {w : World} (hv : SlR S w v g) :
    Calls Tryd.prog 17 #[.agg #[v], .int .i64 k] w fun e w' => e = .returned (.bool (mostB g k)) ∧ Below w.heap.size w w' := by
  have hq0 : Below w.heap.size w (w.alloc (.cells #[v] 27)) := (Below.refl _ _).alloc (Nat.le_refl _) _
  obtain ⟨va, vc, rfl⟩ := hv.slice
  have hwi := l10Wide_any (hv.below hq0 (Nat.le_refl _))
  have htw := fun (W : World) (hb : Below w.heap.size w W) => specTreeWidth_any (hv.below hb (Nat.le_refl _))
  have HE := Lib.hid (show mostB g k = (wideB g && decide (widthI g [] ≤ k)) from rfl)
  generalize widthI g [] = x at htw HE
  generalize wideB g = y at hwi HE
  cases y
  · go_enter Tryd.func17, Tryd.ntmps17
    go_wp2_with fail
    refine hwi.mono ?_
    rintro e w1 ⟨rfl, hb1⟩
    go_wp2
    go_ret
    exact ⟨ret_bool (by rw [HE.out]; rfl), hq0.trans (hb1.mono hq0.size)⟩
  · go_enter Tryd.func17, Tryd.ntmps17
    go_wp2_with fail
    refine hwi.mono ?_
    rintro e w1 ⟨rfl, hb1⟩
    have hq1 := hq0.trans (hb1.mono hq0.size)
    have cg1 : w1.cell? ⟨w.heap.size, 0, none⟩ = some (.slice va g.length vc) := (hb1.cell (p := ⟨w.heap.size, 0, none⟩) (by simp)).trans (by simp [go_sem])
    clear hwi
    go_wp2_with fail
    refine (htw _ hq1).mono ?_
    rintro e w2 ⟨rfl, hb2⟩
    clear htw
    go_wp2
    go_ret
    exact ⟨ret_bool (by rw [HE.out]; first | rfl | simp), hq1.trans (hb2.mono hq1.size)⟩
end Go.Proofs.YtfkdhlmigbkefaaDoor
