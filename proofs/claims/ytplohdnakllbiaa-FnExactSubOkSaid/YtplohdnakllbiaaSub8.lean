/- The law of SubOk. -/
import Derived.Test.YtplohdnakllbiaaSub6
import Derived.Test.YtplohdnakllbiaaSub7
import Derived.Test.YtplohdnakllbiaaMark3
namespace Go.Proofs.Ytplohdnakllbiaa
open Go.RowKit
set_option maxHeartbeats 4000000 in
theorem szSub_any {S1 S2 : Nat → Prop} {hv pv : Value} {k : Int} {xs : List Int} {ps : List (List Int)} {left : Int} {w : World} (hh : SlI S1 w .i64 hv xs) (hp : SlR S2 w pv ps) (h0 : 0 ≤ left) (h1 : left ≤ 1048576) :
    Calls Try.prog 7 #[.agg #[.int .i64 k, hv, pv], .int .i64 left] w (SzPost ((xs.length : Int) ≤ left ∧ SmallR ps left) left w) := by
  obtain ⟨ha, hc, rfl⟩ := hh.slice
  obtain ⟨pa, pc, rfl⟩ := hp.slice
  have hb : Below w.heap.size w (w.alloc (.cells #[.int .i64 k, .slice ha xs.length hc, .slice pa ps.length pc] 27)) := (Below.refl _ _).alloc (Nat.le_refl _) _
  go_enter Try.func7, Try.ntmps7
  go_wp2_with fail
  refine (szInt64S_any _ _ _ _ (hh.below hb (Nat.le_refl _)) h0 h1).mono ?_
  rintro e w1 ⟨r1, rfl, hr1, hs1, hm1, hb1⟩
  have hq1 := hb.trans (hb1.mono hb.size)
  have c1 : w1.cell? ⟨w.heap.size, 2, none⟩ = some (.slice pa ps.length pc) := (hb1.cell (p := ⟨w.heap.size, 2, none⟩) (by simp)).trans (by simp [go_sem])
  by_cases hn : r1 < 0
  · go_wp2
    go_ret
    exact ⟨-1, rfl, by omega, by omega, fun h => by omega, hq1⟩
  go_wp2_with fail
  refine (szInt64SS_any _ _ _ _ (hp.below hq1 (Nat.le_refl _)) (by omega) (by omega)).mono ?_
  rintro e w2 ⟨r2, rfl, hr2, hs2, hm2, hb2⟩
  have hq2 := hq1.trans (hb2.mono hq1.size)
  by_cases hn2 : r2 < 0
  · go_wp2
    go_ret
    exact ⟨-1, rfl, by omega, by omega, fun h => by omega, hq2⟩
  go_wp2
  go_ret
  exact ⟨r2, rfl, by omega, by omega, fun h => ⟨hm1 (by omega), smallR_mono (hm2 (by omega)) (by omega)⟩, hq2⟩
/-- A struct of a kind, hubs and paths, just made. -/
def NewSub (B : Nat) (w : World) (u : Value) (k : Int) (xs : List Int) (ps : List (List Int)) : Prop :=
  ∃ a1 c1 a2 c2, u = .agg #[.int .i64 k, .slice a1 xs.length c1, .slice a2 ps.length c2] ∧ SlI (fun b => B ≤ b) w .i64 (.slice a1 xs.length c1) xs ∧ SlR (fun b => B ≤ b) w (.slice a2 ps.length c2) ps
set_option maxHeartbeats 8000000 in
theorem toSub_any {S1 S2 : Nat → Prop} {hv pv : Value} {k : Int} {xs : List Int} {ps : List (List Int)} {w : World} (hh : SlI S1 w .i64 hv xs) (hp : SlR S2 w pv ps) (hx : xs.length ≤ 1048576) (hy : SmallR ps 1048576) :
    Calls Try.prog 10 #[.agg #[.int .i64 k, hv, pv]] w fun e w' => ∃ u, e = .returned u ∧ NewSub w.heap.size w' u k xs ps ∧ Below w.heap.size w w' := by
  obtain ⟨ha, hc, rfl⟩ := hh.slice
  obtain ⟨pa, pc, rfl⟩ := hp.slice
  have hb : Below w.heap.size w (((w.alloc (.cells #[.int .i64 k, .slice ha xs.length hc, .slice pa ps.length pc] 27)).alloc (.cells #[.int .i64 0, .slice none 0 0, .slice none 0 0] 33)).alloc (.cells #[.int .i64 k, .slice none 0 0, .slice none 0 0] 33)) :=
    (((Below.refl _ _).alloc (Nat.le_refl _) _).alloc (by simp) _).alloc (by simp; omega) _
  go_enter Try.func10, Try.ntmps10
  go_wp2_with fail
  refine (toInt64S_any _ _ _ (hh.below hb (Nat.le_refl _)) hx).mono ?_
  rintro e w1 ⟨u1, rfl, hu1, hb1⟩
  have hu1' := Own.ints hu1 (by omega)
  have hs1 := hb1.size
  simp at hs1
  have hu1n := fun b hb => (hu1.lt b hb).1
  obtain ⟨a1, c1, rfl⟩ := hu1.isSlice
  have z0 : w1.cell? ⟨w.heap.size, 2, none⟩ = some (.slice pa ps.length pc) := (hb1.cell (p := ⟨w.heap.size, 2, none⟩) (by simp; omega)).trans (by simp [go_sem])
  have z1 : w1.cell? ⟨w.heap.size + 2, 0, none⟩ = some (.int .i64 k) := (hb1.cell (p := ⟨w.heap.size + 2, 0, none⟩) (by simp)).trans (by simp [go_sem])
  have z2 : w1.cell? ⟨w.heap.size + 2, 1, none⟩ = some (.slice none 0 0) := (hb1.cell (p := ⟨w.heap.size + 2, 1, none⟩) (by simp)).trans (by simp [go_sem])
  have z3 : w1.cell? ⟨w.heap.size + 2, 2, none⟩ = some (.slice none 0 0) := (hb1.cell (p := ⟨w.heap.size + 2, 2, none⟩) (by simp)).trans (by simp [go_sem])
  have y1 : w1.cell? ⟨w.heap.size + 1, 0, none⟩ = some (.int .i64 0) := (hb1.cell (p := ⟨w.heap.size + 1, 0, none⟩) (by simp)).trans (by simp [go_sem])
  have y2 : w1.cell? ⟨w.heap.size + 1, 1, none⟩ = some (.slice none 0 0) := (hb1.cell (p := ⟨w.heap.size + 1, 1, none⟩) (by simp)).trans (by simp [go_sem])
  have y3 : w1.cell? ⟨w.heap.size + 1, 2, none⟩ = some (.slice none 0 0) := (hb1.cell (p := ⟨w.heap.size + 1, 2, none⟩) (by simp)).trans (by simp [go_sem])
  have f2 : w1.frozen? ⟨w.heap.size + 2, 1, none⟩ = false := (hb1.frozen (p := ⟨w.heap.size + 2, 1, none⟩) (by simp)).trans (by simp [go_sem])
  have f3 : w1.frozen? ⟨w.heap.size + 2, 2, none⟩ = false := (hb1.frozen (p := ⟨w.heap.size + 2, 2, none⟩) (by simp)).trans (by simp [go_sem])
  have g1 : w1.frozen? ⟨w.heap.size + 1, 0, none⟩ = false := (hb1.frozen (p := ⟨w.heap.size + 1, 0, none⟩) (by simp)).trans (by simp [go_sem])
  have g2 : w1.frozen? ⟨w.heap.size + 1, 1, none⟩ = false := (hb1.frozen (p := ⟨w.heap.size + 1, 1, none⟩) (by simp)).trans (by simp [go_sem])
  have g3 : w1.frozen? ⟨w.heap.size + 1, 2, none⟩ = false := (hb1.frozen (p := ⟨w.heap.size + 1, 2, none⟩) (by simp)).trans (by simp [go_sem])
  have hq1 := hb.trans (hb1.mono hb.size)
  have hq1s := hq1.setCell (p := ⟨w.heap.size + 2, 1, none⟩) (by simp) (.slice a1 xs.length c1)
  go_wp2_with fail
  refine (toInt64SS_any _ _ _ (hp.below hq1s (Nat.le_refl _)) hy).mono ?_
  rintro e w2 ⟨u2, rfl, hu2, hb2⟩
  have hs2 := hb2.size
  simp at hs2
  have z1' : w2.cell? ⟨w.heap.size + 2, 0, none⟩ = some (.int .i64 k) := (hb2.cell (p := ⟨w.heap.size + 2, 0, none⟩) (by simp; omega)).trans (by simp [go_sem, *])
  have z2' : w2.cell? ⟨w.heap.size + 2, 1, none⟩ = some (.slice a1 xs.length c1) := (hb2.cell (p := ⟨w.heap.size + 2, 1, none⟩) (by simp; omega)).trans (by simp [go_sem, *])
  have z3' : w2.cell? ⟨w.heap.size + 2, 2, none⟩ = some (.slice none 0 0) := (hb2.cell (p := ⟨w.heap.size + 2, 2, none⟩) (by simp; omega)).trans (by simp [go_sem, *])
  have y1' : w2.cell? ⟨w.heap.size + 1, 0, none⟩ = some (.int .i64 0) := (hb2.cell (p := ⟨w.heap.size + 1, 0, none⟩) (by simp; omega)).trans (by simp [go_sem, *])
  have y2' : w2.cell? ⟨w.heap.size + 1, 1, none⟩ = some (.slice none 0 0) := (hb2.cell (p := ⟨w.heap.size + 1, 1, none⟩) (by simp; omega)).trans (by simp [go_sem, *])
  have y3' : w2.cell? ⟨w.heap.size + 1, 2, none⟩ = some (.slice none 0 0) := (hb2.cell (p := ⟨w.heap.size + 1, 2, none⟩) (by simp; omega)).trans (by simp [go_sem, *])
  have f3' : w2.frozen? ⟨w.heap.size + 2, 2, none⟩ = false := (hb2.frozen (p := ⟨w.heap.size + 2, 2, none⟩) (by simp; omega)).trans (by simp [go_sem, *])
  have g1' : w2.frozen? ⟨w.heap.size + 1, 0, none⟩ = false := (hb2.frozen (p := ⟨w.heap.size + 1, 0, none⟩) (by simp; omega)).trans (by simp [go_sem, *])
  have g2' : w2.frozen? ⟨w.heap.size + 1, 1, none⟩ = false := (hb2.frozen (p := ⟨w.heap.size + 1, 1, none⟩) (by simp; omega)).trans (by simp [go_sem, *])
  have g3' : w2.frozen? ⟨w.heap.size + 1, 2, none⟩ = false := (hb2.frozen (p := ⟨w.heap.size + 1, 2, none⟩) (by simp; omega)).trans (by simp [go_sem, *])
  have hu1b : SlI (fun b => w.heap.size + 3 ≤ b ∧ b < w1.heap.size) w1 .i64 (.slice a1 xs.length c1) xs := hu1'.weak (fun b h => ⟨by have := hu1n b h; simp at this; omega, (hu1.lt b h).2⟩)
  have hu1c := (hu1b.keep (w' := w1.setCell ⟨w.heap.size + 2, 1, none⟩ (.slice a1 xs.length c1)) (fun b h => Below.heap_setCell _ _ _ _ (by simp; omega))).below hb2 (Nat.le_refl _)
  have hu2b : SlR (fun b => w.heap.size + 3 ≤ b) w2 u2 ps := hu2.weak (fun b h => by simp at h; omega)
  have hq2 := hq1s.trans (hb2.mono hq1s.size)
  obtain ⟨a2, c2, rfl⟩ := hu2.slice
  clear z1 z2 z3 y1 y2 y3 f2 f3 g1 g2 g3 hu1 hu2 hu1' hu1n hu1b hb1 hb2 hq1 hq1s hb hh hp z0
  go_wp2
  refine bodyPost_ret (v := .agg #[.int .i64 k, .slice a1 xs.length c1, .slice a2 ps.length c2]) (by simp [results, Try.results10, go_sem, *]) rfl ⟨_, rfl, ⟨a1, c1, a2, c2, rfl, ?_, ?_⟩, ?_⟩
  · exact SlI.weak (S := fun b => w.heap.size + 3 ≤ b ∧ b < w1.heap.size) (hu1c.keep fun b h => (Below.heap_setCell _ _ _ _ (by simp; omega)).trans ((Below.heap_setCell _ _ _ _ (by simp; omega)).trans ((Below.heap_setCell _ _ _ _ (by simp; omega)).trans (Below.heap_setCell _ _ _ _ (by simp; omega))))) (fun b h => by omega)
  · exact SlR.weak (S := fun b => w.heap.size + 3 ≤ b) (hu2b.keep fun b h => (Below.heap_setCell _ _ _ _ (by simp; omega)).trans ((Below.heap_setCell _ _ _ _ (by simp; omega)).trans ((Below.heap_setCell _ _ _ _ (by simp; omega)).trans (Below.heap_setCell _ _ _ _ (by simp; omega))))) (fun b h => by omega)
  · exact (((hq2.setCell (by simp; try omega) _).setCell (by simp; try omega) _).setCell (by simp; try omega) _).setCell (by simp; try omega) _
set_option maxHeartbeats 4000000 in
theorem eqSub_same {S1 S2 S3 S4 : Nat → Prop} {h1 p1 h2 p2 : Value} {k : Int} {xs : List Int} {ps : List (List Int)} {w : World} (hh1 : SlI S1 w .i64 h1 xs) (hp1 : SlR S2 w p1 ps) (hh2 : SlI S3 w .i64 h2 xs) (hp2 : SlR S4 w p2 ps) :
    Calls Try.prog 13 #[.agg #[.int .i64 k, h1, p1], .agg #[.int .i64 k, h2, p2]] w fun e w' => e = .returned (.bool true) ∧ Below w.heap.size w w' := by
  have hb : Below w.heap.size w ((w.alloc (.cells #[.int .i64 k, h1, p1] 33)).alloc (.cells #[.int .i64 k, h2, p2] 33)) := ((Below.refl _ _).alloc (Nat.le_refl _) _).alloc (by simp) _
  have hkk : (k != k) = false := by simp
  have he1 := eqInt64S_any _ _ _ _ _ (hh1.below hb (Nat.le_refl _)) (hh2.below hb (Nat.le_refl _))
  rw [decide_eq_true rfl] at he1
  go_enter Try.func13, Try.ntmps13
  go_wp2_with fail
  refine he1.mono ?_
  rintro e w1 ⟨rfl, hd1⟩
  have hq1 := hb.trans ((hd1.below _).mono hb.size)
  have z1 : w1.cell? ⟨w.heap.size, 2, none⟩ = some p1 := (hd1.cell _).trans (by simp [go_sem])
  have z2 : w1.cell? ⟨w.heap.size + 1, 2, none⟩ = some p2 := (hd1.cell _).trans (by simp [go_sem])
  have he2 := eqInt64SS_any _ _ _ _ _ (hp1.below hq1 (Nat.le_refl _)) (hp2.below hq1 (Nat.le_refl _))
  rw [decide_eq_true rfl] at he2
  go_wp2_with fail
  refine he2.mono ?_
  rintro e w2 ⟨rfl, hd2⟩
  go_wp2
  go_ret
  exact ⟨rfl, hq1.trans ((hd2.below _).mono hq1.size)⟩
set_option maxRecDepth 100000 in
set_option maxHeartbeats 16000000 in
theorem lawSubOk_any {S0 S1 S2 : Nat → Prop} (v0 : Value) (g : List (List Int)) (hv pv : Value) (k : Int) (xs : List Int) (ps : List (List Int)) (w : World) (hg : SlR S0 w v0 g) (hh : SlI S1 w .i64 hv xs) (hp : SlR S2 w pv ps) :
    Calls Try.prog 3 #[.agg #[v0], .agg #[.int .i64 k, hv, pv]] w fun e w' => e = .returned (.bool true) ∧ Below w.heap.size w w' := by
  obtain ⟨a0, c0, rfl⟩ := hg.slice
  obtain ⟨ha, hc, rfl⟩ := hh.slice
  obtain ⟨pa, pc, rfl⟩ := hp.slice
  have q0 : Below w.heap.size w ((w.alloc (.cells #[.slice a0 g.length c0] 24)).alloc (.cells #[.int .i64 k, .slice ha xs.length hc, .slice pa ps.length pc] 27)) := ((Below.refl _ _).alloc (Nat.le_refl _) _).alloc (by simp) _
  go_enter Try.func3, Try.ntmps3
  go_wp2_with fail
  refine (szGraph_any _ _ _ _ (hg.below q0 (Nat.le_refl _)) (by omega) (by omega)).mono ?_
  rintro e w1 ⟨r1, rfl, hr1, hs1, hm1, hb1⟩
  have q1 := q0.trans (hb1.mono q0.size)
  have b0 : w1.cell? ⟨w.heap.size, 0, none⟩ = some (.slice a0 g.length c0) := (hb1.cell (p := ⟨w.heap.size, 0, none⟩) (by simp <;> omega)).trans (by simp [go_sem])
  have b1 : w1.cell? ⟨w.heap.size + 1, 0, none⟩ = some (.int .i64 k) := (hb1.cell (p := ⟨w.heap.size + 1, 0, none⟩) (by simp)).trans (by simp [go_sem])
  have b2 : w1.cell? ⟨w.heap.size + 1, 1, none⟩ = some (.slice ha xs.length hc) := (hb1.cell (p := ⟨w.heap.size + 1, 1, none⟩) (by simp)).trans (by simp [go_sem])
  have b3 : w1.cell? ⟨w.heap.size + 1, 2, none⟩ = some (.slice pa ps.length pc) := (hb1.cell (p := ⟨w.heap.size + 1, 2, none⟩) (by simp)).trans (by simp [go_sem])
  by_cases hn1 : r1 < 0
  · go_wp2
    go_ret
    exact ⟨rfl, q1⟩
  have hsm0 : SmallR g 1048576 := hm1 (by omega)
  go_wp2_with fail
  refine (szSub_any (hh.below q1 (Nat.le_refl _)) (hp.below q1 (Nat.le_refl _)) (by omega) (by omega)).mono ?_
  rintro e w2 ⟨r2, rfl, hr2, hs2, hm2, hb2⟩
  have q2 := q1.trans (hb2.mono q1.size)
  have b0 := (hb2.cell (cell_lt b0)).trans b0
  have b1 := (hb2.cell (cell_lt b1)).trans b1
  have b2 := (hb2.cell (cell_lt b2)).trans b2
  have b3 := (hb2.cell (cell_lt b3)).trans b3
  by_cases hn2 : r2 < 0
  · go_wp2
    go_ret
    exact ⟨rfl, q2⟩
  obtain ⟨hx, hsp⟩ := hm2 (by omega)
  have hx : xs.length ≤ 1048576 := by omega
  have hsp : SmallR ps 1048576 := smallR_mono hsp (by omega)
  clear hm1 hm2 hr1 hr2 hs1 hs2
  go_wp2
  refine wp_region_held_drew (S := (fun w' => w'.cell? ⟨w.heap.size, 0, none⟩ = some (.slice a0 g.length c0) ∧ w'.cell? ⟨w.heap.size + 1, 0, none⟩ = some (.int .i64 k) ∧ w'.cell? ⟨w.heap.size + 1, 1, none⟩ = some (.slice ha xs.length hc) ∧ w'.cell? ⟨w.heap.size + 1, 2, none⟩ = some (.slice pa ps.length pc))) (by kernel_rfl) ?_ (fun hHeld => ?_)
  · first | exact ⟨‹_›, ‹_›, ‹_›, ‹_›⟩ | assumption | (simp [*, go_sem])
  have hqd := q2.drew
  have hwd : Below w2.heap.size w2 w2.drew := (Below.refl _ _).drew
  generalize w2.drew = wd at hqd hHeld hwd ⊢
  have hHeld2 := hHeld
  obtain ⟨b0, b1, b2, b3⟩ := hHeld2
  refine wpAnyH_take (i := 0) (v := ?v1) (by simp only [List.getElem?_toArray, List.getElem?_cons_zero]; exact rfl) (by kernel_rfl) (by kernel_rfl) (by kernel_rfl) (by intro _ _ _ h; exact h) (Or.inl ⟨by rfl, ?y1⟩) hHeld ?_
  case y1 => (intro w hSw; (try dsimp only at hSw); go_simp; try (with_reducible rfl))
  try simp only [Act.put, List.setIfInBounds_toArray, List.set_cons_zero, List.set_cons_succ]
  refine wpAnyH_take (i := 2) (v := ?v2) (by simp only [List.getElem?_toArray, List.getElem?_cons_succ, List.getElem?_cons_zero]; exact rfl) (by kernel_rfl) (by kernel_rfl) (by kernel_rfl) (by intro _ _ _ h; exact h) (Or.inl ⟨by rfl, ?y2⟩) hHeld ?_
  case y2 => (intro w hSw; (try dsimp only at hSw); go_simp; try (with_reducible rfl))
  try simp only [Act.put, List.setIfInBounds_toArray, List.set_cons_zero, List.set_cons_succ]
  refine wpAnyH_ready (rs := [1]) (by kernel_rfl) (by simp) ?_
  refine AllReadyH.cons (by simp only [List.getElem?_toArray, List.getElem?_cons_succ, List.getElem?_cons_zero]; exact rfl) (fun K hK => ?_) AllReadyH.nil
  go_simp
  refine (toGraph_any _ _ _ (hg.below hqd (Nat.le_refl _)) hsm0).mono ?_
  rintro e wn ⟨x1, rfl, y1, hbn⟩
  have hqd := hqd.trans (hbn.mono hqd.size)
  have hwd := hwd.trans (hbn.mono hwd.size)
  have b0 := (hbn.cell (cell_lt b0)).trans b0
  have b1 := (hbn.cell (cell_lt b1)).trans b1
  have b2 := (hbn.cell (cell_lt b2)).trans b2
  have b3 := (hbn.cell (cell_lt b3)).trans b3
  obtain ⟨wd, rfl⟩ : ∃ wx : World, wx = wn := ⟨_, rfl⟩
  try dsimp only
  refine hK.out _ _ ?h4 (fun hHeld => ?_)
  case h4 => first | exact ⟨‹_›, ‹_›, ‹_›, ‹_›⟩ | assumption | (simp [*, go_sem])
  clear hK K
  try simp only [Act.put, List.setIfInBounds_toArray, List.set_cons_zero, List.set_cons_succ]
  refine wpAnyH_ready (rs := [3]) (by kernel_rfl) (by simp) ?_
  refine AllReadyH.cons (by simp only [List.getElem?_toArray, List.getElem?_cons_succ, List.getElem?_cons_zero]; exact rfl) (fun K hK => ?_) AllReadyH.nil
  go_simp
  refine (toSub_any (hh.below hqd (Nat.le_refl _)) (hp.below hqd (Nat.le_refl _)) hx hsp).mono ?_
  rintro e wn ⟨x2, rfl, hN, hbn⟩
  have y1 := y1.below hbn (Nat.le_refl _)
  have hqd := hqd.trans (hbn.mono hqd.size)
  have hwd := hwd.trans (hbn.mono hwd.size)
  have b0 := (hbn.cell (cell_lt b0)).trans b0
  have b1 := (hbn.cell (cell_lt b1)).trans b1
  have b2 := (hbn.cell (cell_lt b2)).trans b2
  have b3 := (hbn.cell (cell_lt b3)).trans b3
  obtain ⟨n1, m1, n2, m2, rfl, s1, s2⟩ := hN
  obtain ⟨wd, rfl⟩ : ∃ wx : World, wx = wn := ⟨_, rfl⟩
  try dsimp only
  refine hK.out _ _ ?h6 (fun hHeld => ?_)
  case h6 => first | exact ⟨‹_›, ‹_›, ‹_›, ‹_›⟩ | assumption | (simp [*, go_sem])
  clear hK K
  try simp only [Act.put, List.setIfInBounds_toArray, List.set_cons_zero, List.set_cons_succ]
  refine wpAnyH_ready (rs := [4]) (by kernel_rfl) (by simp) ?_
  refine AllReadyH.cons (by simp only [List.getElem?_toArray, List.getElem?_cons_succ, List.getElem?_cons_zero]; exact rfl) (fun K hK => ?_) AllReadyH.nil
  go_simp
  refine (specSubOk_any y1 s1 s2).mono ?_
  rintro e wn ⟨rfl, hbn⟩
  have hqd := hqd.trans (hbn.mono hqd.size)
  have hwd := hwd.trans (hbn.mono hwd.size)
  have b0 := (hbn.cell (cell_lt b0)).trans b0
  have b1 := (hbn.cell (cell_lt b1)).trans b1
  have b2 := (hbn.cell (cell_lt b2)).trans b2
  have b3 := (hbn.cell (cell_lt b3)).trans b3
  obtain ⟨wd, rfl⟩ : ∃ wx : World, wx = wn := ⟨_, rfl⟩
  try dsimp only
  refine hK.out _ _ ?h8 (fun hHeld => ?_)
  case h8 => first | exact ⟨‹_›, ‹_›, ‹_›, ‹_›⟩ | assumption | (simp [*, go_sem])
  clear hK K
  try simp only [Act.put, List.setIfInBounds_toArray, List.set_cons_zero, List.set_cons_succ]
  refine wpAnyH_take (i := 5) (v := ?v9) (by simp only [List.getElem?_toArray, List.getElem?_cons_succ, List.getElem?_cons_zero]; exact rfl) (by kernel_rfl) (by kernel_rfl) (by kernel_rfl) (by intro _ _ _ h; exact h) (Or.inl ⟨by rfl, ?y9⟩) hHeld ?_
  case y9 => (intro w hSw; (try dsimp only at hSw); go_simp; try (with_reducible rfl))
  try simp only [Act.put, List.setIfInBounds_toArray, List.set_cons_zero, List.set_cons_succ]
  refine wpAnyH_done (by kernel_rfl) ?_ _
  clear y1 s1 s2
  go_wp2_with fail
  refine (toGraph_any _ _ _ (hg.below hqd (Nat.le_refl _)) hsm0).mono ?_
  rintro e w4 ⟨x4, rfl, y4, hb4⟩
  have q4 := hqd.trans (hb4.mono hqd.size)
  have b0 := (hb4.cell (cell_lt b0)).trans b0
  have b1 := (hb4.cell (cell_lt b1)).trans b1
  have b2 := (hb4.cell (cell_lt b2)).trans b2
  have b3 := (hb4.cell (cell_lt b3)).trans b3
  obtain ⟨xa, xc, rfl⟩ := y4.slice
  have hb5 : Below w4.heap.size w4 (w4.alloc (.cells #[.slice xa g.length xc] 31)) := (Below.refl _ _).alloc (Nat.le_refl _) _
  have q5 := q4.trans (hb5.mono q4.size)
  have b0 := (hb5.cell (cell_lt b0)).trans b0
  have b1 := (hb5.cell (cell_lt b1)).trans b1
  have b2 := (hb5.cell (cell_lt b2)).trans b2
  have b3 := (hb5.cell (cell_lt b3)).trans b3
  have y5 := y4.below hb5 (Nat.le_refl _)
  go_wp2_with fail
  refine (toSub_any (hh.below q5 (Nat.le_refl _)) (hp.below q5 (Nat.le_refl _)) hx hsp).mono ?_
  rintro e w6 ⟨x6, rfl, hN, hb6⟩
  have q6 := q5.trans (hb6.mono q5.size)
  have b0 := (hb6.cell (cell_lt b0)).trans b0
  have b1 := (hb6.cell (cell_lt b1)).trans b1
  have b2 := (hb6.cell (cell_lt b2)).trans b2
  have b3 := (hb6.cell (cell_lt b3)).trans b3
  have l0 : w6.cell? ⟨w4.heap.size, 0, none⟩ = some (.slice xa g.length xc) := (hb6.cell (p := ⟨w4.heap.size, 0, none⟩) (by simp)).trans (by simp [go_sem])
  have y6 := y5.below hb6 (Nat.le_refl _)
  obtain ⟨n1, m1, n2, m2, rfl, s1, s2⟩ := hN
  have hb7 : Below w6.heap.size w6 (w6.alloc (.cells #[.int .i64 k, .slice n1 xs.length m1, .slice n2 ps.length m2] 33)) := (Below.refl _ _).alloc (Nat.le_refl _) _
  have q7 := q6.trans (hb7.mono q6.size)
  have b0 := (hb7.cell (cell_lt b0)).trans b0
  have b1 := (hb7.cell (cell_lt b1)).trans b1
  have b2 := (hb7.cell (cell_lt b2)).trans b2
  have b3 := (hb7.cell (cell_lt b3)).trans b3
  have l0 := (hb7.cell (cell_lt l0)).trans l0
  have y7 := y6.below hb7 (Nat.le_refl _)
  have s17 := s1.below hb7 (Nat.le_refl _)
  have s27 := s2.below hb7 (Nat.le_refl _)
  have l1 : (w6.alloc (.cells #[.int .i64 k, .slice n1 xs.length m1, .slice n2 ps.length m2] 33)).cell? ⟨w6.heap.size, 0, none⟩ = some (.int .i64 k) := by simp [go_sem]
  have l2 : (w6.alloc (.cells #[.int .i64 k, .slice n1 xs.length m1, .slice n2 ps.length m2] 33)).cell? ⟨w6.heap.size, 1, none⟩ = some (.slice n1 xs.length m1) := by simp [go_sem]
  have l3 : (w6.alloc (.cells #[.int .i64 k, .slice n1 xs.length m1, .slice n2 ps.length m2] 33)).cell? ⟨w6.heap.size, 2, none⟩ = some (.slice n2 ps.length m2) := by simp [go_sem]
  go_wp2_with fail
  refine (implSubOk_any y7 s17 s27).mono ?_
  rintro e w8 ⟨rfl, hb8⟩
  have q8 := q7.trans (hb8.mono q7.size)
  have b0 := (hb8.cell (cell_lt b0)).trans b0
  have b1 := (hb8.cell (cell_lt b1)).trans b1
  have b2 := (hb8.cell (cell_lt b2)).trans b2
  have b3 := (hb8.cell (cell_lt b3)).trans b3
  have l0 := (hb8.cell (cell_lt l0)).trans l0
  have l1 := (hb8.cell (cell_lt l1)).trans l1
  have l2 := (hb8.cell (cell_lt l2)).trans l2
  have l3 := (hb8.cell (cell_lt l3)).trans l3
  have y8 := y7.below hb8 (Nat.le_refl _)
  have s18 := s17.below hb8 (Nat.le_refl _)
  have s28 := s27.below hb8 (Nat.le_refl _)
  clear y4 y5 y6 y7 s17 s27 s1 s2
  generalize subB g k xs ps = r at *
  have hrr : (r != r) = false := by cases r <;> rfl
  go_wp2
  refine wp_region_held_drew (S := (fun w' => w'.cell? ⟨w.heap.size, 0, none⟩ = some (.slice a0 g.length c0) ∧ w'.cell? ⟨w.heap.size + 1, 0, none⟩ = some (.int .i64 k) ∧ w'.cell? ⟨w.heap.size + 1, 1, none⟩ = some (.slice ha xs.length hc) ∧ w'.cell? ⟨w.heap.size + 1, 2, none⟩ = some (.slice pa ps.length pc) ∧ w'.cell? ⟨w4.heap.size, 0, none⟩ = some (.slice xa g.length xc) ∧ w'.cell? ⟨w6.heap.size, 0, none⟩ = some (.int .i64 k) ∧ w'.cell? ⟨w6.heap.size, 1, none⟩ = some (.slice n1 xs.length m1) ∧ w'.cell? ⟨w6.heap.size, 2, none⟩ = some (.slice n2 ps.length m2))) (by kernel_rfl) ?_ (fun hHeld => ?_)
  · first | exact ⟨‹_›, ‹_›, ‹_›, ‹_›, ‹_›, ‹_›, ‹_›, ‹_›⟩ | assumption | (simp [*, go_sem])
  have hqd := q8.drew
  have hwd : Below w8.heap.size w8 w8.drew := (Below.refl _ _).drew
  generalize w8.drew = wd at hqd hHeld hwd ⊢
  have hHeld2 := hHeld
  obtain ⟨b0, b1, b2, b3, l0, l1, l2, l3⟩ := hHeld2
  refine wpAnyH_take (i := 0) (v := ?v10) (by simp only [List.getElem?_toArray, List.getElem?_cons_zero]; exact rfl) (by kernel_rfl) (by kernel_rfl) (by kernel_rfl) (by intro _ _ _ h; exact h) (Or.inl ⟨by rfl, ?y10⟩) hHeld ?_
  case y10 => (intro w hSw; (try dsimp only at hSw); go_simp; try (with_reducible rfl))
  try simp only [Act.put, List.setIfInBounds_toArray, List.set_cons_zero, List.set_cons_succ]
  refine wpAnyH_take (i := 1) (v := ?v11) (by simp only [List.getElem?_toArray, List.getElem?_cons_succ, List.getElem?_cons_zero]; exact rfl) (by kernel_rfl) (by kernel_rfl) (by kernel_rfl) (by intro _ _ _ h; exact h) (Or.inl ⟨by rfl, ?y11⟩) hHeld ?_
  case y11 => (intro w hSw; (try dsimp only at hSw); go_simp; try (with_reducible rfl))
  try simp only [Act.put, List.setIfInBounds_toArray, List.set_cons_zero, List.set_cons_succ]
  refine wpAnyH_ready (rs := [2]) (by kernel_rfl) (by simp) ?_
  refine AllReadyH.cons (by simp only [List.getElem?_toArray, List.getElem?_cons_succ, List.getElem?_cons_zero]; exact rfl) (fun K hK => ?_) AllReadyH.nil
  go_simp
  refine (toGraph_any _ _ _ (hg.below hqd (Nat.le_refl _)) hsm0).mono ?_
  rintro e wn ⟨x1, rfl, z1, hbn⟩
  have hqd := hqd.trans (hbn.mono hqd.size)
  have hwd := hwd.trans (hbn.mono hwd.size)
  have b0 := (hbn.cell (cell_lt b0)).trans b0
  have b1 := (hbn.cell (cell_lt b1)).trans b1
  have b2 := (hbn.cell (cell_lt b2)).trans b2
  have b3 := (hbn.cell (cell_lt b3)).trans b3
  have l0 := (hbn.cell (cell_lt l0)).trans l0
  have l1 := (hbn.cell (cell_lt l1)).trans l1
  have l2 := (hbn.cell (cell_lt l2)).trans l2
  have l3 := (hbn.cell (cell_lt l3)).trans l3
  obtain ⟨wd, rfl⟩ : ∃ wx : World, wx = wn := ⟨_, rfl⟩
  try dsimp only
  refine hK.out _ _ ?h13 (fun hHeld => ?_)
  case h13 => first | exact ⟨‹_›, ‹_›, ‹_›, ‹_›, ‹_›, ‹_›, ‹_›, ‹_›⟩ | assumption | (simp [*, go_sem])
  clear hK K
  try simp only [Act.put, List.setIfInBounds_toArray, List.set_cons_zero, List.set_cons_succ]
  refine wpAnyH_ready (rs := [3]) (by kernel_rfl) (by simp) ?_
  refine AllReadyH.cons (by simp only [List.getElem?_toArray, List.getElem?_cons_succ, List.getElem?_cons_zero]; exact rfl) (fun K hK => ?_) AllReadyH.nil
  go_simp
  refine (eqG_same (y8.below hwd (Nat.le_refl _)) z1).mono ?_
  rintro e wn ⟨rfl, hbn⟩
  have hqd := hqd.trans (hbn.mono hqd.size)
  have hwd := hwd.trans (hbn.mono hwd.size)
  have b0 := (hbn.cell (cell_lt b0)).trans b0
  have b1 := (hbn.cell (cell_lt b1)).trans b1
  have b2 := (hbn.cell (cell_lt b2)).trans b2
  have b3 := (hbn.cell (cell_lt b3)).trans b3
  have l0 := (hbn.cell (cell_lt l0)).trans l0
  have l1 := (hbn.cell (cell_lt l1)).trans l1
  have l2 := (hbn.cell (cell_lt l2)).trans l2
  have l3 := (hbn.cell (cell_lt l3)).trans l3
  obtain ⟨wd, rfl⟩ : ∃ wx : World, wx = wn := ⟨_, rfl⟩
  try dsimp only
  refine hK.out _ _ ?h15 (fun hHeld => ?_)
  case h15 => first | exact ⟨‹_›, ‹_›, ‹_›, ‹_›, ‹_›, ‹_›, ‹_›, ‹_›⟩ | assumption | (simp [*, go_sem])
  clear hK K
  try simp only [Act.put, List.setIfInBounds_toArray, List.set_cons_zero, List.set_cons_succ]
  refine wpAnyH_take (i := 4) (v := ?v16) (by simp only [List.getElem?_toArray, List.getElem?_cons_succ, List.getElem?_cons_zero]; exact rfl) (by kernel_rfl) (by kernel_rfl) (by kernel_rfl) (by intro _ _ _ h; exact h) (Or.inl ⟨by rfl, ?y16⟩) hHeld ?_
  case y16 => (intro w hSw; (try dsimp only at hSw); go_simp; try (with_reducible rfl))
  try simp only [Act.put, List.setIfInBounds_toArray, List.set_cons_zero, List.set_cons_succ]
  refine wpAnyH_done (by kernel_rfl) ?_ _
  have s19 := s18.below hwd (Nat.le_refl _)
  have s29 := s28.below hwd (Nat.le_refl _)
  clear s18 s28 y8 z1 hwd
  obtain ⟨w9, rfl⟩ : ∃ wx : World, wx = wd := ⟨_, rfl⟩
  have q9 := hqd
  clear hqd
  go_wp2
  refine wp_region_held_drew (S := (fun w' => w'.cell? ⟨w.heap.size, 0, none⟩ = some (.slice a0 g.length c0) ∧ w'.cell? ⟨w.heap.size + 1, 0, none⟩ = some (.int .i64 k) ∧ w'.cell? ⟨w.heap.size + 1, 1, none⟩ = some (.slice ha xs.length hc) ∧ w'.cell? ⟨w.heap.size + 1, 2, none⟩ = some (.slice pa ps.length pc) ∧ w'.cell? ⟨w4.heap.size, 0, none⟩ = some (.slice xa g.length xc) ∧ w'.cell? ⟨w6.heap.size, 0, none⟩ = some (.int .i64 k) ∧ w'.cell? ⟨w6.heap.size, 1, none⟩ = some (.slice n1 xs.length m1) ∧ w'.cell? ⟨w6.heap.size, 2, none⟩ = some (.slice n2 ps.length m2))) (by kernel_rfl) ?_ (fun hHeld => ?_)
  · first | exact ⟨‹_›, ‹_›, ‹_›, ‹_›, ‹_›, ‹_›, ‹_›, ‹_›⟩ | assumption | (simp [*, go_sem])
  have hqd := q9.drew
  have hwd : Below w9.heap.size w9 w9.drew := (Below.refl _ _).drew
  generalize w9.drew = wd at hqd hHeld hwd ⊢
  have hHeld2 := hHeld
  obtain ⟨b0, b1, b2, b3, l0, l1, l2, l3⟩ := hHeld2
  refine wpAnyH_take (i := 0) (v := ?v17) (by simp only [List.getElem?_toArray, List.getElem?_cons_zero]; exact rfl) (by kernel_rfl) (by kernel_rfl) (by kernel_rfl) (by intro _ _ _ h; exact h) (Or.inl ⟨by rfl, ?y17⟩) hHeld ?_
  case y17 => (intro w hSw; (try dsimp only at hSw); go_simp; try (with_reducible rfl))
  try simp only [Act.put, List.setIfInBounds_toArray, List.set_cons_zero, List.set_cons_succ]
  refine wpAnyH_take (i := 1) (v := ?v18) (by simp only [List.getElem?_toArray, List.getElem?_cons_succ, List.getElem?_cons_zero]; exact rfl) (by kernel_rfl) (by kernel_rfl) (by kernel_rfl) (by intro _ _ _ h; exact h) (Or.inl ⟨by rfl, ?y18⟩) hHeld ?_
  case y18 => (intro w hSw; (try dsimp only at hSw); go_simp; try (with_reducible rfl))
  try simp only [Act.put, List.setIfInBounds_toArray, List.set_cons_zero, List.set_cons_succ]
  refine wpAnyH_ready (rs := [2]) (by kernel_rfl) (by simp) ?_
  refine AllReadyH.cons (by simp only [List.getElem?_toArray, List.getElem?_cons_succ, List.getElem?_cons_zero]; exact rfl) (fun K hK => ?_) AllReadyH.nil
  go_simp
  refine (toSub_any (hh.below hqd (Nat.le_refl _)) (hp.below hqd (Nat.le_refl _)) hx hsp).mono ?_
  rintro e wn ⟨x2, rfl, hN, hbn⟩
  have hqd := hqd.trans (hbn.mono hqd.size)
  have hwd := hwd.trans (hbn.mono hwd.size)
  have b0 := (hbn.cell (cell_lt b0)).trans b0
  have b1 := (hbn.cell (cell_lt b1)).trans b1
  have b2 := (hbn.cell (cell_lt b2)).trans b2
  have b3 := (hbn.cell (cell_lt b3)).trans b3
  have l0 := (hbn.cell (cell_lt l0)).trans l0
  have l1 := (hbn.cell (cell_lt l1)).trans l1
  have l2 := (hbn.cell (cell_lt l2)).trans l2
  have l3 := (hbn.cell (cell_lt l3)).trans l3
  obtain ⟨i1, j1, i2, j2, rfl, t1, t2⟩ := hN
  obtain ⟨wd, rfl⟩ : ∃ wx : World, wx = wn := ⟨_, rfl⟩
  try dsimp only
  refine hK.out _ _ ?h20 (fun hHeld => ?_)
  case h20 => first | exact ⟨‹_›, ‹_›, ‹_›, ‹_›, ‹_›, ‹_›, ‹_›, ‹_›⟩ | assumption | (simp [*, go_sem])
  clear hK K
  try simp only [Act.put, List.setIfInBounds_toArray, List.set_cons_zero, List.set_cons_succ]
  refine wpAnyH_ready (rs := [3]) (by kernel_rfl) (by simp) ?_
  refine AllReadyH.cons (by simp only [List.getElem?_toArray, List.getElem?_cons_succ, List.getElem?_cons_zero]; exact rfl) (fun K hK => ?_) AllReadyH.nil
  go_simp
  refine (eqSub_same (s19.below hwd (Nat.le_refl _)) (s29.below hwd (Nat.le_refl _)) t1 t2).mono ?_
  rintro e wn ⟨rfl, hbn⟩
  have hqd := hqd.trans (hbn.mono hqd.size)
  have hwd := hwd.trans (hbn.mono hwd.size)
  have b0 := (hbn.cell (cell_lt b0)).trans b0
  have b1 := (hbn.cell (cell_lt b1)).trans b1
  have b2 := (hbn.cell (cell_lt b2)).trans b2
  have b3 := (hbn.cell (cell_lt b3)).trans b3
  have l0 := (hbn.cell (cell_lt l0)).trans l0
  have l1 := (hbn.cell (cell_lt l1)).trans l1
  have l2 := (hbn.cell (cell_lt l2)).trans l2
  have l3 := (hbn.cell (cell_lt l3)).trans l3
  obtain ⟨wd, rfl⟩ : ∃ wx : World, wx = wn := ⟨_, rfl⟩
  try dsimp only
  refine hK.out _ _ ?h22 (fun hHeld => ?_)
  case h22 => first | exact ⟨‹_›, ‹_›, ‹_›, ‹_›, ‹_›, ‹_›, ‹_›, ‹_›⟩ | assumption | (simp [*, go_sem])
  clear hK K
  try simp only [Act.put, List.setIfInBounds_toArray, List.set_cons_zero, List.set_cons_succ]
  refine wpAnyH_take (i := 4) (v := ?v23) (by simp only [List.getElem?_toArray, List.getElem?_cons_succ, List.getElem?_cons_zero]; exact rfl) (by kernel_rfl) (by kernel_rfl) (by kernel_rfl) (by intro _ _ _ h; exact h) (Or.inl ⟨by rfl, ?y23⟩) hHeld ?_
  case y23 => (intro w hSw; (try dsimp only at hSw); go_simp; try (with_reducible rfl))
  try simp only [Act.put, List.setIfInBounds_toArray, List.set_cons_zero, List.set_cons_succ]
  refine wpAnyH_done (by kernel_rfl) ?_ _
  go_wp2
  go_ret
  exact ⟨rfl, hqd⟩
end Go.Proofs.Ytplohdnakllbiaa
