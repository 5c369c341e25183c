/- ModelWord of the reference and of the program; the law. -/
import Derived.Test.YtfccpencgengaaaDoorModelM
import Derived.Test.YtfccpencgengaaaDoorBoxModel
import Derived.Test.YtfccpencgengaaaDoorSets
import Derived.Test.YtfccpencgengaaaDoorInto2
namespace Go.Proofs.YtfccpencgengaaaDoor
open Go.RowKit
def TwoI (S : Nat → Prop) (f : Option (List Int)) (w : World) (e : Ending) (w' : World) : Prop := ∃ u, e = .returned (.tuple #[u, .bool f.isSome]) ∧ SlI S w' .i64 u (f.getD []) ∧ Below w.heap.size w w'
def TwoOI (E : TypeId) (f : Option (List Int)) (w : World) (e : Ending) (w' : World) : Prop := ∃ u, e = .returned (.tuple #[u, .bool f.isSome]) ∧ Own w' w.heap.size E 1 u (f.getD []).length ((f.getD []).map (.int .i64)) ∧ Below w.heap.size w w'
theorem SlI.low2 {S : Nat → Prop} {w : World} {k : IntKind} {v : Value} {xs : List Int} (h : SlI S w k v xs) : SlI (fun b => b < w.heap.size) w k v xs := by
  obtain ⟨a, b, off, cap, rfl, hl, ha, hc⟩ := h
  exact ⟨a, b, off, cap, rfl, hl, fun h0 => ⟨(ha h0).1, cell_lt (hc 0 h0)⟩, hc⟩
theorem SlI.emptyI (S : Nat → Prop) (w : World) (k : IntKind) (a : Option Addr) : SlI S w k (.slice a 0 0) [] := ⟨a, 0, 0, 0, rfl, by simp, fun h => by simp at h, fun i hi => by simp at hi⟩
theorem getD_lt {α : Type} {l : List α} {i : Nat} {d : α} (h : i < l.length) : l.getD i d = l[i] := by simp [h]
theorem own_int {w : World} {B g n c u : Nat} {E : TypeId} {k : IntKind} {xs : List Int} (h : Own w B E 1 (.slice (some ⟨g, 0, none⟩) n c) n (xs.map (.int k))) (hu : u < xs.length) (hn : xs.length = n) :
    w.cell? ⟨g, u, none⟩ = some (.int k (xs.getD u 0)) :=
  (World.ownsRow.cellAt h u (by omega)).trans (by simp [hu])
theorem own_int_set {w : World} {B g n c : Nat} {E : TypeId} {k : IntKind} {xs : List Int} (h : Own w B E 1 (.slice (some ⟨g, 0, none⟩) n c) n (xs.map (.int k))) (u : Nat) (x : Int) :
    Own (w.setCell ⟨g, u, none⟩ (.int k x)) B E 1 (.slice (some ⟨g, 0, none⟩) n c) n ((xs.set u x).map (.int k)) := by
  have := h.stored u (.int k x)
  rw [← List.map_set] at this; exact this
theorem rise_take_not {s : List Int} {n : Int} {k : Nat} (h : Rise s n) (hk : k < s.length) : ¬ s[k] ∈ s.take k := fun hm => by
  obtain ⟨j, hj, e⟩ := List.mem_take_iff_getElem.1 hm
  have := (h k hk hk).2.2 j (by omega)
  omega
set_option maxRecDepth 100000 in
set_option maxHeartbeats 8000000 in
theorem specModelWord_any {S S' : Nat → Prop} {gv mv : Value} {g ms : List (List Int)} {w : World} (hvg : SlR S w gv g) (hvm : SlR S' w mv ms) :
    Calls Tryd.prog 28 #[.agg #[gv], .agg #[mv]] w (TwoI (fun _ => True) (modelF g ms) w) := by
  have hq0 : Below w.heap.size w ((w.alloc (.cells #[gv] 27)).alloc (.cells #[mv] 44)) := ((Below.refl _ _).alloc (Nat.le_refl _) _).alloc (by simp) _
  obtain ⟨ga, gc, rfl⟩ := hvg.slice
  have hgo := specGraphOk_any _ _ _ (hvg.below hq0 (Nat.le_refl _))
  by_cases hgg : gokB g = true
  case neg =>
    have hgg' : gokB g = false := by simpa using hgg
    rw [hgg'] at hgo
    obtain ⟨ma, mc, rfl⟩ := hvm.slice
    have HE := Lib.hid (modelF_no (g := g) (ms := ms) (fun h => by rw [hgg'] at h; cases h.1))
    clear hgg hgg'
    go_enter Tryd.func28, Tryd.ntmps28
    go_wp2_with (go_at_call 47; (with_reducible refine hgo.mono ?_); rintro e w1 ⟨rfl, hb1⟩)
    go_ret2
    rw [HE.out]
    have hq1 := hq0.trans (hb1.mono hq0.size)
    exact ⟨_, rfl, SlI.emptyI _ _ _ _, hq1.alloc hq1.size _⟩
  rw [hgg] at hgo
  have hg := gokB_iff.1 hgg
  have h16 := hg.hi
  have hlm := hvm.len
  by_cases hm16 : ms.length ≤ 16
  case neg =>
    have hb1 : decide ((16 : Int) < (ms.length : Int)) = true := by simp; omega
    have hb2 : decide (16 < ms.length) = true := by simp; omega
    obtain ⟨ma, mc, rfl⟩ := hvm.slice
    have HE := Lib.hid (modelF_no (g := g) (ms := ms) (fun h => hm16 h.2.1))
    clear hgg
    go_enter Tryd.func28, Tryd.ntmps28
    go_wp2_with (go_at_call 47; (with_reducible refine hgo.mono ?_); rintro e w1 ⟨rfl, hb1⟩; have c4 : w1.cell? ⟨w.heap.size + 1, 0, none⟩ = some (.slice ma ms.length mc) := (hb1.cell (p := ⟨w.heap.size + 1, 0, none⟩) (by simp)).trans (by simp [go_sem]))
    go_ret2
    rw [HE.out]
    have hq1 := hq0.trans (hb1.mono hq0.size)
    exact ⟨_, rfl, SlI.emptyI _ _ _ _, hq1.alloc hq1.size _⟩
  have hb1 : decide ((16 : Int) < (ms.length : Int)) = false := by simp; omega
  have hb2 : decide (16 < ms.length) = false := by simp; omega
  have hmk := run_make_row' (P := Tryd.prog) 41 2 (.int .i64 0) 8 elI64.ht elI64.hi rfl .i64 .i64 g.length (by omega) (by omega)
  have hno := fun (h : ¬ SetsTo g.length ms ms.length) => modelF_no (g := g) (ms := ms) (fun h2 => h h2.2.2)
  have hyes := fun (h : SetsTo g.length ms ms.length) => modelF_yes (g := g) (ms := ms) ⟨hgg, hm16, h⟩
  have HNO := Lib.hid hno; have HYES := Lib.hid hyes; clear hno hyes
  obtain ⟨ma, mb, moff, mcap, mf, rfl, hml, hma, hmc0⟩ := hvm
  have HSO := fun (w1 : World) (hb : Below w.heap.size w w1) (S2 : Nat → Prop) (u : Value) (s : List Int) (hu : SlI S2 w1 .i64 u s) => specSetOk_any _ _ _ _ _ (hvg.below hb (Nat.le_refl _)) hu
  have hset : ∀ s, setOkB g s = riseB s g.length := fun s => by simp [setOkB, hgg]
  simp only [hset] at HSO
  clear hgg hset
  go_enter Tryd.func28, Tryd.ntmps28
  go_wp2_with (go_at_call 47; (with_reducible refine hgo.mono ?_); rintro e w1 ⟨rfl, hb1⟩; have hq1 := hq0.trans (hb1.mono hq0.size); have c3 : w1.cell? ⟨w.heap.size, 0, none⟩ = some (.slice ga g.length gc) := (hb1.cell (p := ⟨w.heap.size, 0, none⟩) (by simp; omega)).trans (by simp [go_sem]); have c4 : w1.cell? ⟨w.heap.size + 1, 0, none⟩ = some (.slice ma ms.length mcap) := (hb1.cell (p := ⟨w.heap.size + 1, 0, none⟩) (by simp)).trans (by simp [go_sem]))
  clear hgo
  have hz1 : w.heap.size + 2 ≤ w1.heap.size := by have := cell_lt c4; simp at this; omega
  have hown0 : Own (w1.alloc (.cells (madeCells #[.int .i64 0] g.length) 2)) (w.heap.size + 2) 2 1 (.slice (some ⟨w1.heap.size, 0, none⟩) g.length g.length) g.length ((wordL g.length ms 0).map (.int .i64)) := by
    have := Own.made w1 (w.heap.size + 2) 2 (.int .i64 0) g.length hz1 (by omega)
    simpa [wordL] using this
  go_loopw [7] (fun i wr => ∃ k : Nat, k ≤ ms.length ∧ i = .int .i64 k ∧ SetsTo g.length ms k ∧ Own wr (w.heap.size + 2) 2 1 (.slice (some ⟨w1.heap.size, 0, none⟩) g.length g.length) g.length ((wordL g.length ms k).map (.int .i64)) ∧ Below w.heap.size w wr ∧
    wr.cell? ⟨w.heap.size, 0, none⟩ = some (.slice ga g.length gc) ∧ wr.cell? ⟨w.heap.size + 1, 0, none⟩ = some (.slice ma ms.length mcap)) (fun i _ => ms.length - (intOf i).toNat)
  case atStart => exact ⟨0, Nat.zero_le _, rfl, (fun j hj => by omega), hown0, hq1.alloc hq1.size _, (World.cell?_alloc_some w1 ⟨w.heap.size, 0, none⟩ _ (by rw [c3]; rfl)).trans c3, (World.cell?_alloc_some w1 ⟨w.heap.size + 1, 0, none⟩ _ (by rw [c4]; rfl)).trans c4⟩
  case round =>
    clear hown0 hmk c3 c4 hq1
    obtain ⟨k, hk, rfl, hst, hown, hq, hbg, hbm⟩ := hrel
    have hwl := wordL_len g.length ms k
    by_cases hlt : k < ms.length
    case neg =>
      obtain rfl : k = ms.length := by omega
      have hF := HYES.out hst
      have HF := Lib.hid hF; have HW := Lib.hid hwl; clear hF hwl HNO HYES hst HSO
      go_wp2
      go_ret2
      rw [HF.out]
      refine ⟨_, rfl, ?_, hq⟩
      have := (Own.ints (xs := wordL g.length ms ms.length) hown (by omega)).weak (S' := fun _ => True) (fun _ _ => trivial)
      exact this
    obtain ⟨hcm, hrow⟩ := (hmc0.below hq (Nat.le_refl _)) k hlt
    obtain ⟨rfl, -⟩ := hma (by omega)
    have hgk := getD_lt (d := []) hlt
    have hso := fun (w2 : World) (hb : Below w.heap.size w w2) (hu : SlI S' w2 .i64 (mf k) ms[k]) => HSO w2 hb S' (mf k) ms[k] hu
    have hHW := Lib.hid hwl; clear hwl
    by_cases hri : Rise ms[k] g.length
    case neg =>
      have hrb := riseB_false hri
      rw [hrb] at hso
      have hF := HNO.out (setsTo_bad_rise hlt (by rw [hgk]; exact hri))
      have HF := Lib.hid hF; clear hF HNO HYES hrb hri HSO hgk hst
      go_wp2
      refine wp_region_held_drew (S := (fun w' => w'.cell? ⟨w.heap.size, 0, none⟩ = some (.slice ga g.length gc) ∧ w'.cell? ⟨w.heap.size + 1, 0, none⟩ = some (.slice (some ⟨mb, moff, none⟩) ms.length mcap) ∧ w'.cell? ⟨mb, moff + k, none⟩ = some (mf k))) (by kernel_rfl) ?_ (fun hHeld => ?_)
      · first | exact ⟨‹_›, ‹_›, ‹_›⟩ | (simp [*, go_sem])
      have hqc := hq.drew
      have hrowc := hrow.drew
      generalize World.drew _ = wd at hqc hrowc hHeld ⊢
      refine wpAnyH_take (i := 0) (v := ?v1) (by simp only [List.getElem?_toArray, List.getElem?_cons_zero]; exact rfl) (by kernel_rfl) (by kernel_rfl) (by kernel_rfl) (by intro _ _ _ h; exact h) (Or.inl ⟨by rfl, ?y1⟩) hHeld ?_
      case y1 => (intro w hSw; (try dsimp only at hSw); go_simp; try (with_reducible rfl))
      try simp only [Act.put, List.setIfInBounds_toArray, List.set_cons_zero, List.set_cons_succ]
      refine wpAnyH_take (i := 1) (v := ?v2) (by simp only [List.getElem?_toArray, List.getElem?_cons_succ, List.getElem?_cons_zero]; exact rfl) (by kernel_rfl) (by kernel_rfl) (by kernel_rfl) (by intro _ _ _ h; exact h) (Or.inl ⟨by rfl, ?y2⟩) hHeld ?_
      case y2 => (intro w hSw; (try dsimp only at hSw); go_simp; try (with_reducible rfl))
      try simp only [Act.put, List.setIfInBounds_toArray, List.set_cons_zero, List.set_cons_succ]
      refine wpAnyH_take (i := 2) (v := ?v3) (by simp only [List.getElem?_toArray, List.getElem?_cons_succ, List.getElem?_cons_zero]; exact rfl) (by kernel_rfl) (by kernel_rfl) (by kernel_rfl) (by intro _ _ _ h; exact h) (Or.inl ⟨by rfl, ?y3⟩) hHeld ?_
      case y3 => (intro w hSw; (try dsimp only at hSw); go_simp; try (with_reducible rfl))
      try simp only [Act.put, List.setIfInBounds_toArray, List.set_cons_zero, List.set_cons_succ]
      refine wpAnyH_take (i := 3) (v := ?v4) (by simp only [List.getElem?_toArray, List.getElem?_cons_succ, List.getElem?_cons_zero]; exact rfl) (by kernel_rfl) (by kernel_rfl) (by kernel_rfl) (by intro _ _ _ h; exact h) (Or.inl ⟨by rfl, ?y4⟩) hHeld ?_
      case y4 => (intro w hSw; (try dsimp only at hSw); go_simp; try (with_reducible rfl))
      try simp only [Act.put, List.setIfInBounds_toArray, List.set_cons_zero, List.set_cons_succ]
      refine wpAnyH_take (i := 4) (v := ?v5) (by simp only [List.getElem?_toArray, List.getElem?_cons_succ, List.getElem?_cons_zero]; exact rfl) (by kernel_rfl) (by kernel_rfl) (by kernel_rfl) (by intro _ _ _ h; exact h) (Or.inl ⟨by rfl, ?y5⟩) hHeld ?_
      case y5 => (intro w hSw; (try dsimp only at hSw); go_simp; try (with_reducible rfl))
      try simp only [Act.put, List.setIfInBounds_toArray, List.set_cons_zero, List.set_cons_succ]
      refine wpAnyH_take (i := 5) (v := ?v6) (by simp only [List.getElem?_toArray, List.getElem?_cons_succ, List.getElem?_cons_zero]; exact rfl) (by kernel_rfl) (by kernel_rfl) (by kernel_rfl) (by intro _ _ _ h; exact h) (Or.inl ⟨by rfl, ?y6⟩) hHeld ?_
      case y6 => (intro w hSw; (try dsimp only at hSw); go_simp; try (with_reducible rfl))
      try simp only [Act.put, List.setIfInBounds_toArray, List.set_cons_zero, List.set_cons_succ]
      refine wpAnyH_ready (rs := [6]) (by kernel_rfl) (by simp) ?_
      refine AllReadyH.cons (by simp only [List.getElem?_toArray, List.getElem?_cons_succ, List.getElem?_cons_zero]; exact rfl) (fun K hK => ?_) AllReadyH.nil
      go_simp
      refine (hso _ hqc hrowc).mono ?_
      rintro e wn ⟨rfl, hbn⟩
      have hqn := hqc.trans (hbn.mono hqc.size)
      obtain ⟨c3, c4, c5⟩ := hHeld
      have c3n := (hbn.cell (cell_lt c3)).trans c3
      have c4n := (hbn.cell (cell_lt c4)).trans c4
      have c5n := (hbn.cell (cell_lt c5)).trans c5
      try dsimp only
      refine hK.out _ _ ?h8 (fun hHeld => ?_)
      case h8 => first | exact ⟨‹_›, ‹_›, ‹_›⟩ | (simp [*, go_sem])
      clear hK K
      try simp only [Act.put, List.setIfInBounds_toArray, List.set_cons_zero, List.set_cons_succ]
      refine wpAnyH_take (i := 7) (v := ?v9) (by simp only [List.getElem?_toArray, List.getElem?_cons_succ, List.getElem?_cons_zero]; exact rfl) (by kernel_rfl) (by kernel_rfl) (by kernel_rfl) (by intro _ _ _ h; exact h) (Or.inl ⟨by rfl, ?y9⟩) hHeld ?_
      case y9 => (intro w hSw; (try dsimp only at hSw); go_simp; try (with_reducible rfl))
      try simp only [Act.put, List.setIfInBounds_toArray, List.set_cons_zero, List.set_cons_succ]
      refine wpAnyH_done (by kernel_rfl) ?_ _
      go_wp2
      go_ret2
      rw [HF.out]
      exact ⟨_, rfl, SlI.emptyI _ _ _ _, hqn.alloc hqn.size _⟩
    have hrb := riseB_true hri
    rw [hrb] at hso
    have hrl := rise_len hri (by omega)
    clear hrb HSO
    go_wp2
    refine wp_region_held_drew (S := (fun w' => w'.cell? ⟨w.heap.size, 0, none⟩ = some (.slice ga g.length gc) ∧ w'.cell? ⟨w.heap.size + 1, 0, none⟩ = some (.slice (some ⟨mb, moff, none⟩) ms.length mcap) ∧ w'.cell? ⟨mb, moff + k, none⟩ = some (mf k))) (by kernel_rfl) ?_ (fun hHeld => ?_)
    · first | exact ⟨‹_›, ‹_›, ‹_›⟩ | (simp [*, go_sem])
    have hqc := hq.drew
    have hrowc := hrow.drew
    have hownc := hown.below (Below.refl wr.heap.size wr).drew (Nat.le_refl _)
    generalize World.drew _ = wd at hqc hrowc hownc hHeld ⊢
    refine wpAnyH_take (i := 0) (v := ?v10) (by simp only [List.getElem?_toArray, List.getElem?_cons_zero]; exact rfl) (by kernel_rfl) (by kernel_rfl) (by kernel_rfl) (by intro _ _ _ h; exact h) (Or.inl ⟨by rfl, ?y10⟩) hHeld ?_
    case y10 => (intro w hSw; (try dsimp only at hSw); go_simp; try (with_reducible rfl))
    try simp only [Act.put, List.setIfInBounds_toArray, List.set_cons_zero, List.set_cons_succ]
    refine wpAnyH_take (i := 1) (v := ?v11) (by simp only [List.getElem?_toArray, List.getElem?_cons_succ, List.getElem?_cons_zero]; exact rfl) (by kernel_rfl) (by kernel_rfl) (by kernel_rfl) (by intro _ _ _ h; exact h) (Or.inl ⟨by rfl, ?y11⟩) hHeld ?_
    case y11 => (intro w hSw; (try dsimp only at hSw); go_simp; try (with_reducible rfl))
    try simp only [Act.put, List.setIfInBounds_toArray, List.set_cons_zero, List.set_cons_succ]
    refine wpAnyH_take (i := 2) (v := ?v12) (by simp only [List.getElem?_toArray, List.getElem?_cons_succ, List.getElem?_cons_zero]; exact rfl) (by kernel_rfl) (by kernel_rfl) (by kernel_rfl) (by intro _ _ _ h; exact h) (Or.inl ⟨by rfl, ?y12⟩) hHeld ?_
    case y12 => (intro w hSw; (try dsimp only at hSw); go_simp; try (with_reducible rfl))
    try simp only [Act.put, List.setIfInBounds_toArray, List.set_cons_zero, List.set_cons_succ]
    refine wpAnyH_take (i := 3) (v := ?v13) (by simp only [List.getElem?_toArray, List.getElem?_cons_succ, List.getElem?_cons_zero]; exact rfl) (by kernel_rfl) (by kernel_rfl) (by kernel_rfl) (by intro _ _ _ h; exact h) (Or.inl ⟨by rfl, ?y13⟩) hHeld ?_
    case y13 => (intro w hSw; (try dsimp only at hSw); go_simp; try (with_reducible rfl))
    try simp only [Act.put, List.setIfInBounds_toArray, List.set_cons_zero, List.set_cons_succ]
    refine wpAnyH_take (i := 4) (v := ?v14) (by simp only [List.getElem?_toArray, List.getElem?_cons_succ, List.getElem?_cons_zero]; exact rfl) (by kernel_rfl) (by kernel_rfl) (by kernel_rfl) (by intro _ _ _ h; exact h) (Or.inl ⟨by rfl, ?y14⟩) hHeld ?_
    case y14 => (intro w hSw; (try dsimp only at hSw); go_simp; try (with_reducible rfl))
    try simp only [Act.put, List.setIfInBounds_toArray, List.set_cons_zero, List.set_cons_succ]
    refine wpAnyH_take (i := 5) (v := ?v15) (by simp only [List.getElem?_toArray, List.getElem?_cons_succ, List.getElem?_cons_zero]; exact rfl) (by kernel_rfl) (by kernel_rfl) (by kernel_rfl) (by intro _ _ _ h; exact h) (Or.inl ⟨by rfl, ?y15⟩) hHeld ?_
    case y15 => (intro w hSw; (try dsimp only at hSw); go_simp; try (with_reducible rfl))
    try simp only [Act.put, List.setIfInBounds_toArray, List.set_cons_zero, List.set_cons_succ]
    refine wpAnyH_ready (rs := [6]) (by kernel_rfl) (by simp) ?_
    refine AllReadyH.cons (by simp only [List.getElem?_toArray, List.getElem?_cons_succ, List.getElem?_cons_zero]; exact rfl) (fun K hK => ?_) AllReadyH.nil
    go_simp
    refine (hso _ hqc hrowc).mono ?_
    rintro e wn ⟨rfl, hbn⟩
    have hqn := hqc.trans (hbn.mono hqc.size)
    obtain ⟨c3, c4, c5⟩ := hHeld
    have c3n := (hbn.cell (cell_lt c3)).trans c3
    have c4n := (hbn.cell (cell_lt c4)).trans c4
    have c5n := (hbn.cell (cell_lt c5)).trans c5
    have hownn := hownc.below hbn (Nat.le_refl _)
    try dsimp only
    refine hK.out _ _ ?h17 (fun hHeld => ?_)
    case h17 => first | exact ⟨‹_›, ‹_›, ‹_›⟩ | (simp [*, go_sem])
    clear hK K
    try simp only [Act.put, List.setIfInBounds_toArray, List.set_cons_zero, List.set_cons_succ]
    refine wpAnyH_take (i := 7) (v := ?v18) (by simp only [List.getElem?_toArray, List.getElem?_cons_succ, List.getElem?_cons_zero]; exact rfl) (by kernel_rfl) (by kernel_rfl) (by kernel_rfl) (by intro _ _ _ h; exact h) (Or.inl ⟨by rfl, ?y18⟩) hHeld ?_
    case y18 => (intro w hSw; (try dsimp only at hSw); go_simp; try (with_reducible rfl))
    try simp only [Act.put, List.setIfInBounds_toArray, List.set_cons_zero, List.set_cons_succ]
    refine wpAnyH_done (by kernel_rfl) ?_ _
    clear hown hq hbg hbm hqc hrowc hownc c3 c4 c5 hrow hcm hso
    have HHS := Lib.hid hst; clear hst
    go_wp2
    go_loopw [8] (fun i wr => ∃ j : Nat, j ≤ ms[k].length ∧ i = .int .i64 j ∧ (∀ v ∈ ms[k].take j, ¬ metL ms k v) ∧ Own wr (w.heap.size + 2) 2 1 (.slice (some ⟨w1.heap.size, 0, none⟩) g.length g.length) g.length ((paintL (wordL g.length ms k) (ms[k].take j) ((k : Int) + 1)).map (.int .i64)) ∧ Below w.heap.size w wr ∧
      wr.cell? ⟨w.heap.size, 0, none⟩ = some (.slice ga g.length gc) ∧ wr.cell? ⟨w.heap.size + 1, 0, none⟩ = some (.slice (some ⟨mb, moff, none⟩) ms.length mcap)) (fun i _ => ms[k].length - (intOf i).toNat)
    case atStart => exact ⟨0, Nat.zero_le _, rfl, (fun v hv => by simp at hv), by simpa [paintL] using hownn, hqn, c3n, c4n⟩
    case round =>
      clear hownn hqn c3n c4n c5n hbn
      obtain ⟨wi, rfl⟩ : ∃ x : World, x = wr := ⟨_, rfl⟩
      obtain ⟨j, hj, rfl, hmet, hown, hq, hbg, hbm⟩ := hrel
      have HMET := Lib.hid hmet; clear hmet
      obtain ⟨hcm, hrow⟩ := (hmc0.below hq (Nat.le_refl _)) k hlt
      obtain ⟨ra, rb, roff, rcap, hfe, hrl2, hra, hrc⟩ := hrow
      rw [hfe] at hcm
      by_cases hlt2 : j < ms[k].length
      case neg =>
        obtain rfl : j = ms[k].length := by omega
        rw [List.take_length] at hown
        have hnx := setsTo_succ HHS.out (by rw [hgk]; exact hri) (fun v hv => HMET.out v (by rw [List.take_length]; rw [hgk] at hv; exact hv))
        have HNX := Lib.hid hnx; have HG := Lib.hid hgk; clear hnx hri hgk
        go_wp2
        go_roundw
        case rel => exact ⟨k + 1, by omega, by go_num, HNX.out, by rw [wordL, HG.out]; exact hown, hq, hbg, hbm⟩
        case measure => simp [intOf]; omega
      have hcell := hrc j hlt2
      obtain ⟨rfl, -⟩ := hra (by omega)
      have hxr := hri j hlt2 hlt2
      obtain ⟨x, hx⟩ := Int.eq_ofNat_of_zero_le hxr.1
      have hxn : x < g.length := by omega
      have hpl : (paintL (wordL g.length ms k) (ms[k].take j) ((k : Int) + 1)).length = g.length := by rw [paintL_len]; exact hHW.out
      have hpt := paintL_take (o := wordL g.length ms k) (x := (k : Int) + 1) hlt2
      have hnt := rise_take_not hri hlt2
      have hval := paintL_get (x := (k : Int) + 1) (i := x) (s := ms[k].take j) (o := wordL g.length ms k) (fun v hv => (rise_ge hri v (List.mem_of_mem_take hv)).1) (by rw [hHW.out]; exact hxn)
      rw [hx] at hcell hpt hnt
      rw [if_neg hnt] at hval
      have hwp := word_pos HHS.out hxn
      have hoc := own_int hown (by rw [hpl]; exact hxn) hpl
      rw [hval] at hoc
      have hfz := World.ownsRow.frozenAt hown x
      have hmx := take_step (P := fun v => ¬ metL ms k v) hlt2 HMET.out
      rw [hx] at hmx
      have hbad := fun h => HNO.out (setsTo_bad_met (v := (x : Int)) hlt (by rw [hgk, ← hx]; exact List.getElem_mem _) h)
      have hos := own_int_set hown x ((k : Int) + 1)
      rw [Int.toNat_natCast] at hpt
      rw [← hpt] at hos
      generalize (wordL g.length ms k).getD x 0 = y at hoc hwp
      have HX := Lib.hid hx; have HPT := Lib.hid hpt; have HBAD := Lib.hid hbad; have HMX := Lib.hid hmx; have HPL := Lib.hid hpl; have HVAL := Lib.hid hval; have HGK := Lib.hid hgk; clear hx hpt hnt hval hbad hmx hpl hgk
      have HOS := Lib.hid hos; clear hos
      by_cases hy : 0 < y
      · have hb : decide (0 < y) = true := by simpa using hy
        have hF := HBAD.out (hwp.1.1 hy)
        have HF := Lib.hid hF; clear hF hwp
        go_wp2
        go_ret2
        rw [HF.out]
        exact ⟨_, rfl, SlI.emptyI _ _ _ _, hq.alloc hq.size _⟩
      · have hb : decide (0 < y) = false := by simpa using hy
        have hnm : ¬ metL ms k (x : Int) := fun h => hy (hwp.1.2 h)
        have HNM := Lib.hid hnm; clear hnm hwp
        have hbl : ∀ b, b ≠ w1.heap.size → (wi.setCell ⟨w1.heap.size, x, none⟩ (.int .i64 ((k : Int) + 1))).heap[b]? = wi.heap[b]? := fun b hb => Below.heap_setCell _ _ _ _ (by simpa using hb)
        go_wp2
        go_roundw
        case rel => exact ⟨j + 1, by omega, by go_num, HMX.out HNM.out, HOS.out, hq.setCell (by simp; omega) _, (World.cell?_of_block (a := ⟨w.heap.size, 0, none⟩) (hbl _ (by show w.heap.size ≠ w1.heap.size; omega))).trans hbg, (World.cell?_of_block (a := ⟨w.heap.size + 1, 0, none⟩) (hbl _ (by show w.heap.size + 1 ≠ w1.heap.size; omega))).trans hbm⟩
        case measure => simp [intOf]; omega
/-- The masks of the sets, if all are right. -/
def masksOf (ms : List (List Int)) (k : Nat) : List Nat := (ms.take k).map maskL
theorem masksOf_succ {ms : List (List Int)} {k : Nat} (hk : k < ms.length) : masksOf ms (k + 1) = masksOf ms k ++ [maskL ms[k]] := by
  unfold masksOf; rw [List.take_succ_eq_append_getElem hk, List.map_append]; rfl
theorem masksOf_len {ms : List (List Int)} {k : Nat} (hk : k ≤ ms.length) : (masksOf ms k).length = k := by simp [masksOf]; omega
theorem seen_meet {n : Nat} {ms : List (List Int)} {k : Nat} (hk : k < ms.length) (h : SetsTo n ms k) (hr : Rise ms[k] n) : maskL ms[k] &&& seenL ms k = 0 ↔ ∀ v ∈ ms[k], ¬ metL ms k v := by
  constructor
  · intro h0 v hv hm
    have hv0 := (rise_ge hr v hv).1
    have h1 := testBit_maskL (fun x hx => (rise_ge hr x hx).1) v.toNat
    have h2 := (seenL_bit h v.toNat).2 (by rw [Int.toNat_of_nonneg hv0]; exact hm)
    have h3 := Nat.testBit_and (maskL ms[k]) (seenL ms k) v.toNat
    rw [h0, Nat.zero_testBit, h2, h1, Int.toNat_of_nonneg hv0] at h3
    simp [hv] at h3
  · intro h0
    apply nat_ext
    intro i
    rw [Nat.testBit_and, Nat.zero_testBit]
    cases hi : (maskL ms[k]).testBit i
    · rfl
    · rw [testBit_maskL (fun x hx => (rise_ge hr x hx).1), decide_eq_true_eq] at hi
      cases hs : (seenL ms k).testBit i
      · rfl
      · exact absurd ((seenL_bit h i).1 hs) (h0 _ hi)
theorem elVs2 : Elem Tryd.prog 66 71 1 4 (.int .u32 0) := ⟨Tryd.underlying66, by kernel_rfl, rfl, by omega, by omega⟩
set_option maxRecDepth 100000 in
set_option maxHeartbeats 8000000 in
theorem modelMasks_any {S S' : Nat → Prop} {gv mv : Value} {g ms : List (List Int)} {w : World} (hvg : SlR S w gv g) (hvm : SlR S' w mv ms) :
    Calls Tryd.prog 79 #[.agg #[gv], .agg #[mv]] w fun e w' => ∃ u, e = .returned (.tuple #[u, .bool (modelF g ms).isSome]) ∧ (modelF g ms = none → u = .slice none 0 0) ∧ (modelF g ms ≠ none → Own w' w.heap.size 71 1 u ms.length ((natsI (masksOf ms ms.length)).map (.int .u32))) ∧ Below w.heap.size w w' := by
  have hq0 : Below w.heap.size w ((w.alloc (.cells #[gv] 27)).alloc (.cells #[mv] 44)) := ((Below.refl _ _).alloc (Nat.le_refl _) _).alloc (by simp) _
  obtain ⟨ga, gc, rfl⟩ := hvg.slice
  have hgo := implGraphOk_any _ _ _ (hvg.below hq0 (Nat.le_refl _))
  by_cases hgg : gokB g = true
  case neg =>
    have hgg' : gokB g = false := by simpa using hgg
    rw [hgg'] at hgo
    obtain ⟨ma, mc, rfl⟩ := hvm.slice
    have hE := modelF_no (g := g) (ms := ms) (fun h => by rw [hgg'] at h; cases h.1)
    rw [hE]
    clear hgg hgg' hE
    go_enter Tryd.func79, Tryd.ntmps79
    go_wp2_with fail
    refine hgo.mono ?_
    rintro e w1 ⟨rfl, hb1⟩
    go_wp2
    go_ret2
    exact ⟨_, rfl, fun _ => rfl, fun h => absurd rfl h, hq0.trans (hb1.mono hq0.size)⟩
  rw [hgg] at hgo
  have hg := gokB_iff.1 hgg
  have h16 := hg.hi
  have hlm := hvm.len
  by_cases hm16 : ms.length ≤ 16
  case neg =>
    have hb1 : decide ((16 : Int) < (ms.length : Int)) = true := by simp; omega
    have hb2 : decide (16 < ms.length) = true := by simp; omega
    obtain ⟨ma, mc, rfl⟩ := hvm.slice
    have hE := modelF_no (g := g) (ms := ms) (fun h => hm16 h.2.1)
    rw [hE]
    clear hgg hE
    go_enter Tryd.func79, Tryd.ntmps79
    go_wp2_with fail
    refine hgo.mono ?_
    rintro e w1 ⟨rfl, hb1⟩
    have c4 : w1.cell? ⟨w.heap.size + 1, 0, none⟩ = some (.slice ma ms.length mc) := (hb1.cell (p := ⟨w.heap.size + 1, 0, none⟩) (by simp)).trans (by simp [go_sem])
    go_wp2
    go_ret2
    exact ⟨_, rfl, fun _ => rfl, fun h => absurd rfl h, hq0.trans (hb1.mono hq0.size)⟩
  have hb1 : decide ((16 : Int) < (ms.length : Int)) = false := by simp; omega
  have hb2 : decide (16 < ms.length) = false := by simp; omega
  have hno := fun (h : ¬ SetsTo g.length ms ms.length) => modelF_no (g := g) (ms := ms) (fun h2 => h h2.2.2)
  have hyes := fun (h : SetsTo g.length ms ms.length) => modelF_yes (g := g) (ms := ms) ⟨hgg, hm16, h⟩
  have HNO := Lib.hid hno; have HYES := Lib.hid hyes; clear hno hyes
  obtain ⟨ma, mb, moff, mcap, mf, rfl, hml, hma, hmc0⟩ := hvm
  have HSO := fun (w1 : World) (hb : Below w.heap.size w w1) (S2 : Nat → Prop) (u : Value) (s : List Int) (hu : SlI S2 w1 .i64 u s) => implSetOk_any _ _ _ _ _ (hvg.below hb (Nat.le_refl _)) hu
  have hset : ∀ s, setOkB g s = riseB s g.length := fun s => by simp [setOkB, hgg]
  simp only [hset] at HSO
  clear hgg hset
  go_enter Tryd.func79, Tryd.ntmps79
  go_wp2_with fail
  refine hgo.mono ?_
  rintro e w1 ⟨rfl, hb1⟩
  have hq1 := hq0.trans (hb1.mono hq0.size)
  have c3 : w1.cell? ⟨w.heap.size, 0, none⟩ = some (.slice ga g.length gc) := (hb1.cell (p := ⟨w.heap.size, 0, none⟩) (by simp; omega)).trans (by simp [go_sem])
  have c4 : w1.cell? ⟨w.heap.size + 1, 0, none⟩ = some (.slice ma ms.length mcap) := (hb1.cell (p := ⟨w.heap.size + 1, 0, none⟩) (by simp)).trans (by simp [go_sem])
  have hz1 : w.heap.size + 2 ≤ w1.heap.size := by have := cell_lt c4; simp at this; omega
  clear hgo
  have c4a := (World.cell?_alloc_some w1 ⟨w.heap.size + 1, 0, none⟩ (.cells #[] 71) (by rw [c4]; rfl)).trans c4
  go_wp2
  go_loopw [6, 7, 23] (fun o s i wr => ∃ k : Nat, k ≤ ms.length ∧ i = .int .i64 k ∧ s = .int .u32 (seenL ms k : Int) ∧ SetsTo g.length ms k ∧ Own wr (w.heap.size + 2) 71 1 o k ((natsI (masksOf ms k)).map (.int .u32)) ∧ Below w.heap.size w wr ∧ w.heap.size + 2 ≤ wr.heap.size ∧ wr.cell? ⟨w.heap.size, 0, none⟩ = some (.slice ga g.length gc)) (fun _ _ i _ => ms.length - (intOf i).toNat)
  case atStart =>
    refine ⟨0, Nat.zero_le _, rfl, rfl, (fun j hj => by omega), ?_, hq1.alloc hq1.size _, by simp; omega, (World.cell?_alloc_some w1 ⟨w.heap.size, 0, none⟩ _ (by rw [c3]; rfl)).trans c3⟩
    have := World.ownsRow_lit (base := w.heap.size + 2) (e := 71) (size := 1) w1 #[] 0 hz1 (by unfold maxLen; omega) rfl
    simpa [Own, masksOf, natsI] using this
  case round =>
    clear c3 c4 c4a hq1
    obtain ⟨k, hk, rfl, rfl, hst, hown, hq, hz, hbg⟩ := hrel
    by_cases hlt : k < ms.length
    case neg =>
      obtain rfl : k = ms.length := by omega
      have hF := HYES.out hst
      have HF := Lib.hid hF; clear hF HNO HYES hst HSO
      go_wp2
      go_ret2
      rw [HF.out]
      exact ⟨_, rfl, (fun h => by cases h), fun _ => hown.weak (by omega), hq⟩
    obtain ⟨hcm, hrow⟩ := (hmc0.below hq (Nat.le_refl _)) k hlt
    obtain ⟨rfl, -⟩ := hma (by omega)
    have hgk := getD_lt (d := []) hlt
    have hso := HSO wr hq S' (mf k) ms[k] hrow
    have hs32 : seenL ms k < 4294967296 := by
      have := seenL_lt h16 hst; have := pow_le16 h16; omega
    obtain ⟨ra, rc, hfe⟩ := hrow.slice
    have hrow0 := (hmc0 k hlt).2
    rw [hfe] at hcm hrow hso hrow0
    by_cases hri : Rise ms[k] g.length
    case neg =>
      have hrb := riseB_false hri
      rw [hrb] at hso
      have hF := HNO.out (setsTo_bad_rise hlt (by rw [hgk]; exact hri))
      have HF := Lib.hid hF
      clear hF HNO HYES hrb hri HSO hgk hst
      go_wp2_with fail
      refine hso.mono ?_
      rintro e w2 ⟨rfl, hb2⟩
      clear hso
      go_wp2
      go_ret2
      rw [HF.out]
      exact ⟨_, rfl, fun _ => rfl, fun h => absurd rfl h, hq.trans (hb2.mono hq.size)⟩
    have hrb := riseB_true hri
    rw [hrb] at hso
    have h32 : ∀ x ∈ ms[k], 0 ≤ x ∧ x < 32 := fun x hx => by have := rise_ge hri x hx; omega
    have hm32 := maskL_lt32 h32
    have hand := u32_and_nat (maskL ms[k]) (seenL ms k) hm32 hs32
    have hor := u32_or_nat (seenL ms k) (maskL ms[k]) hs32 hm32
    have hsm := seen_meet hlt hst hri
    have hss : seenL ms (k + 1) = seenL ms k ||| maskL ms[k] := by rw [seenL, hgk]
    have HSS := Lib.hid hss; have HOR := Lib.hid hor; clear hss hor
    have HHS := Lib.hid hst; clear hst hrb HSO
    by_cases h0 : maskL ms[k] &&& seenL ms k = 0
    case neg =>
      have hb : (((maskL ms[k] &&& seenL ms k : Nat) : Int) != 0) = true := by rw [bne_iff_ne]; omega
      have hbad : ¬ SetsTo g.length ms ms.length := by
        have : ¬ ∀ v ∈ ms[k], ¬ metL ms k v := fun h => h0 (hsm.2 h)
        intro hst
        apply this
        intro v hv hm
        exact setsTo_bad_met hlt (by rw [hgk]; exact hv) hm hst
      have hF := HNO.out hbad
      have HF := Lib.hid hF
      clear hF HNO HYES hri hgk hbad hsm h0
      go_wp2_with fail
      refine hso.mono ?_
      rintro e w2 ⟨rfl, hb2⟩
      clear hso
      have hrow2 := hrow.below hb2 (Nat.le_refl _)
      go_wp2_with (go_at_call 100; refine (maskOf_any _ _ _ hrow2 h32).mono ?_; rintro e w' ⟨rfl, rfl⟩)
      go_ret2
      rw [HF.out]
      exact ⟨_, rfl, fun _ => rfl, fun h => absurd rfl h, hq.trans (hb2.mono hq.size)⟩
    have hb : (((maskL ms[k] &&& seenL ms k : Nat) : Int) != 0) = false := by rw [h0]; rfl
    have hnx := setsTo_succ HHS.out (by rw [hgk]; exact hri) (fun v hv => hsm.1 h0 v (by rw [hgk] at hv; exact hv))
    have HNX := Lib.hid hnx; clear hnx hsm hri hgk
    have H0 := Lib.hid h0; clear h0
    go_wp2_with fail
    refine hso.mono ?_
    rintro e w2 ⟨rfl, hb2⟩
    clear hso
    have hrow2 := hrow.below hb2 (Nat.le_refl _)
    have hq2 := hq.trans (hb2.mono hq.size)
    have hB2 : w.heap.size + 2 ≤ w2.heap.size := Nat.le_trans hz hb2.size
    have hown2 := hown.below hb2 (Nat.le_refl _)
    have hbg2 := (hb2.cell (cell_lt hbg)).trans hbg
    go_wp2_with (first
      | (go_at_call 100; (first | refine (maskOf_any _ _ _ hrow3 h32).mono ?_ | refine (maskOf_any _ _ _ hrow2 h32).mono ?_); rintro e w' ⟨rfl, rfl⟩)
      | (at_builtin; refine wpList_append1 elVs2 rfl _ _ rfl hown2 rfl rfl rfl (by omega) hB2 ?_; intro v' w3 hown3 hkept hmv; have hq3 := hkept.below hq2 hq2.size (fun b hb => by have := hown2.ge b hb; omega); have hrow3 := hrow0.below hq3 (Nat.le_refl _)))
    go_roundw
    case rel => exact ⟨k + 1, by omega, by go_num, by rw [HSS.out]; exact congrArg (Value.int .u32) HOR.out, HNX.out, by rw [masksOf_succ hlt]; simpa [natsI] using hown3, hq3, Nat.le_trans hB2 hkept.2.2.2.1, (World.cell?_of_block (a := ⟨w.heap.size, 0, none⟩) (hkept.2.2.2.2 w.heap.size (cell_lt hbg2) (fun e => by have := hown2.ge _ e.symm; omega))).trans hbg2⟩
    case measure => simp [intOf]; omega
set_option maxRecDepth 100000 in
set_option maxHeartbeats 8000000 in
theorem implModelWord_any {S S' : Nat → Prop} {gv mv : Value} {g ms : List (List Int)} {w : World} (ht : Tab w) (hvg : SlR S w gv g) (hvm : SlR S' w mv ms) :
    Calls Tryd.prog 30 #[.agg #[gv], .agg #[mv]] w (TwoOI 2 (modelF g ms) w) := by
  have hq0 : Below w.heap.size w ((w.alloc (.cells #[gv] 27)).alloc (.cells #[mv] 44)) := ((Below.refl _ _).alloc (Nat.le_refl _) _).alloc (by simp) _
  obtain ⟨ga, gc, rfl⟩ := hvg.slice
  obtain ⟨ma, mc, rfl⟩ := hvm.slice
  have hmm := modelMasks_any (hvg.below hq0 (Nat.le_refl _)) (hvm.below hq0 (Nat.le_refl _))
  have hcase : modelF g ms = none ∨ (gokB g = true ∧ ms.length ≤ 16 ∧ SetsTo g.length ms ms.length) ∧ modelF g ms = some (wordL g.length ms ms.length) := by
    by_cases h : gokB g = true ∧ ms.length ≤ 16 ∧ SetsTo g.length ms ms.length
    · exact .inr ⟨h, modelF_yes h⟩
    · exact .inl (modelF_no h)
  rcases hcase with hE | ⟨⟨hgg, hm16, hst⟩, hE⟩
  · rw [hE] at hmm ⊢
    clear hE
    go_enter Tryd.func30, Tryd.ntmps30
    go_wp2_with fail
    refine hmm.mono ?_
    rintro e w1 ⟨u, rfl, hu, -, hb1⟩
    obtain rfl : u = .slice none 0 0 := by simpa using hu
    clear hmm
    go_wp2
    go_ret2
    exact ⟨_, rfl, Own.nil _ _ _ _, hq0.trans (hb1.mono hq0.size)⟩
  have hg := gokB_iff.1 hgg
  have h16 := hg.hi
  rw [hE] at hmm ⊢
  have hmk := run_make_row' (P := Tryd.prog) 41 2 (.int .i64 0) 8 elI64.ht elI64.hi rfl .i64 .i64 g.length (by omega) (by omega)
  have HST := Lib.hid hst
  clear hE hgg hst
  go_enter Tryd.func30, Tryd.ntmps30
  go_wp2_with fail
  refine hmm.mono ?_
  rintro e w1 ⟨u, rfl, -, hu, hb1⟩
  have hu := hu (by simp)
  have hq1 := hq0.trans (hb1.mono hq0.size)
  have c3 : w1.cell? ⟨w.heap.size, 0, none⟩ = some (.slice ga g.length gc) := (hb1.cell (p := ⟨w.heap.size, 0, none⟩) (by simp; omega)).trans (by simp [go_sem])
  clear hmm
  have hml := masksOf_len (Nat.le_refl ms.length)
  have hui := Own.ints (xs := natsI (masksOf ms ms.length)) hu (by omega)
  obtain ⟨ub, uo, ucap, hue, huc0⟩ := hui.at_
  obtain ⟨ua, uc, rfl⟩ := hu.isSlice
  rw [natsI_len, hml] at hue
  have hown0 : Own (w1.alloc (.cells (madeCells #[.int .i64 0] g.length) 2)) w1.heap.size 2 1 (.slice (some ⟨w1.heap.size, 0, none⟩) g.length g.length) g.length ((wordL g.length ms 0).map (.int .i64)) := by
    have := Own.made w1 w1.heap.size 2 (.int .i64 0) g.length (Nat.le_refl _) (by omega)
    simpa [wordL] using this
  go_wp2
  go_loopw [27] (fun i wr => ∃ k : Nat, k ≤ ms.length ∧ i = .int .i64 k ∧ Own wr w1.heap.size 2 1 (.slice (some ⟨w1.heap.size, 0, none⟩) g.length g.length) g.length ((wordL g.length ms k).map (.int .i64)) ∧ Below w1.heap.size w1 wr) (fun i _ => ms.length - (intOf i).toNat)
  case atStart => exact ⟨0, Nat.zero_le _, rfl, hown0, (Below.refl _ _).alloc (Nat.le_refl _) _⟩
  case round =>
    clear hown0 hmk c3
    obtain ⟨k, hk, rfl, hown, hqr⟩ := hrel
    have hwl := wordL_len g.length ms k
    by_cases hlt : k < ms.length
    case neg =>
      obtain rfl : k = ms.length := by omega
      have HW := Lib.hid hwl; clear hwl
      go_wp2
      go_ret2
      refine ⟨_, rfl, ?_, hq1.trans (hqr.mono hq1.size)⟩
      simp only [Option.getD_some]
      rw [HW.out]
      exact hown.weak hq1.size
    have hgk := getD_lt (d := []) hlt
    have hri : Rise ms[k] g.length := by have := (HST.out k hlt).1; rwa [hgk] at this
    have h32 : ∀ x ∈ ms[k], 0 ≤ x ∧ x < 32 := fun x hx => by have := rise_ge hri x hx; omega
    have hm32 := maskL_lt32 h32
    have hbm := bitsI_maskL (rise_sorted hri) h32
    have hrl := rise_len hri (by omega)
    have hcm : wr.cell? ⟨ub, uo + k, none⟩ = some (.int .u32 (maskL ms[k] : Int)) := by
      have h0 := huc0 k (by rw [natsI_len, hml]; exact hlt)
      rw [hqr.cell (p := ⟨ub, uo + k, none⟩) (cell_lt h0), h0, natsI_get]
      simp [masksOf]
    have hue2 := hue (by omega)
    simp only [Value.slice.injEq] at hue2
    obtain ⟨rfl, -, rfl⟩ := hue2
    have hli := fun (w2 : World) (ht2 : Tab w2) => list_any (maskL ms[k]) w2 ht2 hm32
    rw [hbm] at hli
    have HGK := Lib.hid hgk; have HWL := Lib.hid hwl; clear hgk hbm hwl
    go_wp2_with (go_at_call 63; refine (hli _ (ht.below (hq1.trans (hqr.mono hq1.size)) (Nat.le_refl _))).mono ?_; rintro e w2 ⟨l, rfl, hl, hb2⟩; obtain ⟨la, lb, loff, lcap, rfl, hll, hla, hlc0⟩ := hl.ints (by omega))
    have hq2 := hqr.trans (hb2.mono hqr.size)
    have hown2 := hown.below hb2 (Nat.le_refl _)
    have hlB := hl.ge
    have hwl1 : w1.heap.size < wr.heap.size := (hown.lt w1.heap.size (by simp [Value.ownBlock])).2
    clear hli hown
    go_loopw [35] (fun i wr => ∃ j : Nat, j ≤ ms[k].length ∧ i = .int .i64 j ∧ Own wr w1.heap.size 2 1 (.slice (some ⟨w1.heap.size, 0, none⟩) g.length g.length) g.length ((paintL (wordL g.length ms k) (ms[k].take j) ((k : Int) + 1)).map (.int .i64)) ∧ Below w1.heap.size w1 wr ∧ (∀ b, b ≠ w1.heap.size → b < w2.heap.size → wr.heap[b]? = w2.heap[b]?)) (fun i _ => ms[k].length - (intOf i).toNat)
    case atStart => exact ⟨0, Nat.zero_le _, rfl, by simpa [paintL] using hown2, hq2, fun _ _ _ => rfl⟩
    case round =>
      clear hown2 hqr hcm
      obtain ⟨wi, rfl⟩ : ∃ x : World, x = wr := ⟨_, rfl⟩
      obtain ⟨j, hj, rfl, hown, hq, hkp⟩ := hrel
      by_cases hlt2 : j < ms[k].length
      case neg =>
        obtain rfl : j = ms[k].length := by omega
        rw [List.take_length] at hown
        go_wp2
        go_roundw
        case rel => exact ⟨k + 1, by omega, by go_num, by rw [wordL, HGK.out]; exact hown, hq⟩
        case measure => simp [intOf]; omega
      have hxr := hri j hlt2 hlt2
      have hcell0 := hlc0 j hlt2
      obtain ⟨rfl, -⟩ := hla (by omega)
      have hlb1 := hlB lb (by simp [Value.ownBlock])
      have hlb2 : lb < w2.heap.size := cell_lt hcell0
      have hwrs := hb2.size
      have hlbne : lb ≠ w1.heap.size := fun e => by
        omega
      have hcell : wi.cell? ⟨lb, loff + j, none⟩ = some (.int .i64 ms[k][j]) := (World.cell?_of_block (a := ⟨lb, loff + j, none⟩) (hkp lb hlbne hlb2)).trans hcell0
      obtain ⟨x, hx⟩ := Int.eq_ofNat_of_zero_le hxr.1
      have hxn : x < g.length := by omega
      have hpl : (paintL (wordL g.length ms k) (ms[k].take j) ((k : Int) + 1)).length = g.length := by rw [paintL_len]; exact HWL.out
      have hpt := paintL_take (o := wordL g.length ms k) (x := (k : Int) + 1) hlt2
      rw [hx] at hcell hpt
      have hoc := own_int hown (by rw [hpl]; exact hxn) hpl
      have hfz := World.ownsRow.frozenAt hown x
      have hos := own_int_set hown x ((k : Int) + 1)
      rw [Int.toNat_natCast] at hpt
      rw [← hpt] at hos
      have HX := Lib.hid hx; have HPT := Lib.hid hpt; have HPL := Lib.hid hpl; have HOS := Lib.hid hos; clear hx hpt hpl hos hcell0
      go_wp2
      go_roundw
      case rel => exact ⟨j + 1, by omega, by go_num, HOS.out, hq.setCell (by simp) _, fun b hb hb2 => (Below.heap_setCell _ _ _ _ (by simpa using hb)).trans (hkp b hb hb2)⟩
      case measure => simp [intOf]; omega
theorem outPI {S : Nat → Prop} {f : Option (List Int)} {w w' : World} {e : Ending} (h : TwoI S f w e w') : ∃ u0, e = .returned (.tuple #[u0, .bool f.isSome]) ∧ SlI (fun b => b < w'.heap.size) w' .i64 u0 (f.getD []) ∧ Below w.heap.size w w' := by
  obtain ⟨u, h1, h2, h3⟩ := h
  exact ⟨u, h1, h2.low2, h3⟩
theorem modelF_long {g ms : List (List Int)} : ((modelF g ms).getD []).length ≤ 1048576 := by
  by_cases h : gokB g = true ∧ ms.length ≤ 16 ∧ SetsTo g.length ms ms.length
  · rw [modelF_yes h]
    have := (gokB_iff.1 h.1).hi
    simp only [Option.getD_some]
    rw [wordL_len]; omega
  · rw [modelF_no h]; simp
theorem conModelWord {g0 : List (List Int)} {m1 : List (List Int)} (hsm0 : SmallR g0 1048576) (hsm1 : SmallR m1 1048576) : ∃ (r0 : List Int) (r1 : Bool), (∀ {S0 S1 : Nat → Prop} {v0 v1 : Value} {w : World}, SlR S0 w v0 g0 → SlR S1 w v1 m1 → Calls Tryd.prog 28 #[.agg #[v0], .agg #[v1]] w fun e w' => ∃ u0, e = .returned (.tuple #[u0, .bool r1]) ∧ SlI (fun b => b < w'.heap.size) w' .i64 u0 r0 ∧ Below w.heap.size w w') ∧
    (∀ {S0 S1 : Nat → Prop} {v0 v1 : Value} {w : World}, Tab w → SlR S0 w v0 g0 → SlR S1 w v1 m1 → Calls Tryd.prog 30 #[.agg #[v0], .agg #[v1]] w fun e w' => ∃ u0, e = .returned (.tuple #[u0, .bool r1]) ∧ Own w' w.heap.size 2 1 u0 r0.length (r0.map (.int .i64)) ∧ Below w.heap.size w w') ∧
    r0.length ≤ 1048576 := by
  exact ⟨(modelF g0 m1).getD [], (modelF g0 m1).isSome, fun h0 h1 => (specModelWord_any h0 h1).mono fun e w' h => outPI h, fun ht h0 h1 => implModelWord_any ht h0 h1, modelF_long⟩
set_option maxHeartbeats 16000000 in
theorem lawModelWord_any {S0 S1 : Nat → Prop} (v0 : Value) (g0 : List (List Int)) (v1 : Value) (m1 : List (List Int)) (w : World) (ht : Tab w) (hv0 : SlR S0 w v0 g0) (hv1 : SlR S1 w v1 m1) :
    Calls Tryd.prog 8 #[.agg #[v0], .agg #[v1]] w fun e w' => e = .returned (.bool true) ∧ Below w.heap.size w w' := by
  obtain ⟨a0, c0, rfl⟩ := hv0.slice
  obtain ⟨a1, c1, rfl⟩ := hv1.slice
  have q0 : Below w.heap.size w ((w.alloc (.cells #[.slice a0 g0.length c0] 24)).alloc (.cells #[.slice a1 m1.length c1] 39)) := ((Below.refl _ _).alloc (Nat.le_refl _) _).alloc (by simp; try omega) _
  go_enter Tryd.func8, Tryd.ntmps8
  go_wp2_with fail
  refine (szGraph_any _ _ _ _ (hv0.below q0 (Nat.le_refl _)) (by omega) (by omega)).mono ?_
  rintro e w1 ⟨r1, rfl, hr1, hs1, hm1, hb1⟩
  have q1 := q0.trans (hb1.mono q0.size)
  have z0 := q0.size
  have z1 : w.heap.size + 2 ≤ w1.heap.size := by have := hb1.size; simp at this; omega
  have b0_1 : w1.cell? ⟨w.heap.size, 0, none⟩ = some (.slice a0 g0.length c0) := (hb1.cell (p := ⟨w.heap.size, 0, none⟩) (by simp <;> omega)).trans (by simp [go_sem])
  have b1_1 : w1.cell? ⟨w.heap.size + 1, 0, none⟩ = some (.slice a1 m1.length c1) := (hb1.cell (p := ⟨w.heap.size + 1, 0, none⟩) (by simp <;> omega)).trans (by simp [go_sem])
  by_cases hneg1 : r1 < 0
  case pos =>
    go_wp2
    go_ret
    exact ⟨rfl, q1⟩
  have hsm0 : SmallR g0 1048576 := hm1 (by omega)
  go_wp2_with fail
  refine (szModel_any _ _ _ _ (hv1.below q1 (Nat.le_refl _)) (by omega) (by omega)).mono ?_
  rintro e w2 ⟨r2, rfl, hr2, hs2, hm2, hb2⟩
  have q2 := q1.trans (hb2.mono q1.size)
  have z2 := hb2.size
  have b0_2 : w2.cell? ⟨w.heap.size, 0, none⟩ = some (.slice a0 g0.length c0) := (hb2.cell (p := ⟨w.heap.size, 0, none⟩) (cell_lt b0_1)).trans b0_1
  have b1_2 : w2.cell? ⟨w.heap.size + 1, 0, none⟩ = some (.slice a1 m1.length c1) := (hb2.cell (p := ⟨w.heap.size + 1, 0, none⟩) (cell_lt b1_1)).trans b1_1
  by_cases hneg2 : r2 < 0
  case pos =>
    go_wp2
    go_ret
    exact ⟨rfl, q2⟩
  have hsm1 : SmallR m1 1048576 := smallR_mono (hm2 (by omega)) (by omega)
  obtain ⟨r0, r1, hS, hI, hN0⟩ := conModelWord hsm0 hsm1
  have hB0 : r0.length ≤ 9223372036854775807 := by omega
  go_wp2
  refine wp_region_held_drew (S := (fun w' => w'.cell? ⟨w.heap.size, 0, none⟩ = some (.slice a0 g0.length c0) ∧ w'.cell? ⟨w.heap.size + 1, 0, none⟩ = some (.slice a1 m1.length c1))) (by kernel_rfl) ?_ (fun hHeld => ?_)
  · first | exact ⟨‹_›, ‹_›⟩ | assumption | (simp [*, go_sem])
  refine wpAnyH_take (i := 0) (v := ?v19) (by simp only [List.getElem?_toArray, List.getElem?_cons_zero]; exact rfl) (by kernel_rfl) (by kernel_rfl) (by kernel_rfl) (by intro _ _ _ h; exact h) (Or.inl ⟨by rfl, ?y19⟩) hHeld ?_
  case y19 => (intro w hSw; (try dsimp only at hSw); go_simp; try (with_reducible rfl))
  try simp only [Act.put, List.setIfInBounds_toArray, List.set_cons_zero, List.set_cons_succ]
  refine wpAnyH_take (i := 2) (v := ?v20) (by simp only [List.getElem?_toArray, List.getElem?_cons_succ, List.getElem?_cons_zero]; exact rfl) (by kernel_rfl) (by kernel_rfl) (by kernel_rfl) (by intro _ _ _ h; exact h) (Or.inl ⟨by rfl, ?y20⟩) hHeld ?_
  case y20 => (intro w hSw; (try dsimp only at hSw); go_simp; try (with_reducible rfl))
  try simp only [Act.put, List.setIfInBounds_toArray, List.set_cons_zero, List.set_cons_succ]
  refine wpAnyH_ready (rs := [1]) (by kernel_rfl) (by simp) ?_
  refine AllReadyH.cons (by simp only [List.getElem?_toArray, List.getElem?_cons_succ, List.getElem?_cons_zero]; exact rfl) (fun K hK => ?_) AllReadyH.nil
  go_simp
  have q2d := q2.drew
  refine (toGraph_any _ _ _ (hv0.below q2d (Nat.le_refl _)) hsm0).mono ?_
  rintro e w3 ⟨x3, rfl, y3_3, hb3⟩
  replace hb3 : Below w2.heap.size w2 w3 := ⟨hb3.os, hb3.tape, hb3.output, hb3.size, hb3.block⟩
  have q3 := q2.trans (hb3.mono q2.size)
  have z3 := hb3.size
  have b0_3 : w3.cell? ⟨w.heap.size, 0, none⟩ = some (.slice a0 g0.length c0) := (hb3.cell (p := ⟨w.heap.size, 0, none⟩) (cell_lt b0_2)).trans b0_2
  have b1_3 : w3.cell? ⟨w.heap.size + 1, 0, none⟩ = some (.slice a1 m1.length c1) := (hb3.cell (p := ⟨w.heap.size + 1, 0, none⟩) (cell_lt b1_2)).trans b1_2
  try dsimp only
  refine hK.out _ _ ?h22 (fun hHeld => ?_)
  case h22 => first | exact ⟨‹_›, ‹_›⟩ | assumption | (simp [*, go_sem])
  clear hK K
  try simp only [Act.put, List.setIfInBounds_toArray, List.set_cons_zero, List.set_cons_succ]
  refine wpAnyH_ready (rs := [3]) (by kernel_rfl) (by simp) ?_
  refine AllReadyH.cons (by simp only [List.getElem?_toArray, List.getElem?_cons_succ, List.getElem?_cons_zero]; exact rfl) (fun K hK => ?_) AllReadyH.nil
  go_simp
  refine (toModel_any _ _ _ (hv1.below q3 (Nat.le_refl _)) hsm1).mono ?_
  rintro e w4 ⟨x4, rfl, y4_4, hb4⟩
  have q4 := q3.trans (hb4.mono q3.size)
  have z4 := hb4.size
  have b0_4 : w4.cell? ⟨w.heap.size, 0, none⟩ = some (.slice a0 g0.length c0) := (hb4.cell (p := ⟨w.heap.size, 0, none⟩) (cell_lt b0_3)).trans b0_3
  have b1_4 : w4.cell? ⟨w.heap.size + 1, 0, none⟩ = some (.slice a1 m1.length c1) := (hb4.cell (p := ⟨w.heap.size + 1, 0, none⟩) (cell_lt b1_3)).trans b1_3
  have y3_4 := y3_3.below hb4 (Nat.le_refl _)
  try dsimp only
  refine hK.out _ _ ?h24 (fun hHeld => ?_)
  case h24 => first | exact ⟨‹_›, ‹_›⟩ | assumption | (simp [*, go_sem])
  clear hK K
  try simp only [Act.put, List.setIfInBounds_toArray, List.set_cons_zero, List.set_cons_succ]
  refine wpAnyH_ready (rs := [4]) (by kernel_rfl) (by simp) ?_
  refine AllReadyH.cons (by simp only [List.getElem?_toArray, List.getElem?_cons_succ, List.getElem?_cons_zero]; exact rfl) (fun K hK => ?_) AllReadyH.nil
  go_simp
  refine (hS y3_4 y4_4).mono ?_
  rintro e w5 ⟨w0u0, rfl, w0_0_5, hb5⟩
  have q5 := q4.trans (hb5.mono q4.size)
  have z5 := hb5.size
  have b0_5 : w5.cell? ⟨w.heap.size, 0, none⟩ = some (.slice a0 g0.length c0) := (hb5.cell (p := ⟨w.heap.size, 0, none⟩) (cell_lt b0_4)).trans b0_4
  have b1_5 : w5.cell? ⟨w.heap.size + 1, 0, none⟩ = some (.slice a1 m1.length c1) := (hb5.cell (p := ⟨w.heap.size + 1, 0, none⟩) (cell_lt b1_4)).trans b1_4
  have y3_5 := y3_4.below hb5 (Nat.le_refl _)
  have y4_5 := y4_4.below hb5 (Nat.le_refl _)
  obtain ⟨w0a0, w0c0, rfl⟩ := w0_0_5.slice
  try dsimp only
  refine hK.out _ _ ?h26 (fun hHeld => ?_)
  case h26 => first | exact ⟨‹_›, ‹_›⟩ | assumption | (simp [*, go_sem])
  clear hK K
  try simp only [Act.put, List.setIfInBounds_toArray, List.set_cons_zero, List.set_cons_succ]
  refine wpAnyH_take (i := 5) (v := ?v27) (by simp only [List.getElem?_toArray, List.getElem?_cons_succ, List.getElem?_cons_zero]; exact rfl) (by kernel_rfl) (by kernel_rfl) (by kernel_rfl) (by intro _ _ _ h; exact h) (Or.inl ⟨by rfl, ?y27⟩) hHeld ?_
  case y27 => (intro w hSw; (try dsimp only at hSw); go_simp; try (with_reducible rfl))
  try simp only [Act.put, List.setIfInBounds_toArray, List.set_cons_zero, List.set_cons_succ]
  refine wpAnyH_take (i := 6) (v := ?v28) (by simp only [List.getElem?_toArray, List.getElem?_cons_succ, List.getElem?_cons_zero]; exact rfl) (by kernel_rfl) (by kernel_rfl) (by kernel_rfl) (by intro _ _ _ h; exact h) (Or.inl ⟨by rfl, ?y28⟩) hHeld ?_
  case y28 => (intro w hSw; (try dsimp only at hSw); go_simp; try (with_reducible rfl))
  try simp only [Act.put, List.setIfInBounds_toArray, List.set_cons_zero, List.set_cons_succ]
  refine wpAnyH_take (i := 7) (v := ?v29) (by simp only [List.getElem?_toArray, List.getElem?_cons_succ, List.getElem?_cons_zero]; exact rfl) (by kernel_rfl) (by kernel_rfl) (by kernel_rfl) (by intro _ _ _ h; exact h) (Or.inl ⟨by rfl, ?y29⟩) hHeld ?_
  case y29 => (intro w hSw; (try dsimp only at hSw); go_simp; try (with_reducible rfl))
  try simp only [Act.put, List.setIfInBounds_toArray, List.set_cons_zero, List.set_cons_succ]
  refine wpAnyH_take (i := 8) (v := ?v30) (by simp only [List.getElem?_toArray, List.getElem?_cons_succ, List.getElem?_cons_zero]; exact rfl) (by kernel_rfl) (by kernel_rfl) (by kernel_rfl) (by intro _ _ _ h; exact h) (Or.inl ⟨by rfl, ?y30⟩) hHeld ?_
  case y30 => (intro w hSw; (try dsimp only at hSw); go_simp; try (with_reducible rfl))
  try simp only [Act.put, List.setIfInBounds_toArray, List.set_cons_zero, List.set_cons_succ]
  refine wpAnyH_take (i := 9) (v := ?v31) (by simp only [List.getElem?_toArray, List.getElem?_cons_succ, List.getElem?_cons_zero]; exact rfl) (by kernel_rfl) (by kernel_rfl) (by kernel_rfl) (by intro _ _ _ h; exact h) (Or.inl ⟨by rfl, ?y31⟩) hHeld ?_
  case y31 => (intro w hSw; (try dsimp only at hSw); go_simp; try (with_reducible rfl))
  try simp only [Act.put, List.setIfInBounds_toArray, List.set_cons_zero, List.set_cons_succ]
  refine wpAnyH_done (by kernel_rfl) ?_ _
  go_wp2_with fail
  refine (toGraphR_any (hv0.below q5 (Nat.le_refl _)) hsm0).mono ?_
  rintro e w6 ⟨x6, rfl, y6_6, hb6⟩
  have q6 := q5.trans (hb6.mono q5.size)
  have z6 := hb6.size
  have b0_6 : w6.cell? ⟨w.heap.size, 0, none⟩ = some (.slice a0 g0.length c0) := (hb6.cell (p := ⟨w.heap.size, 0, none⟩) (cell_lt b0_5)).trans b0_5
  have b1_6 : w6.cell? ⟨w.heap.size + 1, 0, none⟩ = some (.slice a1 m1.length c1) := (hb6.cell (p := ⟨w.heap.size + 1, 0, none⟩) (cell_lt b1_5)).trans b1_5
  have w0_0_6 := w0_0_5.below hb6 (Nat.le_refl _)
  obtain ⟨xa6, xc6, rfl⟩ := y6_6.isSlice
  have hb7 : Below w6.heap.size w6 (w6.alloc (.cells #[.slice xa6 g0.length xc6] 27)) := (Below.refl _ _).alloc (Nat.le_refl _) _
  obtain ⟨w7, ew7⟩ : ∃ x, x = (w6.alloc (.cells #[.slice xa6 g0.length xc6] 27)) := ⟨_, rfl⟩
  rw [← ew7] at hb7
  have l7_7 : w7.cell? ⟨w6.heap.size, 0, none⟩ = some (.slice xa6 g0.length xc6) := by rw [ew7]; simp [go_sem]
  have zz7 : w7.heap.size = w6.heap.size + 1 := by rw [ew7]; simp
  have q7 := q6.trans (hb7.mono q6.size)
  have z7 := hb7.size
  have b0_7 : w7.cell? ⟨w.heap.size, 0, none⟩ = some (.slice a0 g0.length c0) := (hb7.cell (p := ⟨w.heap.size, 0, none⟩) (cell_lt b0_6)).trans b0_6
  have b1_7 : w7.cell? ⟨w.heap.size + 1, 0, none⟩ = some (.slice a1 m1.length c1) := (hb7.cell (p := ⟨w.heap.size + 1, 0, none⟩) (cell_lt b1_6)).trans b1_6
  have w0_0_7 := w0_0_6.below hb7 (Nat.le_refl _)
  have y6_7 := y6_6.below hb7 (Nat.le_refl _)
  have b0_7e : (w6.alloc (.cells #[.slice xa6 g0.length xc6] 27)).cell? ⟨w.heap.size, 0, none⟩ = some (.slice a0 g0.length c0) := by rw [← ew7]; exact b0_7
  have b1_7e : (w6.alloc (.cells #[.slice xa6 g0.length xc6] 27)).cell? ⟨w.heap.size + 1, 0, none⟩ = some (.slice a1 m1.length c1) := by rw [← ew7]; exact b1_7
  have l7_7e : (w6.alloc (.cells #[.slice xa6 g0.length xc6] 27)).cell? ⟨w6.heap.size, 0, none⟩ = some (.slice xa6 g0.length xc6) := by rw [← ew7]; exact l7_7
  go_wp2_with fail
  rw [← ew7]
  refine (toModelR_any (hv1.below q7 (Nat.le_refl _)) hsm1).mono ?_
  rintro e w8 ⟨x8, rfl, y8_8, hb8⟩
  have q8 := q7.trans (hb8.mono q7.size)
  have z8 := hb8.size
  have b0_8 : w8.cell? ⟨w.heap.size, 0, none⟩ = some (.slice a0 g0.length c0) := (hb8.cell (p := ⟨w.heap.size, 0, none⟩) (cell_lt b0_7)).trans b0_7
  have b1_8 : w8.cell? ⟨w.heap.size + 1, 0, none⟩ = some (.slice a1 m1.length c1) := (hb8.cell (p := ⟨w.heap.size + 1, 0, none⟩) (cell_lt b1_7)).trans b1_7
  have l7_8 : w8.cell? ⟨w6.heap.size, 0, none⟩ = some (.slice xa6 g0.length xc6) := (hb8.cell (p := ⟨w6.heap.size, 0, none⟩) (cell_lt l7_7)).trans l7_7
  have w0_0_8 := w0_0_7.below hb8 (Nat.le_refl _)
  have y6_8 := y6_7.below hb8 (Nat.le_refl _)
  obtain ⟨xa8, xc8, rfl⟩ := y8_8.isSlice
  have hb9 : Below w8.heap.size w8 (w8.alloc (.cells #[.slice xa8 m1.length xc8] 44)) := (Below.refl _ _).alloc (Nat.le_refl _) _
  obtain ⟨w9, ew9⟩ : ∃ x, x = (w8.alloc (.cells #[.slice xa8 m1.length xc8] 44)) := ⟨_, rfl⟩
  rw [← ew9] at hb9
  have l9_9 : w9.cell? ⟨w8.heap.size, 0, none⟩ = some (.slice xa8 m1.length xc8) := by rw [ew9]; simp [go_sem]
  have zz9 : w9.heap.size = w8.heap.size + 1 := by rw [ew9]; simp
  have q9 := q8.trans (hb9.mono q8.size)
  have z9 := hb9.size
  have b0_9 : w9.cell? ⟨w.heap.size, 0, none⟩ = some (.slice a0 g0.length c0) := (hb9.cell (p := ⟨w.heap.size, 0, none⟩) (cell_lt b0_8)).trans b0_8
  have b1_9 : w9.cell? ⟨w.heap.size + 1, 0, none⟩ = some (.slice a1 m1.length c1) := (hb9.cell (p := ⟨w.heap.size + 1, 0, none⟩) (cell_lt b1_8)).trans b1_8
  have l7_9 : w9.cell? ⟨w6.heap.size, 0, none⟩ = some (.slice xa6 g0.length xc6) := (hb9.cell (p := ⟨w6.heap.size, 0, none⟩) (cell_lt l7_8)).trans l7_8
  have w0_0_9 := w0_0_8.below hb9 (Nat.le_refl _)
  have y6_9 := y6_8.below hb9 (Nat.le_refl _)
  have y8_9 := y8_8.below hb9 (Nat.le_refl _)
  have b0_9e : (w8.alloc (.cells #[.slice xa8 m1.length xc8] 44)).cell? ⟨w.heap.size, 0, none⟩ = some (.slice a0 g0.length c0) := by rw [← ew9]; exact b0_9
  have b1_9e : (w8.alloc (.cells #[.slice xa8 m1.length xc8] 44)).cell? ⟨w.heap.size + 1, 0, none⟩ = some (.slice a1 m1.length c1) := by rw [← ew9]; exact b1_9
  have l7_9e : (w8.alloc (.cells #[.slice xa8 m1.length xc8] 44)).cell? ⟨w6.heap.size, 0, none⟩ = some (.slice xa6 g0.length xc6) := by rw [← ew9]; exact l7_9
  have l9_9e : (w8.alloc (.cells #[.slice xa8 m1.length xc8] 44)).cell? ⟨w8.heap.size, 0, none⟩ = some (.slice xa8 m1.length xc8) := by rw [← ew9]; exact l9_9
  go_wp2_with fail
  rw [← ew9]
  refine (hI (ht.below q9 (Nat.le_refl _)) (y6_9.rows hsm0) (y8_9.rows hsm1)).mono ?_
  rintro e w10 ⟨g0u0, rfl, g0_0_10, hb10⟩
  have q10 := q9.trans (hb10.mono q9.size)
  have z10 := hb10.size
  have b0_10 : w10.cell? ⟨w.heap.size, 0, none⟩ = some (.slice a0 g0.length c0) := (hb10.cell (p := ⟨w.heap.size, 0, none⟩) (cell_lt b0_9)).trans b0_9
  have b1_10 : w10.cell? ⟨w.heap.size + 1, 0, none⟩ = some (.slice a1 m1.length c1) := (hb10.cell (p := ⟨w.heap.size + 1, 0, none⟩) (cell_lt b1_9)).trans b1_9
  have l7_10 : w10.cell? ⟨w6.heap.size, 0, none⟩ = some (.slice xa6 g0.length xc6) := (hb10.cell (p := ⟨w6.heap.size, 0, none⟩) (cell_lt l7_9)).trans l7_9
  have l9_10 : w10.cell? ⟨w8.heap.size, 0, none⟩ = some (.slice xa8 m1.length xc8) := (hb10.cell (p := ⟨w8.heap.size, 0, none⟩) (cell_lt l9_9)).trans l9_9
  have w0_0_10 := w0_0_9.below hb10 (Nat.le_refl _)
  have y6_10 := y6_9.below hb10 (Nat.le_refl _)
  have y8_10 := y8_9.below hb10 (Nat.le_refl _)
  obtain ⟨g0a0, g0c0, rfl⟩ := g0_0_10.isSlice
  go_wp2_with fail
  refine (eqI_same (Own.ints g0_0_10 hB0) w0_0_10).mono ?_
  rintro e w11 ⟨rfl, hb11⟩
  have q11 := q10.trans (hb11.mono q10.size)
  have z11 := hb11.size
  have b0_11 : w11.cell? ⟨w.heap.size, 0, none⟩ = some (.slice a0 g0.length c0) := (hb11.cell (p := ⟨w.heap.size, 0, none⟩) (cell_lt b0_10)).trans b0_10
  have b1_11 : w11.cell? ⟨w.heap.size + 1, 0, none⟩ = some (.slice a1 m1.length c1) := (hb11.cell (p := ⟨w.heap.size + 1, 0, none⟩) (cell_lt b1_10)).trans b1_10
  have l7_11 : w11.cell? ⟨w6.heap.size, 0, none⟩ = some (.slice xa6 g0.length xc6) := (hb11.cell (p := ⟨w6.heap.size, 0, none⟩) (cell_lt l7_10)).trans l7_10
  have l9_11 : w11.cell? ⟨w8.heap.size, 0, none⟩ = some (.slice xa8 m1.length xc8) := (hb11.cell (p := ⟨w8.heap.size, 0, none⟩) (cell_lt l9_10)).trans l9_10
  have w0_0_11 := w0_0_10.below hb11 (Nat.le_refl _)
  have y6_11 := y6_10.below hb11 (Nat.le_refl _)
  have y8_11 := y8_10.below hb11 (Nat.le_refl _)
  have g0_0_11 := g0_0_10.below hb11 (Nat.le_refl _)
  go_wp2
  refine wp_region_held_drew (S := (fun w' => w'.cell? ⟨w.heap.size, 0, none⟩ = some (.slice a0 g0.length c0) ∧ w'.cell? ⟨w.heap.size + 1, 0, none⟩ = some (.slice a1 m1.length c1) ∧ w'.cell? ⟨w6.heap.size, 0, none⟩ = some (.slice xa6 g0.length xc6) ∧ w'.cell? ⟨w8.heap.size, 0, none⟩ = some (.slice xa8 m1.length xc8))) (by kernel_rfl) ?_ (fun hHeld => ?_)
  · first | exact ⟨‹_›, ‹_›, ‹_›, ‹_›⟩ | assumption | (simp [*, go_sem])
  refine wpAnyH_take (i := 0) (v := ?v32) (by simp only [List.getElem?_toArray, List.getElem?_cons_zero]; exact rfl) (by kernel_rfl) (by kernel_rfl) (by kernel_rfl) (by intro _ _ _ h; exact h) (Or.inl ⟨by rfl, ?y32⟩) hHeld ?_
  case y32 => (intro w hSw; (try dsimp only at hSw); go_simp; try (with_reducible rfl))
  try simp only [Act.put, List.setIfInBounds_toArray, List.set_cons_zero, List.set_cons_succ]
  refine wpAnyH_take (i := 1) (v := ?v33) (by simp only [List.getElem?_toArray, List.getElem?_cons_succ, List.getElem?_cons_zero]; exact rfl) (by kernel_rfl) (by kernel_rfl) (by kernel_rfl) (by intro _ _ _ h; exact h) (Or.inl ⟨by rfl, ?y33⟩) hHeld ?_
  case y33 => (intro w hSw; (try dsimp only at hSw); go_simp; try (with_reducible rfl))
  try simp only [Act.put, List.setIfInBounds_toArray, List.set_cons_zero, List.set_cons_succ]
  refine wpAnyH_ready (rs := [2]) (by kernel_rfl) (by simp) ?_
  refine AllReadyH.cons (by simp only [List.getElem?_toArray, List.getElem?_cons_succ, List.getElem?_cons_zero]; exact rfl) (fun K hK => ?_) AllReadyH.nil
  go_simp
  have q11d := q11.drew
  have w0_0_11k := w0_0_11
  have w0_0_11 := w0_0_11.below ((Below.refl w11.heap.size w11).drew) (Nat.le_refl _)
  have y6_11k := y6_11
  have y6_11 := y6_11.below ((Below.refl w11.heap.size w11).drew) (Nat.le_refl _)
  have y8_11k := y8_11
  have y8_11 := y8_11.below ((Below.refl w11.heap.size w11).drew) (Nat.le_refl _)
  have g0_0_11k := g0_0_11
  have g0_0_11 := g0_0_11.below ((Below.refl w11.heap.size w11).drew) (Nat.le_refl _)
  refine (toGraph_any _ _ _ (hv0.below q11d (Nat.le_refl _)) hsm0).mono ?_
  rintro e w12 ⟨x12, rfl, y12_12, hb12⟩
  replace hb12 : Below w11.heap.size w11 w12 := ⟨hb12.os, hb12.tape, hb12.output, hb12.size, hb12.block⟩
  replace w0_0_11 := w0_0_11k
  replace y6_11 := y6_11k
  replace y8_11 := y8_11k
  replace g0_0_11 := g0_0_11k
  have q12 := q11.trans (hb12.mono q11.size)
  have z12 := hb12.size
  have b0_12 : w12.cell? ⟨w.heap.size, 0, none⟩ = some (.slice a0 g0.length c0) := (hb12.cell (p := ⟨w.heap.size, 0, none⟩) (cell_lt b0_11)).trans b0_11
  have b1_12 : w12.cell? ⟨w.heap.size + 1, 0, none⟩ = some (.slice a1 m1.length c1) := (hb12.cell (p := ⟨w.heap.size + 1, 0, none⟩) (cell_lt b1_11)).trans b1_11
  have l7_12 : w12.cell? ⟨w6.heap.size, 0, none⟩ = some (.slice xa6 g0.length xc6) := (hb12.cell (p := ⟨w6.heap.size, 0, none⟩) (cell_lt l7_11)).trans l7_11
  have l9_12 : w12.cell? ⟨w8.heap.size, 0, none⟩ = some (.slice xa8 m1.length xc8) := (hb12.cell (p := ⟨w8.heap.size, 0, none⟩) (cell_lt l9_11)).trans l9_11
  have w0_0_12 := w0_0_11.below hb12 (Nat.le_refl _)
  have y6_12 := y6_11.below hb12 (Nat.le_refl _)
  have y8_12 := y8_11.below hb12 (Nat.le_refl _)
  have g0_0_12 := g0_0_11.below hb12 (Nat.le_refl _)
  try dsimp only
  refine hK.out _ _ ?h35 (fun hHeld => ?_)
  case h35 => first | exact ⟨‹_›, ‹_›, ‹_›, ‹_›⟩ | assumption | (simp [*, go_sem])
  clear hK K
  try simp only [Act.put, List.setIfInBounds_toArray, List.set_cons_zero, List.set_cons_succ]
  refine wpAnyH_ready (rs := [3]) (by kernel_rfl) (by simp) ?_
  refine AllReadyH.cons (by simp only [List.getElem?_toArray, List.getElem?_cons_succ, List.getElem?_cons_zero]; exact rfl) (fun K hK => ?_) AllReadyH.nil
  go_simp
  refine (eqG_same (y6_12.rows hsm0) y12_12).mono ?_
  rintro e w13 ⟨rfl, hb13⟩
  have q13 := q12.trans (hb13.mono q12.size)
  have z13 := hb13.size
  have b0_13 : w13.cell? ⟨w.heap.size, 0, none⟩ = some (.slice a0 g0.length c0) := (hb13.cell (p := ⟨w.heap.size, 0, none⟩) (cell_lt b0_12)).trans b0_12
  have b1_13 : w13.cell? ⟨w.heap.size + 1, 0, none⟩ = some (.slice a1 m1.length c1) := (hb13.cell (p := ⟨w.heap.size + 1, 0, none⟩) (cell_lt b1_12)).trans b1_12
  have l7_13 : w13.cell? ⟨w6.heap.size, 0, none⟩ = some (.slice xa6 g0.length xc6) := (hb13.cell (p := ⟨w6.heap.size, 0, none⟩) (cell_lt l7_12)).trans l7_12
  have l9_13 : w13.cell? ⟨w8.heap.size, 0, none⟩ = some (.slice xa8 m1.length xc8) := (hb13.cell (p := ⟨w8.heap.size, 0, none⟩) (cell_lt l9_12)).trans l9_12
  have w0_0_13 := w0_0_12.below hb13 (Nat.le_refl _)
  have y6_13 := y6_12.below hb13 (Nat.le_refl _)
  have y8_13 := y8_12.below hb13 (Nat.le_refl _)
  have g0_0_13 := g0_0_12.below hb13 (Nat.le_refl _)
  have y12_13 := y12_12.below hb13 (Nat.le_refl _)
  try dsimp only
  refine hK.out _ _ ?h37 (fun hHeld => ?_)
  case h37 => first | exact ⟨‹_›, ‹_›, ‹_›, ‹_›⟩ | assumption | (simp [*, go_sem])
  clear hK K
  try simp only [Act.put, List.setIfInBounds_toArray, List.set_cons_zero, List.set_cons_succ]
  refine wpAnyH_take (i := 4) (v := ?v38) (by simp only [List.getElem?_toArray, List.getElem?_cons_succ, List.getElem?_cons_zero]; exact rfl) (by kernel_rfl) (by kernel_rfl) (by kernel_rfl) (by intro _ _ _ h; exact h) (Or.inl ⟨by rfl, ?y38⟩) hHeld ?_
  case y38 => (intro w hSw; (try dsimp only at hSw); go_simp; try (with_reducible rfl))
  try simp only [Act.put, List.setIfInBounds_toArray, List.set_cons_zero, List.set_cons_succ]
  refine wpAnyH_done (by kernel_rfl) ?_ _
  go_wp2
  refine wp_region_held_drew (S := (fun w' => w'.cell? ⟨w.heap.size, 0, none⟩ = some (.slice a0 g0.length c0) ∧ w'.cell? ⟨w.heap.size + 1, 0, none⟩ = some (.slice a1 m1.length c1) ∧ w'.cell? ⟨w6.heap.size, 0, none⟩ = some (.slice xa6 g0.length xc6) ∧ w'.cell? ⟨w8.heap.size, 0, none⟩ = some (.slice xa8 m1.length xc8))) (by kernel_rfl) ?_ (fun hHeld => ?_)
  · first | exact ⟨‹_›, ‹_›, ‹_›, ‹_›⟩ | assumption | (simp [*, go_sem])
  refine wpAnyH_take (i := 0) (v := ?v39) (by simp only [List.getElem?_toArray, List.getElem?_cons_zero]; exact rfl) (by kernel_rfl) (by kernel_rfl) (by kernel_rfl) (by intro _ _ _ h; exact h) (Or.inl ⟨by rfl, ?y39⟩) hHeld ?_
  case y39 => (intro w hSw; (try dsimp only at hSw); go_simp; try (with_reducible rfl))
  try simp only [Act.put, List.setIfInBounds_toArray, List.set_cons_zero, List.set_cons_succ]
  refine wpAnyH_take (i := 1) (v := ?v40) (by simp only [List.getElem?_toArray, List.getElem?_cons_succ, List.getElem?_cons_zero]; exact rfl) (by kernel_rfl) (by kernel_rfl) (by kernel_rfl) (by intro _ _ _ h; exact h) (Or.inl ⟨by rfl, ?y40⟩) hHeld ?_
  case y40 => (intro w hSw; (try dsimp only at hSw); go_simp; try (with_reducible rfl))
  try simp only [Act.put, List.setIfInBounds_toArray, List.set_cons_zero, List.set_cons_succ]
  refine wpAnyH_ready (rs := [2]) (by kernel_rfl) (by simp) ?_
  refine AllReadyH.cons (by simp only [List.getElem?_toArray, List.getElem?_cons_succ, List.getElem?_cons_zero]; exact rfl) (fun K hK => ?_) AllReadyH.nil
  go_simp
  have q13d := q13.drew
  have w0_0_13k := w0_0_13
  have w0_0_13 := w0_0_13.below ((Below.refl w13.heap.size w13).drew) (Nat.le_refl _)
  have y6_13k := y6_13
  have y6_13 := y6_13.below ((Below.refl w13.heap.size w13).drew) (Nat.le_refl _)
  have y8_13k := y8_13
  have y8_13 := y8_13.below ((Below.refl w13.heap.size w13).drew) (Nat.le_refl _)
  have g0_0_13k := g0_0_13
  have g0_0_13 := g0_0_13.below ((Below.refl w13.heap.size w13).drew) (Nat.le_refl _)
  refine (toModel_any _ _ _ (hv1.below q13d (Nat.le_refl _)) hsm1).mono ?_
  rintro e w14 ⟨x14, rfl, y14_14, hb14⟩
  replace hb14 : Below w13.heap.size w13 w14 := ⟨hb14.os, hb14.tape, hb14.output, hb14.size, hb14.block⟩
  replace w0_0_13 := w0_0_13k
  replace y6_13 := y6_13k
  replace y8_13 := y8_13k
  replace g0_0_13 := g0_0_13k
  have q14 := q13.trans (hb14.mono q13.size)
  have z14 := hb14.size
  have b0_14 : w14.cell? ⟨w.heap.size, 0, none⟩ = some (.slice a0 g0.length c0) := (hb14.cell (p := ⟨w.heap.size, 0, none⟩) (cell_lt b0_13)).trans b0_13
  have b1_14 : w14.cell? ⟨w.heap.size + 1, 0, none⟩ = some (.slice a1 m1.length c1) := (hb14.cell (p := ⟨w.heap.size + 1, 0, none⟩) (cell_lt b1_13)).trans b1_13
  have l7_14 : w14.cell? ⟨w6.heap.size, 0, none⟩ = some (.slice xa6 g0.length xc6) := (hb14.cell (p := ⟨w6.heap.size, 0, none⟩) (cell_lt l7_13)).trans l7_13
  have l9_14 : w14.cell? ⟨w8.heap.size, 0, none⟩ = some (.slice xa8 m1.length xc8) := (hb14.cell (p := ⟨w8.heap.size, 0, none⟩) (cell_lt l9_13)).trans l9_13
  have w0_0_14 := w0_0_13.below hb14 (Nat.le_refl _)
  have y6_14 := y6_13.below hb14 (Nat.le_refl _)
  have y8_14 := y8_13.below hb14 (Nat.le_refl _)
  have g0_0_14 := g0_0_13.below hb14 (Nat.le_refl _)
  try dsimp only
  refine hK.out _ _ ?h42 (fun hHeld => ?_)
  case h42 => first | exact ⟨‹_›, ‹_›, ‹_›, ‹_›⟩ | assumption | (simp [*, go_sem])
  clear hK K
  try simp only [Act.put, List.setIfInBounds_toArray, List.set_cons_zero, List.set_cons_succ]
  refine wpAnyH_ready (rs := [3]) (by kernel_rfl) (by simp) ?_
  refine AllReadyH.cons (by simp only [List.getElem?_toArray, List.getElem?_cons_succ, List.getElem?_cons_zero]; exact rfl) (fun K hK => ?_) AllReadyH.nil
  go_simp
  refine (eqModel_same (y8_14.rows hsm1) y14_14).mono ?_
  rintro e w15 ⟨rfl, hb15⟩
  have q15 := q14.trans (hb15.mono q14.size)
  have z15 := hb15.size
  have b0_15 : w15.cell? ⟨w.heap.size, 0, none⟩ = some (.slice a0 g0.length c0) := (hb15.cell (p := ⟨w.heap.size, 0, none⟩) (cell_lt b0_14)).trans b0_14
  have b1_15 : w15.cell? ⟨w.heap.size + 1, 0, none⟩ = some (.slice a1 m1.length c1) := (hb15.cell (p := ⟨w.heap.size + 1, 0, none⟩) (cell_lt b1_14)).trans b1_14
  have l7_15 : w15.cell? ⟨w6.heap.size, 0, none⟩ = some (.slice xa6 g0.length xc6) := (hb15.cell (p := ⟨w6.heap.size, 0, none⟩) (cell_lt l7_14)).trans l7_14
  have l9_15 : w15.cell? ⟨w8.heap.size, 0, none⟩ = some (.slice xa8 m1.length xc8) := (hb15.cell (p := ⟨w8.heap.size, 0, none⟩) (cell_lt l9_14)).trans l9_14
  have w0_0_15 := w0_0_14.below hb15 (Nat.le_refl _)
  have y6_15 := y6_14.below hb15 (Nat.le_refl _)
  have y8_15 := y8_14.below hb15 (Nat.le_refl _)
  have g0_0_15 := g0_0_14.below hb15 (Nat.le_refl _)
  have y14_15 := y14_14.below hb15 (Nat.le_refl _)
  try dsimp only
  refine hK.out _ _ ?h44 (fun hHeld => ?_)
  case h44 => first | exact ⟨‹_›, ‹_›, ‹_›, ‹_›⟩ | assumption | (simp [*, go_sem])
  clear hK K
  try simp only [Act.put, List.setIfInBounds_toArray, List.set_cons_zero, List.set_cons_succ]
  refine wpAnyH_take (i := 4) (v := ?v45) (by simp only [List.getElem?_toArray, List.getElem?_cons_succ, List.getElem?_cons_zero]; exact rfl) (by kernel_rfl) (by kernel_rfl) (by kernel_rfl) (by intro _ _ _ h; exact h) (Or.inl ⟨by rfl, ?y45⟩) hHeld ?_
  case y45 => (intro w hSw; (try dsimp only at hSw); go_simp; try (with_reducible rfl))
  try simp only [Act.put, List.setIfInBounds_toArray, List.set_cons_zero, List.set_cons_succ]
  refine wpAnyH_done (by kernel_rfl) ?_ _
  go_wp2_with fail
  refine (markG_any y6_15 hsm0 (by omega) (by omega) (by omega)).mono ?_
  rintro e w16 ⟨k16, rfl, hk16, hl16, ht16⟩
  have q16 := ht16.below q15 (by have := q15.size; omega) q15.size
  have z16 := ht16.size
  have b0_16 : w16.cell? ⟨w.heap.size, 0, none⟩ = some (.slice a0 g0.length c0) := (ht16.cell (p := ⟨w.heap.size, 0, none⟩) (cell_lt b0_15) (by have : w.heap.size < w15.heap.size := cell_lt b0_15; show w.heap.size < _ ∨ _ ≤ w.heap.size; omega)).trans b0_15
  have b1_16 : w16.cell? ⟨w.heap.size + 1, 0, none⟩ = some (.slice a1 m1.length c1) := (ht16.cell (p := ⟨w.heap.size + 1, 0, none⟩) (cell_lt b1_15) (by have : w.heap.size + 1 < w15.heap.size := cell_lt b1_15; show w.heap.size + 1 < _ ∨ _ ≤ w.heap.size + 1; omega)).trans b1_15
  have l7_16 : w16.cell? ⟨w6.heap.size, 0, none⟩ = some (.slice xa6 g0.length xc6) := (ht16.cell (p := ⟨w6.heap.size, 0, none⟩) (cell_lt l7_15) (by have : w6.heap.size < w15.heap.size := cell_lt l7_15; show w6.heap.size < _ ∨ _ ≤ w6.heap.size; omega)).trans l7_15
  have l9_16 : w16.cell? ⟨w8.heap.size, 0, none⟩ = some (.slice xa8 m1.length xc8) := (ht16.cell (p := ⟨w8.heap.size, 0, none⟩) (cell_lt l9_15) (by have : w8.heap.size < w15.heap.size := cell_lt l9_15; show w8.heap.size < _ ∨ _ ≤ w8.heap.size; omega)).trans l9_15
  have w0_0_16 := w0_0_15.between ht16 (fun b (hb : b < w5.heap.size) => ⟨by omega, by omega⟩)
  have y8_16 := y8_15.between ht16 (by omega)
  have g0_0_16 := g0_0_15.between ht16 (by omega)
  have hkn16 : ¬ k16 < 0 := by omega
  go_wp2_with fail
  refine (markModel_any y8_16 hsm1 (by omega) (by omega) (by omega)).mono ?_
  rintro e w17 ⟨k17, rfl, hk17, hl17, ht17⟩
  have q17 := ht17.below q16 (by have := q16.size; omega) q16.size
  have z17 := ht17.size
  have b0_17 : w17.cell? ⟨w.heap.size, 0, none⟩ = some (.slice a0 g0.length c0) := (ht17.cell (p := ⟨w.heap.size, 0, none⟩) (cell_lt b0_16) (by have : w.heap.size < w16.heap.size := cell_lt b0_16; show w.heap.size < _ ∨ _ ≤ w.heap.size; omega)).trans b0_16
  have b1_17 : w17.cell? ⟨w.heap.size + 1, 0, none⟩ = some (.slice a1 m1.length c1) := (ht17.cell (p := ⟨w.heap.size + 1, 0, none⟩) (cell_lt b1_16) (by have : w.heap.size + 1 < w16.heap.size := cell_lt b1_16; show w.heap.size + 1 < _ ∨ _ ≤ w.heap.size + 1; omega)).trans b1_16
  have l7_17 : w17.cell? ⟨w6.heap.size, 0, none⟩ = some (.slice xa6 g0.length xc6) := (ht17.cell (p := ⟨w6.heap.size, 0, none⟩) (cell_lt l7_16) (by have : w6.heap.size < w16.heap.size := cell_lt l7_16; show w6.heap.size < _ ∨ _ ≤ w6.heap.size; omega)).trans l7_16
  have l9_17 : w17.cell? ⟨w8.heap.size, 0, none⟩ = some (.slice xa8 m1.length xc8) := (ht17.cell (p := ⟨w8.heap.size, 0, none⟩) (cell_lt l9_16) (by have : w8.heap.size < w16.heap.size := cell_lt l9_16; show w8.heap.size < _ ∨ _ ≤ w8.heap.size; omega)).trans l9_16
  have w0_0_17 := w0_0_16.between ht17 (fun b (hb : b < w5.heap.size) => ⟨by omega, by omega⟩)
  have g0_0_17 := g0_0_16.between ht17 (by omega)
  have hkn17 : ¬ k17 < 0 := by omega
  go_wp2_with fail
  refine (eqI_same (Own.ints g0_0_17 hB0) w0_0_17).mono ?_
  rintro e w18 ⟨rfl, hb18⟩
  have q18 := q17.trans (hb18.mono q17.size)
  have z18 := hb18.size
  have b0_18 : w18.cell? ⟨w.heap.size, 0, none⟩ = some (.slice a0 g0.length c0) := (hb18.cell (p := ⟨w.heap.size, 0, none⟩) (cell_lt b0_17)).trans b0_17
  have b1_18 : w18.cell? ⟨w.heap.size + 1, 0, none⟩ = some (.slice a1 m1.length c1) := (hb18.cell (p := ⟨w.heap.size + 1, 0, none⟩) (cell_lt b1_17)).trans b1_17
  have l7_18 : w18.cell? ⟨w6.heap.size, 0, none⟩ = some (.slice xa6 g0.length xc6) := (hb18.cell (p := ⟨w6.heap.size, 0, none⟩) (cell_lt l7_17)).trans l7_17
  have l9_18 : w18.cell? ⟨w8.heap.size, 0, none⟩ = some (.slice xa8 m1.length xc8) := (hb18.cell (p := ⟨w8.heap.size, 0, none⟩) (cell_lt l9_17)).trans l9_17
  have w0_0_18 := w0_0_17.below hb18 (Nat.le_refl _)
  have g0_0_18 := g0_0_17.below hb18 (Nat.le_refl _)
  go_wp2_with fail
  refine (markI_any g0_0_18 hN0).mono ?_
  rintro e w19 ⟨rfl, g0_0_19, ht19⟩
  have q19 := ht19.below q18 (by have := q18.size; omega) q18.size
  have z19 := ht19.size
  have b0_19 : w19.cell? ⟨w.heap.size, 0, none⟩ = some (.slice a0 g0.length c0) := (ht19.cell (p := ⟨w.heap.size, 0, none⟩) (cell_lt b0_18) (by have : w.heap.size < w18.heap.size := cell_lt b0_18; show w.heap.size < _ ∨ _ ≤ w.heap.size; omega)).trans b0_18
  have b1_19 : w19.cell? ⟨w.heap.size + 1, 0, none⟩ = some (.slice a1 m1.length c1) := (ht19.cell (p := ⟨w.heap.size + 1, 0, none⟩) (cell_lt b1_18) (by have : w.heap.size + 1 < w18.heap.size := cell_lt b1_18; show w.heap.size + 1 < _ ∨ _ ≤ w.heap.size + 1; omega)).trans b1_18
  have l7_19 : w19.cell? ⟨w6.heap.size, 0, none⟩ = some (.slice xa6 g0.length xc6) := (ht19.cell (p := ⟨w6.heap.size, 0, none⟩) (cell_lt l7_18) (by have : w6.heap.size < w18.heap.size := cell_lt l7_18; show w6.heap.size < _ ∨ _ ≤ w6.heap.size; omega)).trans l7_18
  have l9_19 : w19.cell? ⟨w8.heap.size, 0, none⟩ = some (.slice xa8 m1.length xc8) := (ht19.cell (p := ⟨w8.heap.size, 0, none⟩) (cell_lt l9_18) (by have : w8.heap.size < w18.heap.size := cell_lt l9_18; show w8.heap.size < _ ∨ _ ≤ w8.heap.size; omega)).trans l9_18
  have w0_0_19 := w0_0_18.between ht19 (fun b (hb : b < w5.heap.size) => ⟨by omega, by omega⟩)
  go_wp2_with fail
  refine (heldI_any (Own.ints g0_0_19 hB0) hN0).mono ?_
  rintro e w20 ⟨rfl, hb20⟩
  have q20 := q19.trans (hb20.mono q19.size)
  have z20 := hb20.size
  have b0_20 : w20.cell? ⟨w.heap.size, 0, none⟩ = some (.slice a0 g0.length c0) := (hb20.cell (p := ⟨w.heap.size, 0, none⟩) (cell_lt b0_19)).trans b0_19
  have b1_20 : w20.cell? ⟨w.heap.size + 1, 0, none⟩ = some (.slice a1 m1.length c1) := (hb20.cell (p := ⟨w.heap.size + 1, 0, none⟩) (cell_lt b1_19)).trans b1_19
  have l7_20 : w20.cell? ⟨w6.heap.size, 0, none⟩ = some (.slice xa6 g0.length xc6) := (hb20.cell (p := ⟨w6.heap.size, 0, none⟩) (cell_lt l7_19)).trans l7_19
  have l9_20 : w20.cell? ⟨w8.heap.size, 0, none⟩ = some (.slice xa8 m1.length xc8) := (hb20.cell (p := ⟨w8.heap.size, 0, none⟩) (cell_lt l9_19)).trans l9_19
  have w0_0_20 := w0_0_19.below hb20 (Nat.le_refl _)
  have g0_0_20 := g0_0_19.below hb20 (Nat.le_refl _)
  have hmn20 : ¬ (1 + (r0.length : Int)) < 0 := by omega
  go_wp2
  refine wp_region_held_drew (S := (fun w' => w'.cell? ⟨w.heap.size, 0, none⟩ = some (.slice a0 g0.length c0) ∧ w'.cell? ⟨w.heap.size + 1, 0, none⟩ = some (.slice a1 m1.length c1) ∧ w'.cell? ⟨w6.heap.size, 0, none⟩ = some (.slice xa6 g0.length xc6) ∧ w'.cell? ⟨w8.heap.size, 0, none⟩ = some (.slice xa8 m1.length xc8))) (by kernel_rfl) ?_ (fun hHeld => ?_)
  · first | exact ⟨‹_›, ‹_›, ‹_›, ‹_›⟩ | assumption | (simp [*, go_sem])
  refine wpAnyH_take (i := 0) (v := ?v46) (by simp only [List.getElem?_toArray, List.getElem?_cons_zero]; exact rfl) (by kernel_rfl) (by kernel_rfl) (by kernel_rfl) (by intro _ _ _ h; exact h) (Or.inl ⟨by rfl, ?y46⟩) hHeld ?_
  case y46 => (intro w hSw; (try dsimp only at hSw); go_simp; try (with_reducible rfl))
  try simp only [Act.put, List.setIfInBounds_toArray, List.set_cons_zero, List.set_cons_succ]
  refine wpAnyH_take (i := 2) (v := ?v47) (by simp only [List.getElem?_toArray, List.getElem?_cons_succ, List.getElem?_cons_zero]; exact rfl) (by kernel_rfl) (by kernel_rfl) (by kernel_rfl) (by intro _ _ _ h; exact h) (Or.inl ⟨by rfl, ?y47⟩) hHeld ?_
  case y47 => (intro w hSw; (try dsimp only at hSw); go_simp; try (with_reducible rfl))
  try simp only [Act.put, List.setIfInBounds_toArray, List.set_cons_zero, List.set_cons_succ]
  refine wpAnyH_ready (rs := [1]) (by kernel_rfl) (by simp) ?_
  refine AllReadyH.cons (by simp only [List.getElem?_toArray, List.getElem?_cons_succ, List.getElem?_cons_zero]; exact rfl) (fun K hK => ?_) AllReadyH.nil
  go_simp
  have q20d := q20.drew
  have w0_0_20k := w0_0_20
  have w0_0_20 := w0_0_20.below ((Below.refl w20.heap.size w20).drew) (Nat.le_refl _)
  have g0_0_20k := g0_0_20
  have g0_0_20 := g0_0_20.below ((Below.refl w20.heap.size w20).drew) (Nat.le_refl _)
  refine (toGraph_any _ _ _ (hv0.below q20d (Nat.le_refl _)) hsm0).mono ?_
  rintro e w21 ⟨x21, rfl, y21_21, hb21⟩
  replace hb21 : Below w20.heap.size w20 w21 := ⟨hb21.os, hb21.tape, hb21.output, hb21.size, hb21.block⟩
  replace w0_0_20 := w0_0_20k
  replace g0_0_20 := g0_0_20k
  have q21 := q20.trans (hb21.mono q20.size)
  have z21 := hb21.size
  have b0_21 : w21.cell? ⟨w.heap.size, 0, none⟩ = some (.slice a0 g0.length c0) := (hb21.cell (p := ⟨w.heap.size, 0, none⟩) (cell_lt b0_20)).trans b0_20
  have b1_21 : w21.cell? ⟨w.heap.size + 1, 0, none⟩ = some (.slice a1 m1.length c1) := (hb21.cell (p := ⟨w.heap.size + 1, 0, none⟩) (cell_lt b1_20)).trans b1_20
  have l7_21 : w21.cell? ⟨w6.heap.size, 0, none⟩ = some (.slice xa6 g0.length xc6) := (hb21.cell (p := ⟨w6.heap.size, 0, none⟩) (cell_lt l7_20)).trans l7_20
  have l9_21 : w21.cell? ⟨w8.heap.size, 0, none⟩ = some (.slice xa8 m1.length xc8) := (hb21.cell (p := ⟨w8.heap.size, 0, none⟩) (cell_lt l9_20)).trans l9_20
  have w0_0_21 := w0_0_20.below hb21 (Nat.le_refl _)
  have g0_0_21 := g0_0_20.below hb21 (Nat.le_refl _)
  try dsimp only
  refine hK.out _ _ ?h49 (fun hHeld => ?_)
  case h49 => first | exact ⟨‹_›, ‹_›, ‹_›, ‹_›⟩ | assumption | (simp [*, go_sem])
  clear hK K
  try simp only [Act.put, List.setIfInBounds_toArray, List.set_cons_zero, List.set_cons_succ]
  refine wpAnyH_ready (rs := [3]) (by kernel_rfl) (by simp) ?_
  refine AllReadyH.cons (by simp only [List.getElem?_toArray, List.getElem?_cons_succ, List.getElem?_cons_zero]; exact rfl) (fun K hK => ?_) AllReadyH.nil
  go_simp
  refine (toModel_any _ _ _ (hv1.below q21 (Nat.le_refl _)) hsm1).mono ?_
  rintro e w22 ⟨x22, rfl, y22_22, hb22⟩
  have q22 := q21.trans (hb22.mono q21.size)
  have z22 := hb22.size
  have b0_22 : w22.cell? ⟨w.heap.size, 0, none⟩ = some (.slice a0 g0.length c0) := (hb22.cell (p := ⟨w.heap.size, 0, none⟩) (cell_lt b0_21)).trans b0_21
  have b1_22 : w22.cell? ⟨w.heap.size + 1, 0, none⟩ = some (.slice a1 m1.length c1) := (hb22.cell (p := ⟨w.heap.size + 1, 0, none⟩) (cell_lt b1_21)).trans b1_21
  have l7_22 : w22.cell? ⟨w6.heap.size, 0, none⟩ = some (.slice xa6 g0.length xc6) := (hb22.cell (p := ⟨w6.heap.size, 0, none⟩) (cell_lt l7_21)).trans l7_21
  have l9_22 : w22.cell? ⟨w8.heap.size, 0, none⟩ = some (.slice xa8 m1.length xc8) := (hb22.cell (p := ⟨w8.heap.size, 0, none⟩) (cell_lt l9_21)).trans l9_21
  have w0_0_22 := w0_0_21.below hb22 (Nat.le_refl _)
  have g0_0_22 := g0_0_21.below hb22 (Nat.le_refl _)
  have y21_22 := y21_21.below hb22 (Nat.le_refl _)
  try dsimp only
  refine hK.out _ _ ?h51 (fun hHeld => ?_)
  case h51 => first | exact ⟨‹_›, ‹_›, ‹_›, ‹_›⟩ | assumption | (simp [*, go_sem])
  clear hK K
  try simp only [Act.put, List.setIfInBounds_toArray, List.set_cons_zero, List.set_cons_succ]
  refine wpAnyH_ready (rs := [4]) (by kernel_rfl) (by simp) ?_
  refine AllReadyH.cons (by simp only [List.getElem?_toArray, List.getElem?_cons_succ, List.getElem?_cons_zero]; exact rfl) (fun K hK => ?_) AllReadyH.nil
  go_simp
  refine (hI (ht.below q22 (Nat.le_refl _)) y21_22 y22_22).mono ?_
  rintro e w23 ⟨h0u0, rfl, h0_0_23, hb23⟩
  have q23 := q22.trans (hb23.mono q22.size)
  have z23 := hb23.size
  have b0_23 : w23.cell? ⟨w.heap.size, 0, none⟩ = some (.slice a0 g0.length c0) := (hb23.cell (p := ⟨w.heap.size, 0, none⟩) (cell_lt b0_22)).trans b0_22
  have b1_23 : w23.cell? ⟨w.heap.size + 1, 0, none⟩ = some (.slice a1 m1.length c1) := (hb23.cell (p := ⟨w.heap.size + 1, 0, none⟩) (cell_lt b1_22)).trans b1_22
  have l7_23 : w23.cell? ⟨w6.heap.size, 0, none⟩ = some (.slice xa6 g0.length xc6) := (hb23.cell (p := ⟨w6.heap.size, 0, none⟩) (cell_lt l7_22)).trans l7_22
  have l9_23 : w23.cell? ⟨w8.heap.size, 0, none⟩ = some (.slice xa8 m1.length xc8) := (hb23.cell (p := ⟨w8.heap.size, 0, none⟩) (cell_lt l9_22)).trans l9_22
  have w0_0_23 := w0_0_22.below hb23 (Nat.le_refl _)
  have g0_0_23 := g0_0_22.below hb23 (Nat.le_refl _)
  have y21_23 := y21_22.below hb23 (Nat.le_refl _)
  have y22_23 := y22_22.below hb23 (Nat.le_refl _)
  obtain ⟨h0a0, h0c0, rfl⟩ := h0_0_23.isSlice
  try dsimp only
  refine hK.out _ _ ?h53 (fun hHeld => ?_)
  case h53 => first | exact ⟨‹_›, ‹_›, ‹_›, ‹_›⟩ | assumption | (simp [*, go_sem])
  clear hK K
  try simp only [Act.put, List.setIfInBounds_toArray, List.set_cons_zero, List.set_cons_succ]
  refine wpAnyH_take (i := 5) (v := ?v54) (by simp only [List.getElem?_toArray, List.getElem?_cons_succ, List.getElem?_cons_zero]; exact rfl) (by kernel_rfl) (by kernel_rfl) (by kernel_rfl) (by intro _ _ _ h; exact h) (Or.inl ⟨by rfl, ?y54⟩) hHeld ?_
  case y54 => (intro w hSw; (try dsimp only at hSw); go_simp; try (with_reducible rfl))
  try simp only [Act.put, List.setIfInBounds_toArray, List.set_cons_zero, List.set_cons_succ]
  refine wpAnyH_take (i := 6) (v := ?v55) (by simp only [List.getElem?_toArray, List.getElem?_cons_succ, List.getElem?_cons_zero]; exact rfl) (by kernel_rfl) (by kernel_rfl) (by kernel_rfl) (by intro _ _ _ h; exact h) (Or.inl ⟨by rfl, ?y55⟩) hHeld ?_
  case y55 => (intro w hSw; (try dsimp only at hSw); go_simp; try (with_reducible rfl))
  try simp only [Act.put, List.setIfInBounds_toArray, List.set_cons_zero, List.set_cons_succ]
  refine wpAnyH_take (i := 7) (v := ?v56) (by simp only [List.getElem?_toArray, List.getElem?_cons_succ, List.getElem?_cons_zero]; exact rfl) (by kernel_rfl) (by kernel_rfl) (by kernel_rfl) (by intro _ _ _ h; exact h) (Or.inl ⟨by rfl, ?y56⟩) hHeld ?_
  case y56 => (intro w hSw; (try dsimp only at hSw); go_simp; try (with_reducible rfl))
  try simp only [Act.put, List.setIfInBounds_toArray, List.set_cons_zero, List.set_cons_succ]
  refine wpAnyH_take (i := 8) (v := ?v57) (by simp only [List.getElem?_toArray, List.getElem?_cons_succ, List.getElem?_cons_zero]; exact rfl) (by kernel_rfl) (by kernel_rfl) (by kernel_rfl) (by intro _ _ _ h; exact h) (Or.inl ⟨by rfl, ?y57⟩) hHeld ?_
  case y57 => (intro w hSw; (try dsimp only at hSw); go_simp; try (with_reducible rfl))
  try simp only [Act.put, List.setIfInBounds_toArray, List.set_cons_zero, List.set_cons_succ]
  refine wpAnyH_take (i := 9) (v := ?v58) (by simp only [List.getElem?_toArray, List.getElem?_cons_succ, List.getElem?_cons_zero]; exact rfl) (by kernel_rfl) (by kernel_rfl) (by kernel_rfl) (by intro _ _ _ h; exact h) (Or.inl ⟨by rfl, ?y58⟩) hHeld ?_
  case y58 => (intro w hSw; (try dsimp only at hSw); go_simp; try (with_reducible rfl))
  try simp only [Act.put, List.setIfInBounds_toArray, List.set_cons_zero, List.set_cons_succ]
  refine wpAnyH_done (by kernel_rfl) ?_ _
  go_wp2_with fail
  refine (eqI_same (Own.ints h0_0_23 hB0) w0_0_23).mono ?_
  rintro e w24 ⟨rfl, hb24⟩
  have q24 := q23.trans (hb24.mono q23.size)
  have z24 := hb24.size
  have b0_24 : w24.cell? ⟨w.heap.size, 0, none⟩ = some (.slice a0 g0.length c0) := (hb24.cell (p := ⟨w.heap.size, 0, none⟩) (cell_lt b0_23)).trans b0_23
  have b1_24 : w24.cell? ⟨w.heap.size + 1, 0, none⟩ = some (.slice a1 m1.length c1) := (hb24.cell (p := ⟨w.heap.size + 1, 0, none⟩) (cell_lt b1_23)).trans b1_23
  have l7_24 : w24.cell? ⟨w6.heap.size, 0, none⟩ = some (.slice xa6 g0.length xc6) := (hb24.cell (p := ⟨w6.heap.size, 0, none⟩) (cell_lt l7_23)).trans l7_23
  have l9_24 : w24.cell? ⟨w8.heap.size, 0, none⟩ = some (.slice xa8 m1.length xc8) := (hb24.cell (p := ⟨w8.heap.size, 0, none⟩) (cell_lt l9_23)).trans l9_23
  have w0_0_24 := w0_0_23.below hb24 (Nat.le_refl _)
  have g0_0_24 := g0_0_23.below hb24 (Nat.le_refl _)
  have h0_0_24 := h0_0_23.below hb24 (Nat.le_refl _)
  go_wp2_with fail
  refine (heldI_any (Own.ints g0_0_24 hB0) hN0).mono ?_
  rintro e w25 ⟨rfl, hb25⟩
  have q25 := q24.trans (hb25.mono q24.size)
  have z25 := hb25.size
  have b0_25 : w25.cell? ⟨w.heap.size, 0, none⟩ = some (.slice a0 g0.length c0) := (hb25.cell (p := ⟨w.heap.size, 0, none⟩) (cell_lt b0_24)).trans b0_24
  have b1_25 : w25.cell? ⟨w.heap.size + 1, 0, none⟩ = some (.slice a1 m1.length c1) := (hb25.cell (p := ⟨w.heap.size + 1, 0, none⟩) (cell_lt b1_24)).trans b1_24
  have l7_25 : w25.cell? ⟨w6.heap.size, 0, none⟩ = some (.slice xa6 g0.length xc6) := (hb25.cell (p := ⟨w6.heap.size, 0, none⟩) (cell_lt l7_24)).trans l7_24
  have l9_25 : w25.cell? ⟨w8.heap.size, 0, none⟩ = some (.slice xa8 m1.length xc8) := (hb25.cell (p := ⟨w8.heap.size, 0, none⟩) (cell_lt l9_24)).trans l9_24
  have w0_0_25 := w0_0_24.below hb25 (Nat.le_refl _)
  have g0_0_25 := g0_0_24.below hb25 (Nat.le_refl _)
  have h0_0_25 := h0_0_24.below hb25 (Nat.le_refl _)
  have hmn25 : ¬ (1 + (r0.length : Int)) < 0 := by omega
  go_wp2
  go_ret
  exact ⟨rfl, q25⟩
end Go.Proofs.YtfccpencgengaaaDoor
