/- ModelWord of the reference and of the program; the law. -/
import Derived.Test.YtklnjpdpinccoaaDoorModelM
import Derived.Test.YtklnjpdpinccoaaDoorBoxModel
import Derived.Test.YtklnjpdpinccoaaDoorSets
import Derived.Test.YtklnjpdpinccoaaDoorInto2
namespace Go.Proofs.YtklnjpdpinccoaaDoor
open Go.RowKit
def TwoI (S : Nat → Prop) (f : Option (List Int)) (w : World) (e : Ending) (w' : World) : Prop := ∃ u, e = .returned (.tuple #[u, .bool f.isSome]) ∧ SlI S w' .i64 u (f.getD []) ∧ Below w.heap.size w w'
def TwoOI (E : TypeId) (f : Option (List Int)) (w : World) (e : Ending) (w' : World) : Prop := ∃ u, e = .returned (.tuple #[u, .bool f.isSome]) ∧ Own w' w.heap.size E 1 u (f.getD []).length ((f.getD []).map (.int .i64)) ∧ Below w.heap.size w w'
theorem SlI.low2 {S : Nat → Prop} {w : World} {k : IntKind} {v : Value} {xs : List Int} (h : SlI S w k v xs) : SlI (fun b => b < w.heap.size) w k v xs := by
  obtain ⟨a, b, off, cap, rfl, hl, ha, hc⟩ := h
  exact ⟨a, b, off, cap, rfl, hl, fun h0 => ⟨(ha h0).1, cell_lt (hc 0 h0)⟩, hc⟩
theorem SlI.emptyI (S : Nat → Prop) (w : World) (k : IntKind) (a : Option Addr) : SlI S w k (.slice a 0 0) [] := ⟨a, 0, 0, 0, rfl, by simp, fun h => by simp at h, fun i hi => by simp at hi⟩
theorem getD_lt {α : Type} {l : List α} {i : Nat} {d : α} (h : i < l.length) : l.getD i d = l[i] := by simp [h]
theorem own_int {w : World} {B g n c u : Nat} {E : TypeId} {k : IntKind} {xs : List Int} (h : Own w B E 1 (.slice (some ⟨g, 0, none⟩) n c) n (xs.map (.int k))) (hu : u < xs.length) (hn : xs.length = n) :
    w.cell? ⟨g, u, none⟩ = some (.int k (xs.getD u 0)) :=
  (World.ownsRow.cellAt h u (by omega)).trans (by simp [hu])
theorem own_int_set {w : World} {B g n c : Nat} {E : TypeId} {k : IntKind} {xs : List Int} (h : Own w B E 1 (.slice (some ⟨g, 0, none⟩) n c) n (xs.map (.int k))) (u : Nat) (x : Int) :
    Own (w.setCell ⟨g, u, none⟩ (.int k x)) B E 1 (.slice (some ⟨g, 0, none⟩) n c) n ((xs.set u x).map (.int k)) := by
  have := h.stored u (.int k x)
  rw [← List.map_set] at this; exact this
theorem rise_take_not {s : List Int} {n : Int} {k : Nat} (h : Rise s n) (hk : k < s.length) : ¬ s[k] ∈ s.take k := fun hm => by
  obtain ⟨j, hj, e⟩ := List.mem_take_iff_getElem.1 hm
  have := (h k hk hk).2.2 j (by omega)
  omega
set_option maxRecDepth 100000 in
set_option maxHeartbeats 8000000 in
theorem specModelWord_any {S S' : Nat → Prop} {gv mv : Value} {g ms : List (List Int)} {w : World} (hvg : SlR S w gv g) (hvm : SlR S' w mv ms) :
    Calls Tryd.prog 112 #[.agg #[gv], .agg #[mv]] w (TwoI (fun _ => True) (modelF g ms) w) := by
  have hq0 : Below w.heap.size w ((w.alloc (.cells #[gv] 27)).alloc (.cells #[mv] 43)) := ((Below.refl _ _).alloc (Nat.le_refl _) _).alloc (by simp) _
  obtain ⟨ga, gc, rfl⟩ := hvg.slice
  have hgo := specGraphOk_any _ _ _ (hvg.below hq0 (Nat.le_refl _))
  by_cases hgg : gokB g = true
  case neg =>
    have hgg' : gokB g = false := by simpa using hgg
    rw [hgg'] at hgo
    obtain ⟨ma, mc, rfl⟩ := hvm.slice
    have HE := Lib.hid (modelF_no (g := g) (ms := ms) (fun h => by rw [hgg'] at h; cases h.1))
    clear hgg hgg'
    go_enter Tryd.func112, Tryd.ntmps112
    go_wp2_with (go_at_call 45; (with_reducible refine hgo.mono ?_); rintro e w1 ⟨rfl, hb1⟩)
    go_ret2
    rw [HE.out]
    have hq1 := hq0.trans (hb1.mono hq0.size)
    exact ⟨_, rfl, SlI.emptyI _ _ _ _, hq1.alloc hq1.size _⟩
  rw [hgg] at hgo
  have hg := gokB_iff.1 hgg
  have h16 := hg.hi
  have hlm := hvm.len
  by_cases hm16 : ms.length ≤ 16
  case neg =>
    have hb1 : decide ((16 : Int) < (ms.length : Int)) = true := by simp; omega
    have hb2 : decide (16 < ms.length) = true := by simp; omega
    obtain ⟨ma, mc, rfl⟩ := hvm.slice
    have HE := Lib.hid (modelF_no (g := g) (ms := ms) (fun h => hm16 h.2.1))
    clear hgg
    go_enter Tryd.func112, Tryd.ntmps112
    go_wp2_with (go_at_call 45; (with_reducible refine hgo.mono ?_); rintro e w1 ⟨rfl, hb1⟩; have c4 : w1.cell? ⟨w.heap.size + 1, 0, none⟩ = some (.slice ma ms.length mc) := (hb1.cell (p := ⟨w.heap.size + 1, 0, none⟩) (by simp)).trans (by simp [go_sem]))
    go_ret2
    rw [HE.out]
    have hq1 := hq0.trans (hb1.mono hq0.size)
    exact ⟨_, rfl, SlI.emptyI _ _ _ _, hq1.alloc hq1.size _⟩
  have hb1 : decide ((16 : Int) < (ms.length : Int)) = false := by simp; omega
  have hb2 : decide (16 < ms.length) = false := by simp; omega
  have hmk := run_make_row' (P := Tryd.prog) 34 2 (.int .i64 0) 8 elI64.ht elI64.hi rfl .i64 .i64 g.length (by omega) (by omega)
  have hno := fun (h : ¬ SetsTo g.length ms ms.length) => modelF_no (g := g) (ms := ms) (fun h2 => h h2.2.2)
  have hyes := fun (h : SetsTo g.length ms ms.length) => modelF_yes (g := g) (ms := ms) ⟨hgg, hm16, h⟩
  have HNO := Lib.hid hno; have HYES := Lib.hid hyes; clear hno hyes
  obtain ⟨ma, mb, moff, mcap, mf, rfl, hml, hma, hmc0⟩ := hvm
  have HSO := fun (w1 : World) (hb : Below w.heap.size w w1) (S2 : Nat → Prop) (u : Value) (s : List Int) (hu : SlI S2 w1 .i64 u s) => specSetOk_any _ _ _ _ _ (hvg.below hb (Nat.le_refl _)) hu
  have hset : ∀ s, setOkB g s = riseB s g.length := fun s => by simp [setOkB, hgg]
  simp only [hset] at HSO
  clear hgg hset
  go_enter Tryd.func112, Tryd.ntmps112
  go_wp2_with (go_at_call 45; (with_reducible refine hgo.mono ?_); rintro e w1 ⟨rfl, hb1⟩; have hq1 := hq0.trans (hb1.mono hq0.size); have c3 : w1.cell? ⟨w.heap.size, 0, none⟩ = some (.slice ga g.length gc) := (hb1.cell (p := ⟨w.heap.size, 0, none⟩) (by simp; omega)).trans (by simp [go_sem]); have c4 : w1.cell? ⟨w.heap.size + 1, 0, none⟩ = some (.slice ma ms.length mcap) := (hb1.cell (p := ⟨w.heap.size + 1, 0, none⟩) (by simp)).trans (by simp [go_sem]))
  clear hgo
  have hz1 : w.heap.size + 2 ≤ w1.heap.size := by have := cell_lt c4; simp at this; omega
  have hown0 : Own (w1.alloc (.cells (madeCells #[.int .i64 0] g.length) 2)) (w.heap.size + 2) 2 1 (.slice (some ⟨w1.heap.size, 0, none⟩) g.length g.length) g.length ((wordL g.length ms 0).map (.int .i64)) := by
    have := Own.made w1 (w.heap.size + 2) 2 (.int .i64 0) g.length hz1 (by omega)
    simpa [wordL] using this
  go_loopw [7] (fun i wr => ∃ k : Nat, k ≤ ms.length ∧ i = .int .i64 k ∧ SetsTo g.length ms k ∧ Own wr (w.heap.size + 2) 2 1 (.slice (some ⟨w1.heap.size, 0, none⟩) g.length g.length) g.length ((wordL g.length ms k).map (.int .i64)) ∧ Below w.heap.size w wr ∧
    wr.cell? ⟨w.heap.size, 0, none⟩ = some (.slice ga g.length gc) ∧ wr.cell? ⟨w.heap.size + 1, 0, none⟩ = some (.slice ma ms.length mcap)) (fun i _ => ms.length - (intOf i).toNat)
  case atStart => exact ⟨0, Nat.zero_le _, rfl, (fun j hj => by omega), hown0, hq1.alloc hq1.size _, (World.cell?_alloc_some w1 ⟨w.heap.size, 0, none⟩ _ (by rw [c3]; rfl)).trans c3, (World.cell?_alloc_some w1 ⟨w.heap.size + 1, 0, none⟩ _ (by rw [c4]; rfl)).trans c4⟩
  case round =>
    clear hown0 hmk c3 c4 hq1
    obtain ⟨k, hk, rfl, hst, hown, hq, hbg, hbm⟩ := hrel
    have hwl := wordL_len g.length ms k
    by_cases hlt : k < ms.length
    case neg =>
      obtain rfl : k = ms.length := by omega
      have hF := HYES.out hst
      have HF := Lib.hid hF; have HW := Lib.hid hwl; clear hF hwl HNO HYES hst HSO
      go_wp2
      go_ret2
      rw [HF.out]
      refine ⟨_, rfl, ?_, hq⟩
      have := (Own.ints (xs := wordL g.length ms ms.length) hown (by omega)).weak (S' := fun _ => True) (fun _ _ => trivial)
      exact this
    obtain ⟨hcm, hrow⟩ := (hmc0.below hq (Nat.le_refl _)) k hlt
    obtain ⟨rfl, -⟩ := hma (by omega)
    have hgk := getD_lt (d := []) hlt
    have hso := fun (w2 : World) (hb : Below w.heap.size w w2) (hu : SlI S' w2 .i64 (mf k) ms[k]) => HSO w2 hb S' (mf k) ms[k] hu
    have hHW := Lib.hid hwl; clear hwl
    by_cases hri : Rise ms[k] g.length
    case neg =>
      have hrb := riseB_false hri
      rw [hrb] at hso
      have hF := HNO.out (setsTo_bad_rise hlt (by rw [hgk]; exact hri))
      have HF := Lib.hid hF; clear hF HNO HYES hrb hri HSO hgk hst
      go_wp2
      refine wp_region_held_drew (S := (fun w' => w'.cell? ⟨w.heap.size, 0, none⟩ = some (.slice ga g.length gc) ∧ w'.cell? ⟨w.heap.size + 1, 0, none⟩ = some (.slice (some ⟨mb, moff, none⟩) ms.length mcap) ∧ w'.cell? ⟨mb, moff + k, none⟩ = some (mf k))) (by kernel_rfl) ?_ (fun hHeld => ?_)
      · first | exact ⟨‹_›, ‹_›, ‹_›⟩ | (simp [*, go_sem])
      have hqc := hq.drew
      have hrowc := hrow.drew
      generalize World.drew _ = wd at hqc hrowc hHeld ⊢
      refine wpAnyH_take (i := 0) (v := ?v1) (by simp only [List.getElem?_toArray, List.getElem?_cons_zero]; exact rfl) (by kernel_rfl) (by kernel_rfl) (by kernel_rfl) (by intro _ _ _ h; exact h) (Or.inl ⟨by rfl, ?y1⟩) hHeld ?_
      case y1 => (intro w hSw; (try dsimp only at hSw); go_simp; try (with_reducible rfl))
      try simp only [Act.put, List.setIfInBounds_toArray, List.set_cons_zero, List.set_cons_succ]
      refine wpAnyH_take (i := 1) (v := ?v2) (by simp only [List.getElem?_toArray, List.getElem?_cons_succ, List.getElem?_cons_zero]; exact rfl) (by kernel_rfl) (by kernel_rfl) (by kernel_rfl) (by intro _ _ _ h; exact h) (Or.inl ⟨by rfl, ?y2⟩) hHeld ?_
      case y2 => (intro w hSw; (try dsimp only at hSw); go_simp; try (with_reducible rfl))
      try simp only [Act.put, List.setIfInBounds_toArray, List.set_cons_zero, List.set_cons_succ]
      refine wpAnyH_take (i := 2) (v := ?v3) (by simp only [List.getElem?_toArray, List.getElem?_cons_succ, List.getElem?_cons_zero]; exact rfl) (by kernel_rfl) (by kernel_rfl) (by kernel_rfl) (by intro _ _ _ h; exact h) (Or.inl ⟨by rfl, ?y3⟩) hHeld ?_
      case y3 => (intro w hSw; (try dsimp only at hSw); go_simp; try (with_reducible rfl))
      try simp only [Act.put, List.setIfInBounds_toArray, List.set_cons_zero, List.set_cons_succ]
      refine wpAnyH_take (i := 3) (v := ?v4) (by simp only [List.getElem?_toArray, List.getElem?_cons_succ, List.getElem?_cons_zero]; exact rfl) (by kernel_rfl) (by kernel_rfl) (by kernel_rfl) (by intro _ _ _ h; exact h) (Or.inl ⟨by rfl, ?y4⟩) hHeld ?_
      case y4 => (intro w hSw; (try dsimp only at hSw); go_simp; try (with_reducible rfl))
      try simp only [Act.put, List.setIfInBounds_toArray, List.set_cons_zero, List.set_cons_succ]
      refine wpAnyH_take (i := 4) (v := ?v5) (by simp only [List.getElem?_toArray, List.getElem?_cons_succ, List.getElem?_cons_zero]; exact rfl) (by kernel_rfl) (by kernel_rfl) (by kernel_rfl) (by intro _ _ _ h; exact h) (Or.inl ⟨by rfl, ?y5⟩) hHeld ?_
      case y5 => (intro w hSw; (try dsimp only at hSw); go_simp; try (with_reducible rfl))
      try simp only [Act.put, List.setIfInBounds_toArray, List.set_cons_zero, List.set_cons_succ]
      refine wpAnyH_take (i := 5) (v := ?v6) (by simp only [List.getElem?_toArray, List.getElem?_cons_succ, List.getElem?_cons_zero]; exact rfl) (by kernel_rfl) (by kernel_rfl) (by kernel_rfl) (by intro _ _ _ h; exact h) (Or.inl ⟨by rfl, ?y6⟩) hHeld ?_
      case y6 => (intro w hSw; (try dsimp only at hSw); go_simp; try (with_reducible rfl))
      try simp only [Act.put, List.setIfInBounds_toArray, List.set_cons_zero, List.set_cons_succ]
      refine wpAnyH_ready (rs := [6]) (by kernel_rfl) (by simp) ?_
      refine AllReadyH.cons (by simp only [List.getElem?_toArray, List.getElem?_cons_succ, List.getElem?_cons_zero]; exact rfl) (fun K hK => ?_) AllReadyH.nil
      go_simp
      refine (hso _ hqc hrowc).mono ?_
      rintro e wn ⟨rfl, hbn⟩
      have hqn := hqc.trans (hbn.mono hqc.size)
      obtain ⟨c3, c4, c5⟩ := hHeld
      have c3n := (hbn.cell (cell_lt c3)).trans c3
      have c4n := (hbn.cell (cell_lt c4)).trans c4
      have c5n := (hbn.cell (cell_lt c5)).trans c5
      try dsimp only
      refine hK.out _ _ ?h8 (fun hHeld => ?_)
      case h8 => first | exact ⟨‹_›, ‹_›, ‹_›⟩ | (simp [*, go_sem])
      clear hK K
      try simp only [Act.put, List.setIfInBounds_toArray, List.set_cons_zero, List.set_cons_succ]
      refine wpAnyH_take (i := 7) (v := ?v9) (by simp only [List.getElem?_toArray, List.getElem?_cons_succ, List.getElem?_cons_zero]; exact rfl) (by kernel_rfl) (by kernel_rfl) (by kernel_rfl) (by intro _ _ _ h; exact h) (Or.inl ⟨by rfl, ?y9⟩) hHeld ?_
      case y9 => (intro w hSw; (try dsimp only at hSw); go_simp; try (with_reducible rfl))
      try simp only [Act.put, List.setIfInBounds_toArray, List.set_cons_zero, List.set_cons_succ]
      refine wpAnyH_done (by kernel_rfl) ?_ _
      go_wp2
      go_ret2
      rw [HF.out]
      exact ⟨_, rfl, SlI.emptyI _ _ _ _, hqn.alloc hqn.size _⟩
    have hrb := riseB_true hri
    rw [hrb] at hso
    have hrl := rise_len hri (by omega)
    clear hrb HSO
    go_wp2
    refine wp_region_held_drew (S := (fun w' => w'.cell? ⟨w.heap.size, 0, none⟩ = some (.slice ga g.length gc) ∧ w'.cell? ⟨w.heap.size + 1, 0, none⟩ = some (.slice (some ⟨mb, moff, none⟩) ms.length mcap) ∧ w'.cell? ⟨mb, moff + k, none⟩ = some (mf k))) (by kernel_rfl) ?_ (fun hHeld => ?_)
    · first | exact ⟨‹_›, ‹_›, ‹_›⟩ | (simp [*, go_sem])
    have hqc := hq.drew
    have hrowc := hrow.drew
    have hownc := hown.below (Below.refl wr.heap.size wr).drew (Nat.le_refl _)
    generalize World.drew _ = wd at hqc hrowc hownc hHeld ⊢
    refine wpAnyH_take (i := 0) (v := ?v10) (by simp only [List.getElem?_toArray, List.getElem?_cons_zero]; exact rfl) (by kernel_rfl) (by kernel_rfl) (by kernel_rfl) (by intro _ _ _ h; exact h) (Or.inl ⟨by rfl, ?y10⟩) hHeld ?_
    case y10 => (intro w hSw; (try dsimp only at hSw); go_simp; try (with_reducible rfl))
    try simp only [Act.put, List.setIfInBounds_toArray, List.set_cons_zero, List.set_cons_succ]
    refine wpAnyH_take (i := 1) (v := ?v11) (by simp only [List.getElem?_toArray, List.getElem?_cons_succ, List.getElem?_cons_zero]; exact rfl) (by kernel_rfl) (by kernel_rfl) (by kernel_rfl) (by intro _ _ _ h; exact h) (Or.inl ⟨by rfl, ?y11⟩) hHeld ?_
    case y11 => (intro w hSw; (try dsimp only at hSw); go_simp; try (with_reducible rfl))
    try simp only [Act.put, List.setIfInBounds_toArray, List.set_cons_zero, List.set_cons_succ]
    refine wpAnyH_take (i := 2) (v := ?v12) (by simp only [List.getElem?_toArray, List.getElem?_cons_succ, List.getElem?_cons_zero]; exact rfl) (by kernel_rfl) (by kernel_rfl) (by kernel_rfl) (by intro _ _ _ h; exact h) (Or.inl ⟨by rfl, ?y12⟩) hHeld ?_
    case y12 => (intro w hSw; (try dsimp only at hSw); go_simp; try (with_reducible rfl))
    try simp only [Act.put, List.setIfInBounds_toArray, List.set_cons_zero, List.set_cons_succ]
    refine wpAnyH_take (i := 3) (v := ?v13) (by simp only [List.getElem?_toArray, List.getElem?_cons_succ, List.getElem?_cons_zero]; exact rfl) (by kernel_rfl) (by kernel_rfl) (by kernel_rfl) (by intro _ _ _ h; exact h) (Or.inl ⟨by rfl, ?y13⟩) hHeld ?_
    case y13 => (intro w hSw; (try dsimp only at hSw); go_simp; try (with_reducible rfl))
    try simp only [Act.put, List.setIfInBounds_toArray, List.set_cons_zero, List.set_cons_succ]
    refine wpAnyH_take (i := 4) (v := ?v14) (by simp only [List.getElem?_toArray, List.getElem?_cons_succ, List.getElem?_cons_zero]; exact rfl) (by kernel_rfl) (by kernel_rfl) (by kernel_rfl) (by intro _ _ _ h; exact h) (Or.inl ⟨by rfl, ?y14⟩) hHeld ?_
    case y14 => (intro w hSw; (try dsimp only at hSw); go_simp; try (with_reducible rfl))
    try simp only [Act.put, List.setIfInBounds_toArray, List.set_cons_zero, List.set_cons_succ]
    refine wpAnyH_take (i := 5) (v := ?v15) (by simp only [List.getElem?_toArray, List.getElem?_cons_succ, List.getElem?_cons_zero]; exact rfl) (by kernel_rfl) (by kernel_rfl) (by kernel_rfl) (by intro _ _ _ h; exact h) (Or.inl ⟨by rfl, ?y15⟩) hHeld ?_
    case y15 => (intro w hSw; (try dsimp only at hSw); go_simp; try (with_reducible rfl))
    try simp only [Act.put, List.setIfInBounds_toArray, List.set_cons_zero, List.set_cons_succ]
    refine wpAnyH_ready (rs := [6]) (by kernel_rfl) (by simp) ?_
    refine AllReadyH.cons (by simp only [List.getElem?_toArray, List.getElem?_cons_succ, List.getElem?_cons_zero]; exact rfl) (fun K hK => ?_) AllReadyH.nil
    go_simp
    refine (hso _ hqc hrowc).mono ?_
    rintro e wn ⟨rfl, hbn⟩
    have hqn := hqc.trans (hbn.mono hqc.size)
    obtain ⟨c3, c4, c5⟩ := hHeld
    have c3n := (hbn.cell (cell_lt c3)).trans c3
    have c4n := (hbn.cell (cell_lt c4)).trans c4
    have c5n := (hbn.cell (cell_lt c5)).trans c5
    have hownn := hownc.below hbn (Nat.le_refl _)
    try dsimp only
    refine hK.out _ _ ?h17 (fun hHeld => ?_)
    case h17 => first | exact ⟨‹_›, ‹_›, ‹_›⟩ | (simp [*, go_sem])
    clear hK K
    try simp only [Act.put, List.setIfInBounds_toArray, List.set_cons_zero, List.set_cons_succ]
    refine wpAnyH_take (i := 7) (v := ?v18) (by simp only [List.getElem?_toArray, List.getElem?_cons_succ, List.getElem?_cons_zero]; exact rfl) (by kernel_rfl) (by kernel_rfl) (by kernel_rfl) (by intro _ _ _ h; exact h) (Or.inl ⟨by rfl, ?y18⟩) hHeld ?_
    case y18 => (intro w hSw; (try dsimp only at hSw); go_simp; try (with_reducible rfl))
    try simp only [Act.put, List.setIfInBounds_toArray, List.set_cons_zero, List.set_cons_succ]
    refine wpAnyH_done (by kernel_rfl) ?_ _
    clear hown hq hbg hbm hqc hrowc hownc c3 c4 c5 hrow hcm hso
    have HHS := Lib.hid hst; clear hst
    go_wp2
    go_loopw [8] (fun i wr => ∃ j : Nat, j ≤ ms[k].length ∧ i = .int .i64 j ∧ (∀ v ∈ ms[k].take j, ¬ metL ms k v) ∧ Own wr (w.heap.size + 2) 2 1 (.slice (some ⟨w1.heap.size, 0, none⟩) g.length g.length) g.length ((paintL (wordL g.length ms k) (ms[k].take j) ((k : Int) + 1)).map (.int .i64)) ∧ Below w.heap.size w wr ∧
      wr.cell? ⟨w.heap.size, 0, none⟩ = some (.slice ga g.length gc) ∧ wr.cell? ⟨w.heap.size + 1, 0, none⟩ = some (.slice (some ⟨mb, moff, none⟩) ms.length mcap)) (fun i _ => ms[k].length - (intOf i).toNat)
    case atStart => exact ⟨0, Nat.zero_le _, rfl, (fun v hv => by simp at hv), by simpa [paintL] using hownn, hqn, c3n, c4n⟩
    case round =>
      clear hownn hqn c3n c4n c5n hbn
      obtain ⟨wi, rfl⟩ : ∃ x : World, x = wr := ⟨_, rfl⟩
      obtain ⟨j, hj, rfl, hmet, hown, hq, hbg, hbm⟩ := hrel
      have HMET := Lib.hid hmet; clear hmet
      obtain ⟨hcm, hrow⟩ := (hmc0.below hq (Nat.le_refl _)) k hlt
      obtain ⟨ra, rb, roff, rcap, hfe, hrl2, hra, hrc⟩ := hrow
      rw [hfe] at hcm
      by_cases hlt2 : j < ms[k].length
      case neg =>
        obtain rfl : j = ms[k].length := by omega
        rw [List.take_length] at hown
        have hnx := setsTo_succ HHS.out (by rw [hgk]; exact hri) (fun v hv => HMET.out v (by rw [List.take_length]; rw [hgk] at hv; exact hv))
        have HNX := Lib.hid hnx; have HG := Lib.hid hgk; clear hnx hri hgk
        go_wp2
        go_roundw
        case rel => exact ⟨k + 1, by omega, by go_num, HNX.out, by rw [wordL, HG.out]; exact hown, hq, hbg, hbm⟩
        case measure => simp [intOf]; omega
      have hcell := hrc j hlt2
      obtain ⟨rfl, -⟩ := hra (by omega)
      have hxr := hri j hlt2 hlt2
      obtain ⟨x, hx⟩ := Int.eq_ofNat_of_zero_le hxr.1
      have hxn : x < g.length := by omega
      have hpl : (paintL (wordL g.length ms k) (ms[k].take j) ((k : Int) + 1)).length = g.length := by rw [paintL_len]; exact hHW.out
      have hpt := paintL_take (o := wordL g.length ms k) (x := (k : Int) + 1) hlt2
      have hnt := rise_take_not hri hlt2
      have hval := paintL_get (x := (k : Int) + 1) (i := x) (s := ms[k].take j) (o := wordL g.length ms k) (fun v hv => (rise_ge hri v (List.mem_of_mem_take hv)).1) (by rw [hHW.out]; exact hxn)
      rw [hx] at hcell hpt hnt
      rw [if_neg hnt] at hval
      have hwp := word_pos HHS.out hxn
      have hoc := own_int hown (by rw [hpl]; exact hxn) hpl
      rw [hval] at hoc
      have hfz := World.ownsRow.frozenAt hown x
      have hmx := take_step (P := fun v => ¬ metL ms k v) hlt2 HMET.out
      rw [hx] at hmx
      have hbad := fun h => HNO.out (setsTo_bad_met (v := (x : Int)) hlt (by rw [hgk, ← hx]; exact List.getElem_mem _) h)
      have hos := own_int_set hown x ((k : Int) + 1)
      rw [Int.toNat_natCast] at hpt
      rw [← hpt] at hos
      generalize (wordL g.length ms k).getD x 0 = y at hoc hwp
      have HX := Lib.hid hx; have HPT := Lib.hid hpt; have HBAD := Lib.hid hbad; have HMX := Lib.hid hmx; have HPL := Lib.hid hpl; have HVAL := Lib.hid hval; have HGK := Lib.hid hgk; clear hx hpt hnt hval hbad hmx hpl hgk
      have HOS := Lib.hid hos; clear hos
      by_cases hy : 0 < y
      · have hb : decide (0 < y) = true := by simpa using hy
        have hF := HBAD.out (hwp.1.1 hy)
        have HF := Lib.hid hF; clear hF hwp
        go_wp2
        go_ret2
        rw [HF.out]
        exact ⟨_, rfl, SlI.emptyI _ _ _ _, hq.alloc hq.size _⟩
      · have hb : decide (0 < y) = false := by simpa using hy
        have hnm : ¬ metL ms k (x : Int) := fun h => hy (hwp.1.2 h)
        have HNM := Lib.hid hnm; clear hnm hwp
        have hbl : ∀ b, b ≠ w1.heap.size → (wi.setCell ⟨w1.heap.size, x, none⟩ (.int .i64 ((k : Int) + 1))).heap[b]? = wi.heap[b]? := fun b hb => Below.heap_setCell _ _ _ _ (by simpa using hb)
        go_wp2
        go_roundw
        case rel => exact ⟨j + 1, by omega, by go_num, HMX.out HNM.out, HOS.out, hq.setCell (by simp; omega) _, (World.cell?_of_block (a := ⟨w.heap.size, 0, none⟩) (hbl _ (by show w.heap.size ≠ w1.heap.size; omega))).trans hbg, (World.cell?_of_block (a := ⟨w.heap.size + 1, 0, none⟩) (hbl _ (by show w.heap.size + 1 ≠ w1.heap.size; omega))).trans hbm⟩
        case measure => simp [intOf]; omega
/-- The masks of the sets, if all are right. -/
def masksOf (ms : List (List Int)) (k : Nat) : List Nat := (ms.take k).map maskL
theorem masksOf_succ {ms : List (List Int)} {k : Nat} (hk : k < ms.length) : masksOf ms (k + 1) = masksOf ms k ++ [maskL ms[k]] := by
  unfold masksOf; rw [List.take_succ_eq_append_getElem hk, List.map_append]; rfl
theorem masksOf_len {ms : List (List Int)} {k : Nat} (hk : k ≤ ms.length) : (masksOf ms k).length = k := by simp [masksOf]; omega
theorem seen_meet {n : Nat} {ms : List (List Int)} {k : Nat} (hk : k < ms.length) (h : SetsTo n ms k) (hr : Rise ms[k] n) : maskL ms[k] &&& seenL ms k = 0 ↔ ∀ v ∈ ms[k], ¬ metL ms k v := by
  constructor
  · intro h0 v hv hm
    have hv0 := (rise_ge hr v hv).1
    have h1 := testBit_maskL (fun x hx => (rise_ge hr x hx).1) v.toNat
    have h2 := (seenL_bit h v.toNat).2 (by rw [Int.toNat_of_nonneg hv0]; exact hm)
    have h3 := Nat.testBit_and (maskL ms[k]) (seenL ms k) v.toNat
    rw [h0, Nat.zero_testBit, h2, h1, Int.toNat_of_nonneg hv0] at h3
    simp [hv] at h3
  · intro h0
    apply nat_ext
    intro i
    rw [Nat.testBit_and, Nat.zero_testBit]
    cases hi : (maskL ms[k]).testBit i
    · rfl
    · rw [testBit_maskL (fun x hx => (rise_ge hr x hx).1), decide_eq_true_eq] at hi
      cases hs : (seenL ms k).testBit i
      · rfl
      · exact absurd ((seenL_bit h i).1 hs) (h0 _ hi)
theorem elVs2 : Elem Tryd.prog 69 66 1 4 (.int .u32 0) := ⟨Tryd.underlying69, by kernel_rfl, rfl, by omega, by omega⟩
set_option maxRecDepth 100000 in
set_option maxHeartbeats 8000000 in
theorem modelMasks_any {S S' : Nat → Prop} {gv mv : Value} {g ms : List (List Int)} {w : World} (hvg : SlR S w gv g) (hvm : SlR S' w mv ms) :
    Calls Tryd.prog 115 #[.agg #[gv], .agg #[mv]] w fun e w' => ∃ u, e = .returned (.tuple #[u, .bool (modelF g ms).isSome]) ∧ (modelF g ms = none → u = .slice none 0 0) ∧ (modelF g ms ≠ none → Own w' w.heap.size 66 1 u ms.length ((natsI (masksOf ms ms.length)).map (.int .u32))) ∧ Below w.heap.size w w' := by
  have hq0 : Below w.heap.size w ((w.alloc (.cells #[gv] 27)).alloc (.cells #[mv] 43)) := ((Below.refl _ _).alloc (Nat.le_refl _) _).alloc (by simp) _
  obtain ⟨ga, gc, rfl⟩ := hvg.slice
  have hgo := implGraphOk_any _ _ _ (hvg.below hq0 (Nat.le_refl _))
  by_cases hgg : gokB g = true
  case neg =>
    have hgg' : gokB g = false := by simpa using hgg
    rw [hgg'] at hgo
    obtain ⟨ma, mc, rfl⟩ := hvm.slice
    have hE := modelF_no (g := g) (ms := ms) (fun h => by rw [hgg'] at h; cases h.1)
    rw [hE]
    clear hgg hgg' hE
    go_enter Tryd.func115, Tryd.ntmps115
    go_wp2_with fail
    refine hgo.mono ?_
    rintro e w1 ⟨rfl, hb1⟩
    go_wp2
    go_ret2
    exact ⟨_, rfl, fun _ => rfl, fun h => absurd rfl h, hq0.trans (hb1.mono hq0.size)⟩
  rw [hgg] at hgo
  have hg := gokB_iff.1 hgg
  have h16 := hg.hi
  have hlm := hvm.len
  by_cases hm16 : ms.length ≤ 16
  case neg =>
    have hb1 : decide ((16 : Int) < (ms.length : Int)) = true := by simp; omega
    have hb2 : decide (16 < ms.length) = true := by simp; omega
    obtain ⟨ma, mc, rfl⟩ := hvm.slice
    have hE := modelF_no (g := g) (ms := ms) (fun h => hm16 h.2.1)
    rw [hE]
    clear hgg hE
    go_enter Tryd.func115, Tryd.ntmps115
    go_wp2_with fail
    refine hgo.mono ?_
    rintro e w1 ⟨rfl, hb1⟩
    have c4 : w1.cell? ⟨w.heap.size + 1, 0, none⟩ = some (.slice ma ms.length mc) := (hb1.cell (p := ⟨w.heap.size + 1, 0, none⟩) (by simp)).trans (by simp [go_sem])
    go_wp2
    go_ret2
    exact ⟨_, rfl, fun _ => rfl, fun h => absurd rfl h, hq0.trans (hb1.mono hq0.size)⟩
  have hb1 : decide ((16 : Int) < (ms.length : Int)) = false := by simp; omega
  have hb2 : decide (16 < ms.length) = false := by simp; omega
  have hno := fun (h : ¬ SetsTo g.length ms ms.length) => modelF_no (g := g) (ms := ms) (fun h2 => h h2.2.2)
  have hyes := fun (h : SetsTo g.length ms ms.length) => modelF_yes (g := g) (ms := ms) ⟨hgg, hm16, h⟩
  have HNO := Lib.hid hno; have HYES := Lib.hid hyes; clear hno hyes
  obtain ⟨ma, mb, moff, mcap, mf, rfl, hml, hma, hmc0⟩ := hvm
  have HSO := fun (w1 : World) (hb : Below w.heap.size w w1) (S2 : Nat → Prop) (u : Value) (s : List Int) (hu : SlI S2 w1 .i64 u s) => implSetOk_any _ _ _ _ _ (hvg.below hb (Nat.le_refl _)) hu
  have hset : ∀ s, setOkB g s = riseB s g.length := fun s => by simp [setOkB, hgg]
  simp only [hset] at HSO
  clear hgg hset
  go_enter Tryd.func115, Tryd.ntmps115
  go_wp2_with fail
  refine hgo.mono ?_
  rintro e w1 ⟨rfl, hb1⟩
  have hq1 := hq0.trans (hb1.mono hq0.size)
  have c3 : w1.cell? ⟨w.heap.size, 0, none⟩ = some (.slice ga g.length gc) := (hb1.cell (p := ⟨w.heap.size, 0, none⟩) (by simp; omega)).trans (by simp [go_sem])
  have c4 : w1.cell? ⟨w.heap.size + 1, 0, none⟩ = some (.slice ma ms.length mcap) := (hb1.cell (p := ⟨w.heap.size + 1, 0, none⟩) (by simp)).trans (by simp [go_sem])
  have hz1 : w.heap.size + 2 ≤ w1.heap.size := by have := cell_lt c4; simp at this; omega
  clear hgo
  have c4a := (World.cell?_alloc_some w1 ⟨w.heap.size + 1, 0, none⟩ (.cells #[] 66) (by rw [c4]; rfl)).trans c4
  go_wp2
  go_loopw [6, 7, 23] (fun o s i wr => ∃ k : Nat, k ≤ ms.length ∧ i = .int .i64 k ∧ s = .int .u32 (seenL ms k : Int) ∧ SetsTo g.length ms k ∧ Own wr (w.heap.size + 2) 66 1 o k ((natsI (masksOf ms k)).map (.int .u32)) ∧ Below w.heap.size w wr ∧ w.heap.size + 2 ≤ wr.heap.size ∧ wr.cell? ⟨w.heap.size, 0, none⟩ = some (.slice ga g.length gc)) (fun _ _ i _ => ms.length - (intOf i).toNat)
  case atStart =>
    refine ⟨0, Nat.zero_le _, rfl, rfl, (fun j hj => by omega), ?_, hq1.alloc hq1.size _, by simp; omega, (World.cell?_alloc_some w1 ⟨w.heap.size, 0, none⟩ _ (by rw [c3]; rfl)).trans c3⟩
    have := World.ownsRow_lit (base := w.heap.size + 2) (e := 66) (size := 1) w1 #[] 0 hz1 (by unfold maxLen; omega) rfl
    simpa [Own, masksOf, natsI] using this
  case round =>
    clear c3 c4 c4a hq1
    obtain ⟨k, hk, rfl, rfl, hst, hown, hq, hz, hbg⟩ := hrel
    by_cases hlt : k < ms.length
    case neg =>
      obtain rfl : k = ms.length := by omega
      have hF := HYES.out hst
      have HF := Lib.hid hF; clear hF HNO HYES hst HSO
      go_wp2
      go_ret2
      rw [HF.out]
      exact ⟨_, rfl, (fun h => by cases h), fun _ => hown.weak (by omega), hq⟩
    obtain ⟨hcm, hrow⟩ := (hmc0.below hq (Nat.le_refl _)) k hlt
    obtain ⟨rfl, -⟩ := hma (by omega)
    have hgk := getD_lt (d := []) hlt
    have hso := HSO wr hq S' (mf k) ms[k] hrow
    have hs32 : seenL ms k < 4294967296 := by
      have := seenL_lt h16 hst; have := pow_le16 h16; omega
    obtain ⟨ra, rc, hfe⟩ := hrow.slice
    have hrow0 := (hmc0 k hlt).2
    rw [hfe] at hcm hrow hso hrow0
    by_cases hri : Rise ms[k] g.length
    case neg =>
      have hrb := riseB_false hri
      rw [hrb] at hso
      have hF := HNO.out (setsTo_bad_rise hlt (by rw [hgk]; exact hri))
      have HF := Lib.hid hF
      clear hF HNO HYES hrb hri HSO hgk hst
      go_wp2_with fail
      refine hso.mono ?_
      rintro e w2 ⟨rfl, hb2⟩
      clear hso
      go_wp2
      go_ret2
      rw [HF.out]
      exact ⟨_, rfl, fun _ => rfl, fun h => absurd rfl h, hq.trans (hb2.mono hq.size)⟩
    have hrb := riseB_true hri
    rw [hrb] at hso
    have h32 : ∀ x ∈ ms[k], 0 ≤ x ∧ x < 32 := fun x hx => by have := rise_ge hri x hx; omega
    have hm32 := maskL_lt32 h32
    have hand := u32_and_nat (maskL ms[k]) (seenL ms k) hm32 hs32
    have hor := u32_or_nat (seenL ms k) (maskL ms[k]) hs32 hm32
    have hsm := seen_meet hlt hst hri
    have hss : seenL ms (k + 1) = seenL ms k ||| maskL ms[k] := by rw [seenL, hgk]
    have HSS := Lib.hid hss; have HOR := Lib.hid hor; clear hss hor
    have HHS := Lib.hid hst; clear hst hrb HSO
    by_cases h0 : maskL ms[k] &&& seenL ms k = 0
    case neg =>
      have hb : (((maskL ms[k] &&& seenL ms k : Nat) : Int) != 0) = true := by rw [bne_iff_ne]; omega
      have hbad : ¬ SetsTo g.length ms ms.length := by
        have : ¬ ∀ v ∈ ms[k], ¬ metL ms k v := fun h => h0 (hsm.2 h)
        intro hst
        apply this
        intro v hv hm
        exact setsTo_bad_met hlt (by rw [hgk]; exact hv) hm hst
      have hF := HNO.out hbad
      have HF := Lib.hid hF
      clear hF HNO HYES hri hgk hbad hsm h0
      go_wp2_with fail
      refine hso.mono ?_
      rintro e w2 ⟨rfl, hb2⟩
      clear hso
      have hrow2 := hrow.below hb2 (Nat.le_refl _)
      go_wp2_with (go_at_call 55; refine (maskOf_any _ _ _ hrow2 h32).mono ?_; rintro e w' ⟨rfl, rfl⟩)
      go_ret2
      rw [HF.out]
      exact ⟨_, rfl, fun _ => rfl, fun h => absurd rfl h, hq.trans (hb2.mono hq.size)⟩
    have hb : (((maskL ms[k] &&& seenL ms k : Nat) : Int) != 0) = false := by rw [h0]; rfl
    have hnx := setsTo_succ HHS.out (by rw [hgk]; exact hri) (fun v hv => hsm.1 h0 v (by rw [hgk] at hv; exact hv))
    have HNX := Lib.hid hnx; clear hnx hsm hri hgk
    have H0 := Lib.hid h0; clear h0
    go_wp2_with fail
    refine hso.mono ?_
    rintro e w2 ⟨rfl, hb2⟩
    clear hso
    have hrow2 := hrow.below hb2 (Nat.le_refl _)
    have hq2 := hq.trans (hb2.mono hq.size)
    have hB2 : w.heap.size + 2 ≤ w2.heap.size := Nat.le_trans hz hb2.size
    have hown2 := hown.below hb2 (Nat.le_refl _)
    have hbg2 := (hb2.cell (cell_lt hbg)).trans hbg
    go_wp2_with (first
      | (go_at_call 55; (first | refine (maskOf_any _ _ _ hrow3 h32).mono ?_ | refine (maskOf_any _ _ _ hrow2 h32).mono ?_); rintro e w' ⟨rfl, rfl⟩)
      | (at_builtin; refine wpList_append1 elVs2 rfl _ _ rfl hown2 rfl rfl rfl (by omega) hB2 ?_; intro v' w3 hown3 hkept hmv; have hq3 := hkept.below hq2 hq2.size (fun b hb => by have := hown2.ge b hb; omega); have hrow3 := hrow0.below hq3 (Nat.le_refl _)))
    go_roundw
    case rel => exact ⟨k + 1, by omega, by go_num, by rw [HSS.out]; exact congrArg (Value.int .u32) HOR.out, HNX.out, by rw [masksOf_succ hlt]; simpa [natsI] using hown3, hq3, Nat.le_trans hB2 hkept.2.2.2.1, (World.cell?_of_block (a := ⟨w.heap.size, 0, none⟩) (hkept.2.2.2.2 w.heap.size (cell_lt hbg2) (fun e => by have := hown2.ge _ e.symm; omega))).trans hbg2⟩
    case measure => simp [intOf]; omega
