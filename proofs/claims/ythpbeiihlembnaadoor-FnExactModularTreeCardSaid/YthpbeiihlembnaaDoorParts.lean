/- Nodes of trees in memory: slices of structs of three cells; what the laws' size, copy and comparison do with them. -/
import Derived.Test.YthpbeiihlembnaaDoorLaws
namespace Go.Proofs.YthpbeiihlembnaaDoor
open Go.RowKit

structure PNode where
  kind : Int
  vertex : Int
  kids : List Int
deriving DecidableEq

/-- The cells from ⟨b, off⟩ on hold nodes, three cells each. -/
def PartsAt (S : Nat → Prop) (w : World) (b off : Nat) (f : Nat → Value) (t : List PNode) : Prop :=
  ∀ i (h : i < t.length), w.cell? ⟨b, off + i * 3, none⟩ = some (.int .i64 t[i].kind) ∧ w.cell? ⟨b, off + i * 3 + 1, none⟩ = some (.int .i64 t[i].vertex) ∧ w.cell? ⟨b, off + i * 3 + 2, none⟩ = some (f i) ∧ SlI S w .i64 (f i) t[i].kids
/-- v is a slice of nodes. -/
def SlP (S : Nat → Prop) (w : World) (v : Value) (t : List PNode) : Prop :=
  ∃ a b off cap f, v = .slice a t.length cap ∧ (t.length ≤ cap ∧ cap ≤ 9223372036854775807) ∧ (0 < t.length → a = some ⟨b, off, none⟩ ∧ S b) ∧ PartsAt S w b off f t
theorem PartsAt.below {S : Nat → Prop} {w w' : World} {B b off : Nat} {f : Nat → Value} {t : List PNode} (h : PartsAt S w b off f t) (hb : Below B w w') (hB : w.heap.size ≤ B) : PartsAt S w' b off f t :=
  fun i hi => by
    have hl := cell_lt (h i hi).1
    exact ⟨(hb.cell (p := ⟨b, off + i * 3, none⟩) (by simp at hl ⊢; omega)).trans (h i hi).1, (hb.cell (p := ⟨b, off + i * 3 + 1, none⟩) (by simp at hl ⊢; omega)).trans (h i hi).2.1,
      (hb.cell (p := ⟨b, off + i * 3 + 2, none⟩) (by simp at hl ⊢; omega)).trans (h i hi).2.2.1, (h i hi).2.2.2.below hb hB⟩
theorem SlP.below {S : Nat → Prop} {w w' : World} {B : Nat} {v : Value} {t : List PNode} (h : SlP S w v t) (hb : Below B w w') (hB : w.heap.size ≤ B) : SlP S w' v t := by
  obtain ⟨a, b, off, cap, f, rfl, hl, ha, hc⟩ := h
  exact ⟨a, b, off, cap, f, rfl, hl, ha, hc.below hb hB⟩
theorem PartsAt.drawn {S : Nat → Prop} {w w' : World} {b off : Nat} {f : Nat → Value} {t : List PNode} (h : PartsAt S w b off f t) (hw : Drawn w w') : PartsAt S w' b off f t :=
  h.below (hw.below w.heap.size) (Nat.le_refl _)
theorem SlP.drawn {S : Nat → Prop} {w w' : World} {v : Value} {t : List PNode} (h : SlP S w v t) (hw : Drawn w w') : SlP S w' v t :=
  h.below (hw.below w.heap.size) (Nat.le_refl _)
theorem SlP.slice {S : Nat → Prop} {w : World} {v : Value} {t : List PNode} (h : SlP S w v t) : ∃ a c, v = .slice a t.length c := by
  obtain ⟨a, b, off, cap, f, rfl, hl, ha, hc⟩ := h; exact ⟨a, cap, rfl⟩
def PSmallTo (t : List PNode) (left : Int) (k : Nat) : Prop := (t.length : Int) ≤ left ∧ ∀ i (h : i < t.length), i < k → (t[i].kids.length : Int) ≤ left
def SmallP (t : List PNode) (left : Int) : Prop := PSmallTo t left t.length
theorem smallP_mono {t : List PNode} {a b : Int} (h : SmallP t a) (hab : a ≤ b) : SmallP t b := ⟨Int.le_trans h.1 hab, fun i hi hk => Int.le_trans (h.2 i hi hk) hab⟩
set_option maxHeartbeats 1000000 in
theorem eqPart_any {S S' : Nat → Prop} (p q : PNode) (v u : Value) (w : World) (hv : SlI S w .i64 v p.kids) (hu : SlI S' w .i64 u q.kids) :
    Calls Tryd.prog 126 #[.agg #[.int .i64 p.kind, .int .i64 p.vertex, v], .agg #[.int .i64 q.kind, .int .i64 q.vertex, u]] w fun e w' => e = .returned (.bool (decide (p = q))) ∧ Below w.heap.size w w' := by
  have hb : Below w.heap.size w ((w.alloc (.cells #[.int .i64 p.kind, .int .i64 p.vertex, v] 126)).alloc (.cells #[.int .i64 q.kind, .int .i64 q.vertex, u] 126)) := (((Below.refl _ _).alloc (Nat.le_refl _) _).alloc (by simp) _)
  obtain ⟨k, x, l⟩ := p
  obtain ⟨k', x', l'⟩ := q
  simp only at hv hu hb ⊢
  by_cases h1 : k = k'
  case neg =>
    have h1b : (k != k') = true := by rw [bne_iff_ne]; exact h1
    have H1 := Lib.hid h1; clear h1
    go_enter Tryd.func126, Tryd.ntmps126
    go_wp2
    go_ret
    exact ⟨ret_bool (by simp [H1.out]), hb⟩
  have h1b : (k != k') = false := by simp [h1]
  have H1 := Lib.hid h1; clear h1
  by_cases h2 : x = x'
  case neg =>
    have h2b : (x != x') = true := by rw [bne_iff_ne]; exact h2
    have H2 := Lib.hid h2; clear h2
    go_enter Tryd.func126, Tryd.ntmps126
    go_wp2
    go_ret
    exact ⟨ret_bool (by simp [H2.out]), hb⟩
  have h2b : (x != x') = false := by simp [h2]
  have H2 := Lib.hid h2; clear h2
  have hc := eqInt64S_any _ _ _ _ _ (hv.below hb (Nat.le_refl _)) (hu.below hb (Nat.le_refl _))
  by_cases h3 : l = l'
  · have h3b : decide (l = l') = true := by simp [h3]
    rw [h3b] at hc
    have H3 := Lib.hid h3; clear h3
    go_enter Tryd.func126, Tryd.ntmps126
    go_wp2_with (go_at_call 19; refine hc.mono ?_; rintro e w' ⟨rfl, hd⟩)
    go_ret
    exact ⟨ret_bool (by simp [H1.out, H2.out, H3.out]), hb.trans (hd.below _)⟩
  · have h3b : decide (l = l') = false := by simp [h3]
    rw [h3b] at hc
    have H3 := Lib.hid h3; clear h3
    go_enter Tryd.func126, Tryd.ntmps126
    go_wp2_with (go_at_call 19; refine hc.mono ?_; rintro e w' ⟨rfl, hd⟩)
    go_ret
    exact ⟨ret_bool (by simp [H3.out]), hb.trans (hd.below _)⟩
set_option maxHeartbeats 2000000 in
theorem eqPartS_any {S S' : Nat → Prop} (v u : Value) (t t' : List PNode) (w : World) (hv : SlP S w v t) (hu : SlP S' w u t') :
    Calls Tryd.prog 52 #[v, u] w fun e w' => e = .returned (.bool (decide (t = t'))) ∧ Below w.heap.size w w' := by
  obtain ⟨a, b, off, cap, f, rfl, hl, ha, hc0⟩ := hv
  obtain ⟨a', b', off', cap', f', rfl, hl', ha', hc0'⟩ := hu
  by_cases hne : t.length = t'.length
  · have hn0 : ((t.length : Int) != t'.length) = false := by simp [hne]
    have HN := Lib.hid hne; clear hne
    go_enter Tryd.func52, Tryd.ntmps52
    go_wp2
    go_loopw [5] (fun i wr => ∃ k : Nat, k ≤ t.length ∧ i = .int .i64 k ∧ t.take k = t'.take k ∧ Below w.heap.size w wr) (fun i _ => t.length - (intOf i).toNat)
    case atStart => exact ⟨0, Nat.zero_le _, rfl, rfl, Below.refl _ _⟩
    case round =>
      obtain ⟨k, hk, rfl, he, hq⟩ := hrel
      have HE := Lib.hid he; clear he
      have hB := hq.size
      have hc := hc0.below hq (Nat.le_refl _)
      have hc' := hc0'.below hq (Nat.le_refl _)
      by_cases hlt : k < t.length
      · have hlt' : k < t'.length := by have := HN.out; omega
        obtain ⟨c1, c2, c3, hrow⟩ := hc k hlt
        obtain ⟨c4, c5, c6, hrow'⟩ := hc' k hlt'
        obtain ⟨rfl, hS⟩ := ha (by omega)
        obtain ⟨rfl, hS'⟩ := ha' (by omega)
        by_cases heq : t[k] = t'[k]
        · have hb : decide (t[k] = t'[k]) = true := by simp [heq]
          have HQ := Lib.hid heq; clear heq
          go_wp2
          refine wp_region_held_drew (S := (fun w' => w'.cell? ⟨b, off + k * 3, none⟩ = some (.int .i64 t[k].kind) ∧ w'.cell? ⟨b, off + k * 3 + 1, none⟩ = some (.int .i64 t[k].vertex) ∧ w'.cell? ⟨b, off + k * 3 + 2, none⟩ = some (f k) ∧ w'.cell? ⟨b', off' + k * 3, none⟩ = some (.int .i64 t'[k].kind) ∧ w'.cell? ⟨b', off' + k * 3 + 1, none⟩ = some (.int .i64 t'[k].vertex) ∧ w'.cell? ⟨b', off' + k * 3 + 2, none⟩ = some (f' k))) (by kernel_rfl) ?_ (fun hHeld => ?_)
          · first | exact ⟨‹_›, ‹_›, ‹_›, ‹_›, ‹_›, ‹_›⟩ | assumption | (simp [*, go_sem])
          refine wpAnyH_take (i := 0) (v := ?v1) (by simp only [List.getElem?_toArray, List.getElem?_cons_zero]; exact rfl) (by kernel_rfl) (by kernel_rfl) (by kernel_rfl) (by intro _ _ _ h; exact h) (Or.inl ⟨by rfl, ?y1⟩) hHeld ?_
          case y1 => (intro w hSw; (try dsimp only at hSw); go_simp; try (with_reducible rfl))
          try simp only [Act.put, List.setIfInBounds_toArray, List.set_cons_zero, List.set_cons_succ]
          refine wpAnyH_take (i := 1) (v := ?v2) (by simp only [List.getElem?_toArray, List.getElem?_cons_succ, List.getElem?_cons_zero]; exact rfl) (by kernel_rfl) (by kernel_rfl) (by kernel_rfl) (by intro _ _ _ h; exact h) (Or.inl ⟨by rfl, ?y2⟩) hHeld ?_
          case y2 => (intro w hSw; (try dsimp only at hSw); go_simp; try (with_reducible rfl))
          try simp only [Act.put, List.setIfInBounds_toArray, List.set_cons_zero, List.set_cons_succ]
          refine wpAnyH_take (i := 2) (v := ?v3) (by simp only [List.getElem?_toArray, List.getElem?_cons_succ, List.getElem?_cons_zero]; exact rfl) (by kernel_rfl) (by kernel_rfl) (by kernel_rfl) (by intro _ _ _ h; exact h) (Or.inl ⟨by rfl, ?y3⟩) hHeld ?_
          case y3 => (intro w hSw; (try dsimp only at hSw); go_simp; try (with_reducible rfl))
          try simp only [Act.put, List.setIfInBounds_toArray, List.set_cons_zero, List.set_cons_succ]
          refine wpAnyH_take (i := 3) (v := ?v4) (by simp only [List.getElem?_toArray, List.getElem?_cons_succ, List.getElem?_cons_zero]; exact rfl) (by kernel_rfl) (by kernel_rfl) (by kernel_rfl) (by intro _ _ _ h; exact h) (Or.inl ⟨by rfl, ?y4⟩) hHeld ?_
          case y4 => (intro w hSw; (try dsimp only at hSw); go_simp; try (with_reducible rfl))
          try simp only [Act.put, List.setIfInBounds_toArray, List.set_cons_zero, List.set_cons_succ]
          refine wpAnyH_take (i := 4) (v := ?v5) (by simp only [List.getElem?_toArray, List.getElem?_cons_succ, List.getElem?_cons_zero]; exact rfl) (by kernel_rfl) (by kernel_rfl) (by kernel_rfl) (by intro _ _ _ h; exact h) (Or.inl ⟨by rfl, ?y5⟩) hHeld ?_
          case y5 => (intro w hSw; (try dsimp only at hSw); go_simp; try (with_reducible rfl))
          try simp only [Act.put, List.setIfInBounds_toArray, List.set_cons_zero, List.set_cons_succ]
          refine wpAnyH_take (i := 5) (v := ?v6) (by simp only [List.getElem?_toArray, List.getElem?_cons_succ, List.getElem?_cons_zero]; exact rfl) (by kernel_rfl) (by kernel_rfl) (by kernel_rfl) (by intro _ _ _ h; exact h) (Or.inl ⟨by rfl, ?y6⟩) hHeld ?_
          case y6 => (intro w hSw; (try dsimp only at hSw); go_simp; try (with_reducible rfl))
          try simp only [Act.put, List.setIfInBounds_toArray, List.set_cons_zero, List.set_cons_succ]
          refine wpAnyH_take (i := 6) (v := ?v7) (by simp only [List.getElem?_toArray, List.getElem?_cons_succ, List.getElem?_cons_zero]; exact rfl) (by kernel_rfl) (by kernel_rfl) (by kernel_rfl) (by intro _ _ _ h; exact h) (Or.inl ⟨by rfl, ?y7⟩) hHeld ?_
          case y7 => (intro w hSw; (try dsimp only at hSw); go_simp; try (with_reducible rfl))
          try simp only [Act.put, List.setIfInBounds_toArray, List.set_cons_zero, List.set_cons_succ]
          refine wpAnyH_take (i := 7) (v := ?v8) (by simp only [List.getElem?_toArray, List.getElem?_cons_succ, List.getElem?_cons_zero]; exact rfl) (by kernel_rfl) (by kernel_rfl) (by kernel_rfl) (by intro _ _ _ h; exact h) (Or.inl ⟨by rfl, ?y8⟩) hHeld ?_
          case y8 => (intro w hSw; (try dsimp only at hSw); go_simp; try (with_reducible rfl))
          try simp only [Act.put, List.setIfInBounds_toArray, List.set_cons_zero, List.set_cons_succ]
          refine wpAnyH_ready (rs := [8]) (by kernel_rfl) (by simp) ?_
          refine AllReadyH.cons (by simp only [List.getElem?_toArray, List.getElem?_cons_succ, List.getElem?_cons_zero]; exact rfl) (fun K hK => ?_) AllReadyH.nil
          go_simp
          refine (eqPart_any _ _ _ _ _ hrow.drew hrow'.drew).mono ?_
          rintro e w1 ⟨rfl, hb1⟩
          have d1 := (hb1.cell (p := ⟨b, off + k * 3, none⟩) (cell_lt (w := wr.drew) c1)).trans c1
          have d2 := (hb1.cell (p := ⟨b, off + k * 3 + 1, none⟩) (cell_lt (w := wr.drew) c2)).trans c2
          have d3 := (hb1.cell (p := ⟨b, off + k * 3 + 2, none⟩) (cell_lt (w := wr.drew) c3)).trans c3
          have d4 := (hb1.cell (p := ⟨b', off' + k * 3, none⟩) (cell_lt (w := wr.drew) c4)).trans c4
          have d5 := (hb1.cell (p := ⟨b', off' + k * 3 + 1, none⟩) (cell_lt (w := wr.drew) c5)).trans c5
          have d6 := (hb1.cell (p := ⟨b', off' + k * 3 + 2, none⟩) (cell_lt (w := wr.drew) c6)).trans c6
          try dsimp only
          refine hK.out _ _ ?h10 (fun hHeld => ?_)
          case h10 => first | exact ⟨‹_›, ‹_›, ‹_›, ‹_›, ‹_›, ‹_›⟩ | assumption | (simp [*, go_sem])
          clear hK K
          try simp only [Act.put, List.setIfInBounds_toArray, List.set_cons_zero, List.set_cons_succ]
          refine wpAnyH_take (i := 9) (v := ?v11) (by simp only [List.getElem?_toArray, List.getElem?_cons_succ, List.getElem?_cons_zero]; exact rfl) (by kernel_rfl) (by kernel_rfl) (by kernel_rfl) (by intro _ _ _ h; exact h) (Or.inl ⟨by rfl, ?y11⟩) hHeld ?_
          case y11 => (intro w hSw; (try dsimp only at hSw); go_simp; try (with_reducible rfl))
          try simp only [Act.put, List.setIfInBounds_toArray, List.set_cons_zero, List.set_cons_succ]
          refine wpAnyH_done (by kernel_rfl) ?_ _
          go_wp2
          go_roundw
          case rel =>
            refine ⟨k + 1, by omega, by go_num, ?_, hq.trans ((((Drawn.refl wr).drew.below _).trans hb1).mono hB)⟩
            rw [List.take_succ_eq_append_getElem hlt, List.take_succ_eq_append_getElem hlt', HE.out, HQ.out]
          case measure => simp [intOf]; omega
        · have hb : decide (t[k] = t'[k]) = false := by simpa using heq
          go_wp2
          refine wp_region_held_drew (S := (fun w' => w'.cell? ⟨b, off + k * 3, none⟩ = some (.int .i64 t[k].kind) ∧ w'.cell? ⟨b, off + k * 3 + 1, none⟩ = some (.int .i64 t[k].vertex) ∧ w'.cell? ⟨b, off + k * 3 + 2, none⟩ = some (f k) ∧ w'.cell? ⟨b', off' + k * 3, none⟩ = some (.int .i64 t'[k].kind) ∧ w'.cell? ⟨b', off' + k * 3 + 1, none⟩ = some (.int .i64 t'[k].vertex) ∧ w'.cell? ⟨b', off' + k * 3 + 2, none⟩ = some (f' k))) (by kernel_rfl) ?_ (fun hHeld => ?_)
          · first | exact ⟨‹_›, ‹_›, ‹_›, ‹_›, ‹_›, ‹_›⟩ | assumption | (simp [*, go_sem])
          refine wpAnyH_take (i := 0) (v := ?v12) (by simp only [List.getElem?_toArray, List.getElem?_cons_zero]; exact rfl) (by kernel_rfl) (by kernel_rfl) (by kernel_rfl) (by intro _ _ _ h; exact h) (Or.inl ⟨by rfl, ?y12⟩) hHeld ?_
          case y12 => (intro w hSw; (try dsimp only at hSw); go_simp; try (with_reducible rfl))
          try simp only [Act.put, List.setIfInBounds_toArray, List.set_cons_zero, List.set_cons_succ]
          refine wpAnyH_take (i := 1) (v := ?v13) (by simp only [List.getElem?_toArray, List.getElem?_cons_succ, List.getElem?_cons_zero]; exact rfl) (by kernel_rfl) (by kernel_rfl) (by kernel_rfl) (by intro _ _ _ h; exact h) (Or.inl ⟨by rfl, ?y13⟩) hHeld ?_
          case y13 => (intro w hSw; (try dsimp only at hSw); go_simp; try (with_reducible rfl))
          try simp only [Act.put, List.setIfInBounds_toArray, List.set_cons_zero, List.set_cons_succ]
          refine wpAnyH_take (i := 2) (v := ?v14) (by simp only [List.getElem?_toArray, List.getElem?_cons_succ, List.getElem?_cons_zero]; exact rfl) (by kernel_rfl) (by kernel_rfl) (by kernel_rfl) (by intro _ _ _ h; exact h) (Or.inl ⟨by rfl, ?y14⟩) hHeld ?_
          case y14 => (intro w hSw; (try dsimp only at hSw); go_simp; try (with_reducible rfl))
          try simp only [Act.put, List.setIfInBounds_toArray, List.set_cons_zero, List.set_cons_succ]
          refine wpAnyH_take (i := 3) (v := ?v15) (by simp only [List.getElem?_toArray, List.getElem?_cons_succ, List.getElem?_cons_zero]; exact rfl) (by kernel_rfl) (by kernel_rfl) (by kernel_rfl) (by intro _ _ _ h; exact h) (Or.inl ⟨by rfl, ?y15⟩) hHeld ?_
          case y15 => (intro w hSw; (try dsimp only at hSw); go_simp; try (with_reducible rfl))
          try simp only [Act.put, List.setIfInBounds_toArray, List.set_cons_zero, List.set_cons_succ]
          refine wpAnyH_take (i := 4) (v := ?v16) (by simp only [List.getElem?_toArray, List.getElem?_cons_succ, List.getElem?_cons_zero]; exact rfl) (by kernel_rfl) (by kernel_rfl) (by kernel_rfl) (by intro _ _ _ h; exact h) (Or.inl ⟨by rfl, ?y16⟩) hHeld ?_
          case y16 => (intro w hSw; (try dsimp only at hSw); go_simp; try (with_reducible rfl))
          try simp only [Act.put, List.setIfInBounds_toArray, List.set_cons_zero, List.set_cons_succ]
          refine wpAnyH_take (i := 5) (v := ?v17) (by simp only [List.getElem?_toArray, List.getElem?_cons_succ, List.getElem?_cons_zero]; exact rfl) (by kernel_rfl) (by kernel_rfl) (by kernel_rfl) (by intro _ _ _ h; exact h) (Or.inl ⟨by rfl, ?y17⟩) hHeld ?_
          case y17 => (intro w hSw; (try dsimp only at hSw); go_simp; try (with_reducible rfl))
          try simp only [Act.put, List.setIfInBounds_toArray, List.set_cons_zero, List.set_cons_succ]
          refine wpAnyH_take (i := 6) (v := ?v18) (by simp only [List.getElem?_toArray, List.getElem?_cons_succ, List.getElem?_cons_zero]; exact rfl) (by kernel_rfl) (by kernel_rfl) (by kernel_rfl) (by intro _ _ _ h; exact h) (Or.inl ⟨by rfl, ?y18⟩) hHeld ?_
          case y18 => (intro w hSw; (try dsimp only at hSw); go_simp; try (with_reducible rfl))
          try simp only [Act.put, List.setIfInBounds_toArray, List.set_cons_zero, List.set_cons_succ]
          refine wpAnyH_take (i := 7) (v := ?v19) (by simp only [List.getElem?_toArray, List.getElem?_cons_succ, List.getElem?_cons_zero]; exact rfl) (by kernel_rfl) (by kernel_rfl) (by kernel_rfl) (by intro _ _ _ h; exact h) (Or.inl ⟨by rfl, ?y19⟩) hHeld ?_
          case y19 => (intro w hSw; (try dsimp only at hSw); go_simp; try (with_reducible rfl))
          try simp only [Act.put, List.setIfInBounds_toArray, List.set_cons_zero, List.set_cons_succ]
          refine wpAnyH_ready (rs := [8]) (by kernel_rfl) (by simp) ?_
          refine AllReadyH.cons (by simp only [List.getElem?_toArray, List.getElem?_cons_succ, List.getElem?_cons_zero]; exact rfl) (fun K hK => ?_) AllReadyH.nil
          go_simp
          refine (eqPart_any _ _ _ _ _ hrow.drew hrow'.drew).mono ?_
          rintro e w1 ⟨rfl, hb1⟩
          have d1 := (hb1.cell (p := ⟨b, off + k * 3, none⟩) (cell_lt (w := wr.drew) c1)).trans c1
          have d2 := (hb1.cell (p := ⟨b, off + k * 3 + 1, none⟩) (cell_lt (w := wr.drew) c2)).trans c2
          have d3 := (hb1.cell (p := ⟨b, off + k * 3 + 2, none⟩) (cell_lt (w := wr.drew) c3)).trans c3
          have d4 := (hb1.cell (p := ⟨b', off' + k * 3, none⟩) (cell_lt (w := wr.drew) c4)).trans c4
          have d5 := (hb1.cell (p := ⟨b', off' + k * 3 + 1, none⟩) (cell_lt (w := wr.drew) c5)).trans c5
          have d6 := (hb1.cell (p := ⟨b', off' + k * 3 + 2, none⟩) (cell_lt (w := wr.drew) c6)).trans c6
          try dsimp only
          refine hK.out _ _ ?h21 (fun hHeld => ?_)
          case h21 => first | exact ⟨‹_›, ‹_›, ‹_›, ‹_›, ‹_›, ‹_›⟩ | assumption | (simp [*, go_sem])
          clear hK K
          try simp only [Act.put, List.setIfInBounds_toArray, List.set_cons_zero, List.set_cons_succ]
          refine wpAnyH_take (i := 9) (v := ?v22) (by simp only [List.getElem?_toArray, List.getElem?_cons_succ, List.getElem?_cons_zero]; exact rfl) (by kernel_rfl) (by kernel_rfl) (by kernel_rfl) (by intro _ _ _ h; exact h) (Or.inl ⟨by rfl, ?y22⟩) hHeld ?_
          case y22 => (intro w hSw; (try dsimp only at hSw); go_simp; try (with_reducible rfl))
          try simp only [Act.put, List.setIfInBounds_toArray, List.set_cons_zero, List.set_cons_succ]
          refine wpAnyH_done (by kernel_rfl) ?_ _
          go_wp2
          go_ret
          exact ⟨ret_bool (by have : ¬ t = t' := fun h => heq (by subst h; rfl)
                              simp [this]), hq.trans ((((Drawn.refl wr).drew.below _).trans hb1).mono hB)⟩
      · go_wp2
        go_ret
        refine ⟨ret_bool ?_, hq⟩
        have h1 := HE.out
        rw [List.take_of_length_le (by omega), List.take_of_length_le (by have := HN.out; omega)] at h1
        simp [h1]
  · have hn0 : ((t.length : Int) != t'.length) = true := by rw [bne_iff_ne]; omega
    go_enter Tryd.func52, Tryd.ntmps52
    go_wp2
    go_ret
    exact ⟨ret_bool (by have : ¬ t = t' := fun h => hne (by subst h; rfl)
                        simp [this]), Below.refl _ _⟩
