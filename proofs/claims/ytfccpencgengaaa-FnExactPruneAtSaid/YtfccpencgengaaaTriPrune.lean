/- Slices of structs of three numbers: what the laws' size, copy and comparison do with them. -/
import Derived.Test.YtfccpencgengaaaLaws
import Derived.Test.YtfccpencgengaaaFoldM
import Derived.Test.YtfccpencgengaaaRead
import Derived.Deep.Slices
import Derived.Deep.Strs
namespace Go.Proofs.Ytfccpencgengaaa
open Go.RowKit Go.WideShapes Go.ChangeShapes Go.Deep
def triV (f : Tri) : Value := .agg #[.int .i64 f.a, .int .i64 f.b, .int .i64 f.c]

/-- The cells from ⟨b, off⟩ on hold triples, three cells each. -/
def TrisAt (w : World) (b off : Nat) (t : List Tri) : Prop :=
  ∀ i (h : i < t.length), w.cell? ⟨b, off + i * 3, none⟩ = some (.int .i64 t[i].a) ∧ w.cell? ⟨b, off + i * 3 + 1, none⟩ = some (.int .i64 t[i].b) ∧ w.cell? ⟨b, off + i * 3 + 2, none⟩ = some (.int .i64 t[i].c)
/-- v is a slice of triples. -/
def SlT (S : Nat → Prop) (w : World) (v : Value) (t : List Tri) : Prop :=
  ∃ a b off cap, v = .slice a t.length cap ∧ (t.length ≤ cap ∧ cap ≤ 9223372036854775807) ∧ (0 < t.length → a = some ⟨b, off, none⟩ ∧ S b) ∧ TrisAt w b off t
theorem TrisAt.below {w w' : World} {B b off : Nat} {t : List Tri} (h : TrisAt w b off t) (hb : Below B w w') (hB : w.heap.size ≤ B) : TrisAt w' b off t :=
  fun i hi => by
    have hl := cell_lt (h i hi).1
    exact ⟨(hb.cell (p := ⟨b, off + i * 3, none⟩) (by simp at hl ⊢; omega)).trans (h i hi).1, (hb.cell (p := ⟨b, off + i * 3 + 1, none⟩) (by simp at hl ⊢; omega)).trans (h i hi).2.1,
      (hb.cell (p := ⟨b, off + i * 3 + 2, none⟩) (by simp at hl ⊢; omega)).trans (h i hi).2.2⟩
theorem SlT.below {S : Nat → Prop} {w w' : World} {B : Nat} {v : Value} {t : List Tri} (h : SlT S w v t) (hb : Below B w w') (hB : w.heap.size ≤ B) : SlT S w' v t := by
  obtain ⟨a, b, off, cap, rfl, hl, ha, hc⟩ := h
  exact ⟨a, b, off, cap, rfl, hl, ha, hc.below hb hB⟩
theorem SlT.drawn {S : Nat → Prop} {w w' : World} {v : Value} {t : List Tri} (h : SlT S w v t) (hw : Drawn w w') : SlT S w' v t :=
  h.below (hw.below w.heap.size) (Nat.le_refl _)
theorem SlT.slice {S : Nat → Prop} {w : World} {v : Value} {t : List Tri} (h : SlT S w v t) : ∃ a c, v = .slice a t.length c := by
  obtain ⟨a, b, off, cap, rfl, hl, ha, hc⟩ := h; exact ⟨a, cap, rfl⟩
set_option maxHeartbeats 1000000 in
theorem szPruneS_any {S : Nat → Prop} (v : Value) (t : List Tri) (left : Int) (w : World) (hv : SlT S w v t) (h0 : 0 ≤ left) (h1 : left ≤ 1048576) :
    Calls Try.prog 8 #[v, .int .i64 left] w (SzPost ((t.length : Int) ≤ left) left w) := by
  obtain ⟨a, b, off, cap, rfl, hl, ha, hc0⟩ := hv
  by_cases h : left - t.length < 0
  · go_enter Try.func8, Try.ntmps8
    go_wp2
    go_ret
    exact ⟨-1, rfl, by omega, by omega, fun h => by omega, Below.refl _ _⟩
  · go_enter Try.func8, Try.ntmps8
    go_wp2
    go_ret
    exact ⟨left - t.length, rfl, by omega, by omega, fun _ => by omega, Below.refl _ _⟩
set_option maxHeartbeats 1000000 in
theorem eqPrune_any (p q : Tri) (w : World) :
    Calls Try.prog 18 #[triV p, triV q] w fun e w' => e = .returned (.bool (decide (p = q))) ∧ Below w.heap.size w w' := by
  have hb : Below w.heap.size w ((w.alloc (.cells #[.int .i64 p.a, .int .i64 p.b, .int .i64 p.c] 38)).alloc (.cells #[.int .i64 q.a, .int .i64 q.b, .int .i64 q.c] 38)) := (((Below.refl _ _).alloc (Nat.le_refl _) _).alloc (by simp) _)
  obtain ⟨k, x, l⟩ := p
  obtain ⟨k', x', l'⟩ := q
  unfold triV
  simp only at hb ⊢
  by_cases h1 : k = k'
  case neg =>
    have h1b : (k != k') = true := by rw [bne_iff_ne]; exact h1
    have H1 := Lib.hid h1; clear h1
    go_enter Try.func18, Try.ntmps18
    go_wp2
    go_ret
    exact ⟨ret_bool (by simp [H1.out]), hb⟩
  have h1b : (k != k') = false := by simp [h1]
  have H1 := Lib.hid h1; clear h1
  by_cases h2 : x = x'
  case neg =>
    have h2b : (x != x') = true := by rw [bne_iff_ne]; exact h2
    have H2 := Lib.hid h2; clear h2
    go_enter Try.func18, Try.ntmps18
    go_wp2
    go_ret
    exact ⟨ret_bool (by simp [H2.out]), hb⟩
  have h2b : (x != x') = false := by simp [h2]
  have H2 := Lib.hid h2; clear h2
  by_cases h3 : l = l'
  case neg =>
    have h3b : (l != l') = true := by rw [bne_iff_ne]; exact h3
    have H3 := Lib.hid h3; clear h3
    go_enter Try.func18, Try.ntmps18
    go_wp2
    go_ret
    exact ⟨ret_bool (by simp [H3.out]), hb⟩
  have h3b : (l != l') = false := by simp [h3]
  have H3 := Lib.hid h3; clear h3
  go_enter Try.func18, Try.ntmps18
  go_wp2
  go_ret
  exact ⟨ret_bool (by simp [H1.out, H2.out, H3.out]), hb⟩
set_option maxHeartbeats 2000000 in
theorem eqPruneS_any {S S' : Nat → Prop} (v u : Value) (t t' : List Tri) (w : World) (hv : SlT S w v t) (hu : SlT S' w u t') :
    Calls Try.prog 14 #[v, u] w fun e w' => e = .returned (.bool (decide (t = t'))) ∧ Below w.heap.size w w' := by
  obtain ⟨a, b, off, cap, rfl, hl, ha, hc0⟩ := hv
  obtain ⟨a', b', off', cap', rfl, hl', ha', hc0'⟩ := hu
  by_cases hne : t.length = t'.length
  · have hn0 : ((t.length : Int) != t'.length) = false := by simp [hne]
    have HN := Lib.hid hne; clear hne
    go_enter Try.func14, Try.ntmps14
    go_wp2
    go_loopw [5] (fun i wr => ∃ k : Nat, k ≤ t.length ∧ i = .int .i64 k ∧ t.take k = t'.take k ∧ Below w.heap.size w wr) (fun i _ => t.length - (intOf i).toNat)
    case atStart => exact ⟨0, Nat.zero_le _, rfl, rfl, Below.refl _ _⟩
    case round =>
      obtain ⟨k, hk, rfl, he, hq⟩ := hrel
      have HE := Lib.hid he; clear he
      have hB := hq.size
      have hc := hc0.below hq (Nat.le_refl _)
      have hc' := hc0'.below hq (Nat.le_refl _)
      by_cases hlt : k < t.length
      · have hlt' : k < t'.length := by have := HN.out; omega
        obtain ⟨c1, c2, c3⟩ := hc k hlt
        obtain ⟨c4, c5, c6⟩ := hc' k hlt'
        obtain ⟨rfl, hS⟩ := ha (by omega)
        obtain ⟨rfl, hS'⟩ := ha' (by omega)
        by_cases heq : t[k] = t'[k]
        · have hb : decide (t[k] = t'[k]) = true := by simp [heq]
          have HQ := Lib.hid heq; clear heq
          have hca := fun W => eqPrune_any t[k] t'[k] W
          rw [hb] at hca
          unfold triV at hca
          go_wp2
          refine wp_region_held_drew (S := (fun w' => w'.cell? ⟨b, off + k * 3, none⟩ = some (.int .i64 t[k].a) ∧ w'.cell? ⟨b, off + k * 3 + 1, none⟩ = some (.int .i64 t[k].b) ∧ w'.cell? ⟨b, off + k * 3 + 2, none⟩ = some (.int .i64 t[k].c) ∧ w'.cell? ⟨b', off' + k * 3, none⟩ = some (.int .i64 t'[k].a) ∧ w'.cell? ⟨b', off' + k * 3 + 1, none⟩ = some (.int .i64 t'[k].b) ∧ w'.cell? ⟨b', off' + k * 3 + 2, none⟩ = some (.int .i64 t'[k].c))) (by kernel_rfl) ?_ (fun hHeld => ?_)
          · first | exact ⟨‹_›, ‹_›, ‹_›, ‹_›, ‹_›, ‹_›⟩ | assumption | (simp [*, go_sem])
          refine wpAnyH_take (i := 0) (v := ?v1) (by simp only [List.getElem?_toArray, List.getElem?_cons_zero]; exact rfl) (by kernel_rfl) (by kernel_rfl) (by kernel_rfl) (by intro _ _ _ h; exact h) (Or.inl ⟨by rfl, ?y1⟩) hHeld ?_
          case y1 => (intro w hSw; (try dsimp only at hSw); go_simp; try (with_reducible rfl))
          try simp only [Act.put, List.setIfInBounds_toArray, List.set_cons_zero, List.set_cons_succ]
          refine wpAnyH_take (i := 1) (v := ?v2) (by simp only [List.getElem?_toArray, List.getElem?_cons_succ, List.getElem?_cons_zero]; exact rfl) (by kernel_rfl) (by kernel_rfl) (by kernel_rfl) (by intro _ _ _ h; exact h) (Or.inl ⟨by rfl, ?y2⟩) hHeld ?_
          case y2 => (intro w hSw; (try dsimp only at hSw); go_simp; try (with_reducible rfl))
          try simp only [Act.put, List.setIfInBounds_toArray, List.set_cons_zero, List.set_cons_succ]
          refine wpAnyH_take (i := 2) (v := ?v3) (by simp only [List.getElem?_toArray, List.getElem?_cons_succ, List.getElem?_cons_zero]; exact rfl) (by kernel_rfl) (by kernel_rfl) (by kernel_rfl) (by intro _ _ _ h; exact h) (Or.inl ⟨by rfl, ?y3⟩) hHeld ?_
          case y3 => (intro w hSw; (try dsimp only at hSw); go_simp; try (with_reducible rfl))
          try simp only [Act.put, List.setIfInBounds_toArray, List.set_cons_zero, List.set_cons_succ]
          refine wpAnyH_take (i := 3) (v := ?v4) (by simp only [List.getElem?_toArray, List.getElem?_cons_succ, List.getElem?_cons_zero]; exact rfl) (by kernel_rfl) (by kernel_rfl) (by kernel_rfl) (by intro _ _ _ h; exact h) (Or.inl ⟨by rfl, ?y4⟩) hHeld ?_
          case y4 => (intro w hSw; (try dsimp only at hSw); go_simp; try (with_reducible rfl))
          try simp only [Act.put, List.setIfInBounds_toArray, List.set_cons_zero, List.set_cons_succ]
          refine wpAnyH_take (i := 4) (v := ?v5) (by simp only [List.getElem?_toArray, List.getElem?_cons_succ, List.getElem?_cons_zero]; exact rfl) (by kernel_rfl) (by kernel_rfl) (by kernel_rfl) (by intro _ _ _ h; exact h) (Or.inl ⟨by rfl, ?y5⟩) hHeld ?_
          case y5 => (intro w hSw; (try dsimp only at hSw); go_simp; try (with_reducible rfl))
          try simp only [Act.put, List.setIfInBounds_toArray, List.set_cons_zero, List.set_cons_succ]
          refine wpAnyH_take (i := 5) (v := ?v6) (by simp only [List.getElem?_toArray, List.getElem?_cons_succ, List.getElem?_cons_zero]; exact rfl) (by kernel_rfl) (by kernel_rfl) (by kernel_rfl) (by intro _ _ _ h; exact h) (Or.inl ⟨by rfl, ?y6⟩) hHeld ?_
          case y6 => (intro w hSw; (try dsimp only at hSw); go_simp; try (with_reducible rfl))
          try simp only [Act.put, List.setIfInBounds_toArray, List.set_cons_zero, List.set_cons_succ]
          refine wpAnyH_take (i := 6) (v := ?v7) (by simp only [List.getElem?_toArray, List.getElem?_cons_succ, List.getElem?_cons_zero]; exact rfl) (by kernel_rfl) (by kernel_rfl) (by kernel_rfl) (by intro _ _ _ h; exact h) (Or.inl ⟨by rfl, ?y7⟩) hHeld ?_
          case y7 => (intro w hSw; (try dsimp only at hSw); go_simp; try (with_reducible rfl))
          try simp only [Act.put, List.setIfInBounds_toArray, List.set_cons_zero, List.set_cons_succ]
          refine wpAnyH_take (i := 7) (v := ?v8) (by simp only [List.getElem?_toArray, List.getElem?_cons_succ, List.getElem?_cons_zero]; exact rfl) (by kernel_rfl) (by kernel_rfl) (by kernel_rfl) (by intro _ _ _ h; exact h) (Or.inl ⟨by rfl, ?y8⟩) hHeld ?_
          case y8 => (intro w hSw; (try dsimp only at hSw); go_simp; try (with_reducible rfl))
          try simp only [Act.put, List.setIfInBounds_toArray, List.set_cons_zero, List.set_cons_succ]
          refine wpAnyH_ready (rs := [8]) (by kernel_rfl) (by simp) ?_
          refine AllReadyH.cons (by simp only [List.getElem?_toArray, List.getElem?_cons_succ, List.getElem?_cons_zero]; exact rfl) (fun K hK => ?_) AllReadyH.nil
          go_simp
          refine (hca _).mono ?_
          rintro e w1 ⟨rfl, hb1⟩
          have d1 := (hb1.cell (p := ⟨b, off + k * 3, none⟩) (cell_lt (w := wr.drew) c1)).trans c1
          have d2 := (hb1.cell (p := ⟨b, off + k * 3 + 1, none⟩) (cell_lt (w := wr.drew) c2)).trans c2
          have d3 := (hb1.cell (p := ⟨b, off + k * 3 + 2, none⟩) (cell_lt (w := wr.drew) c3)).trans c3
          have d4 := (hb1.cell (p := ⟨b', off' + k * 3, none⟩) (cell_lt (w := wr.drew) c4)).trans c4
          have d5 := (hb1.cell (p := ⟨b', off' + k * 3 + 1, none⟩) (cell_lt (w := wr.drew) c5)).trans c5
          have d6 := (hb1.cell (p := ⟨b', off' + k * 3 + 2, none⟩) (cell_lt (w := wr.drew) c6)).trans c6
          try dsimp only
          refine hK.out _ _ ?h10 (fun hHeld => ?_)
          case h10 => first | exact ⟨‹_›, ‹_›, ‹_›, ‹_›, ‹_›, ‹_›⟩ | assumption | (simp [*, go_sem])
          clear hK K
          try simp only [Act.put, List.setIfInBounds_toArray, List.set_cons_zero, List.set_cons_succ]
          refine wpAnyH_take (i := 9) (v := ?v11) (by simp only [List.getElem?_toArray, List.getElem?_cons_succ, List.getElem?_cons_zero]; exact rfl) (by kernel_rfl) (by kernel_rfl) (by kernel_rfl) (by intro _ _ _ h; exact h) (Or.inl ⟨by rfl, ?y11⟩) hHeld ?_
          case y11 => (intro w hSw; (try dsimp only at hSw); go_simp; try (with_reducible rfl))
          try simp only [Act.put, List.setIfInBounds_toArray, List.set_cons_zero, List.set_cons_succ]
          refine wpAnyH_done (by kernel_rfl) ?_ _
          go_wp2
          go_roundw
          case rel =>
            refine ⟨k + 1, by omega, by go_num, ?_, hq.trans ((((Drawn.refl wr).drew.below _).trans hb1).mono hB)⟩
            rw [List.take_succ_eq_append_getElem hlt, List.take_succ_eq_append_getElem hlt', HE.out, HQ.out]
          case measure => simp [intOf]; omega
        · have hb : decide (t[k] = t'[k]) = false := by simpa using heq
          have hca := fun W => eqPrune_any t[k] t'[k] W
          rw [hb] at hca
          unfold triV at hca
          go_wp2
          refine wp_region_held_drew (S := (fun w' => w'.cell? ⟨b, off + k * 3, none⟩ = some (.int .i64 t[k].a) ∧ w'.cell? ⟨b, off + k * 3 + 1, none⟩ = some (.int .i64 t[k].b) ∧ w'.cell? ⟨b, off + k * 3 + 2, none⟩ = some (.int .i64 t[k].c) ∧ w'.cell? ⟨b', off' + k * 3, none⟩ = some (.int .i64 t'[k].a) ∧ w'.cell? ⟨b', off' + k * 3 + 1, none⟩ = some (.int .i64 t'[k].b) ∧ w'.cell? ⟨b', off' + k * 3 + 2, none⟩ = some (.int .i64 t'[k].c))) (by kernel_rfl) ?_ (fun hHeld => ?_)
          · first | exact ⟨‹_›, ‹_›, ‹_›, ‹_›, ‹_›, ‹_›⟩ | assumption | (simp [*, go_sem])
          refine wpAnyH_take (i := 0) (v := ?v12) (by simp only [List.getElem?_toArray, List.getElem?_cons_zero]; exact rfl) (by kernel_rfl) (by kernel_rfl) (by kernel_rfl) (by intro _ _ _ h; exact h) (Or.inl ⟨by rfl, ?y12⟩) hHeld ?_
          case y12 => (intro w hSw; (try dsimp only at hSw); go_simp; try (with_reducible rfl))
          try simp only [Act.put, List.setIfInBounds_toArray, List.set_cons_zero, List.set_cons_succ]
          refine wpAnyH_take (i := 1) (v := ?v13) (by simp only [List.getElem?_toArray, List.getElem?_cons_succ, List.getElem?_cons_zero]; exact rfl) (by kernel_rfl) (by kernel_rfl) (by kernel_rfl) (by intro _ _ _ h; exact h) (Or.inl ⟨by rfl, ?y13⟩) hHeld ?_
          case y13 => (intro w hSw; (try dsimp only at hSw); go_simp; try (with_reducible rfl))
          try simp only [Act.put, List.setIfInBounds_toArray, List.set_cons_zero, List.set_cons_succ]
          refine wpAnyH_take (i := 2) (v := ?v14) (by simp only [List.getElem?_toArray, List.getElem?_cons_succ, List.getElem?_cons_zero]; exact rfl) (by kernel_rfl) (by kernel_rfl) (by kernel_rfl) (by intro _ _ _ h; exact h) (Or.inl ⟨by rfl, ?y14⟩) hHeld ?_
          case y14 => (intro w hSw; (try dsimp only at hSw); go_simp; try (with_reducible rfl))
          try simp only [Act.put, List.setIfInBounds_toArray, List.set_cons_zero, List.set_cons_succ]
          refine wpAnyH_take (i := 3) (v := ?v15) (by simp only [List.getElem?_toArray, List.getElem?_cons_succ, List.getElem?_cons_zero]; exact rfl) (by kernel_rfl) (by kernel_rfl) (by kernel_rfl) (by intro _ _ _ h; exact h) (Or.inl ⟨by rfl, ?y15⟩) hHeld ?_
          case y15 => (intro w hSw; (try dsimp only at hSw); go_simp; try (with_reducible rfl))
          try simp only [Act.put, List.setIfInBounds_toArray, List.set_cons_zero, List.set_cons_succ]
          refine wpAnyH_take (i := 4) (v := ?v16) (by simp only [List.getElem?_toArray, List.getElem?_cons_succ, List.getElem?_cons_zero]; exact rfl) (by kernel_rfl) (by kernel_rfl) (by kernel_rfl) (by intro _ _ _ h; exact h) (Or.inl ⟨by rfl, ?y16⟩) hHeld ?_
          case y16 => (intro w hSw; (try dsimp only at hSw); go_simp; try (with_reducible rfl))
          try simp only [Act.put, List.setIfInBounds_toArray, List.set_cons_zero, List.set_cons_succ]
          refine wpAnyH_take (i := 5) (v := ?v17) (by simp only [List.getElem?_toArray, List.getElem?_cons_succ, List.getElem?_cons_zero]; exact rfl) (by kernel_rfl) (by kernel_rfl) (by kernel_rfl) (by intro _ _ _ h; exact h) (Or.inl ⟨by rfl, ?y17⟩) hHeld ?_
          case y17 => (intro w hSw; (try dsimp only at hSw); go_simp; try (with_reducible rfl))
          try simp only [Act.put, List.setIfInBounds_toArray, List.set_cons_zero, List.set_cons_succ]
          refine wpAnyH_take (i := 6) (v := ?v18) (by simp only [List.getElem?_toArray, List.getElem?_cons_succ, List.getElem?_cons_zero]; exact rfl) (by kernel_rfl) (by kernel_rfl) (by kernel_rfl) (by intro _ _ _ h; exact h) (Or.inl ⟨by rfl, ?y18⟩) hHeld ?_
          case y18 => (intro w hSw; (try dsimp only at hSw); go_simp; try (with_reducible rfl))
          try simp only [Act.put, List.setIfInBounds_toArray, List.set_cons_zero, List.set_cons_succ]
          refine wpAnyH_take (i := 7) (v := ?v19) (by simp only [List.getElem?_toArray, List.getElem?_cons_succ, List.getElem?_cons_zero]; exact rfl) (by kernel_rfl) (by kernel_rfl) (by kernel_rfl) (by intro _ _ _ h; exact h) (Or.inl ⟨by rfl, ?y19⟩) hHeld ?_
          case y19 => (intro w hSw; (try dsimp only at hSw); go_simp; try (with_reducible rfl))
          try simp only [Act.put, List.setIfInBounds_toArray, List.set_cons_zero, List.set_cons_succ]
          refine wpAnyH_ready (rs := [8]) (by kernel_rfl) (by simp) ?_
          refine AllReadyH.cons (by simp only [List.getElem?_toArray, List.getElem?_cons_succ, List.getElem?_cons_zero]; exact rfl) (fun K hK => ?_) AllReadyH.nil
          go_simp
          refine (hca _).mono ?_
          rintro e w1 ⟨rfl, hb1⟩
          have d1 := (hb1.cell (p := ⟨b, off + k * 3, none⟩) (cell_lt (w := wr.drew) c1)).trans c1
          have d2 := (hb1.cell (p := ⟨b, off + k * 3 + 1, none⟩) (cell_lt (w := wr.drew) c2)).trans c2
          have d3 := (hb1.cell (p := ⟨b, off + k * 3 + 2, none⟩) (cell_lt (w := wr.drew) c3)).trans c3
          have d4 := (hb1.cell (p := ⟨b', off' + k * 3, none⟩) (cell_lt (w := wr.drew) c4)).trans c4
          have d5 := (hb1.cell (p := ⟨b', off' + k * 3 + 1, none⟩) (cell_lt (w := wr.drew) c5)).trans c5
          have d6 := (hb1.cell (p := ⟨b', off' + k * 3 + 2, none⟩) (cell_lt (w := wr.drew) c6)).trans c6
          try dsimp only
          refine hK.out _ _ ?h21 (fun hHeld => ?_)
          case h21 => first | exact ⟨‹_›, ‹_›, ‹_›, ‹_›, ‹_›, ‹_›⟩ | assumption | (simp [*, go_sem])
          clear hK K
          try simp only [Act.put, List.setIfInBounds_toArray, List.set_cons_zero, List.set_cons_succ]
          refine wpAnyH_take (i := 9) (v := ?v22) (by simp only [List.getElem?_toArray, List.getElem?_cons_succ, List.getElem?_cons_zero]; exact rfl) (by kernel_rfl) (by kernel_rfl) (by kernel_rfl) (by intro _ _ _ h; exact h) (Or.inl ⟨by rfl, ?y22⟩) hHeld ?_
          case y22 => (intro w hSw; (try dsimp only at hSw); go_simp; try (with_reducible rfl))
          try simp only [Act.put, List.setIfInBounds_toArray, List.set_cons_zero, List.set_cons_succ]
          refine wpAnyH_done (by kernel_rfl) ?_ _
          go_wp2
          go_ret
          exact ⟨ret_bool (by have : ¬ t = t' := fun h => heq (by subst h; rfl)
                              simp [this]), hq.trans ((((Drawn.refl wr).drew.below _).trans hb1).mono hB)⟩
      · go_wp2
        go_ret
        refine ⟨ret_bool ?_, hq⟩
        have h1 := HE.out
        rw [List.take_of_length_le (by omega), List.take_of_length_le (by have := HN.out; omega)] at h1
        simp [h1]
  · have hn0 : ((t.length : Int) != t'.length) = true := by rw [bne_iff_ne]; omega
    go_enter Try.func14, Try.ntmps14
    go_wp2
    go_ret
    exact ⟨ret_bool (by have : ¬ t = t' := fun h => hne (by subst h; rfl)
                        simp [this]), Below.refl _ _⟩
set_option maxHeartbeats 1000000 in
theorem toPrune_any (p : Tri) (w : World) :
    Calls Try.prog 35 #[triV p] w fun e w' => e = .returned (triV p) ∧ Below w.heap.size w w' := by
  obtain ⟨k, x, l⟩ := p
  have hb : Below w.heap.size w (((w.alloc (.cells #[.int .i64 k, .int .i64 x, .int .i64 l] 64)).alloc (.cells #[.int .i64 k, .int .i64 x, .int .i64 l] 38)).alloc (.cells #[.int .i64 k, .int .i64 x, .int .i64 l] 38)) :=
    (((Below.refl _ _).alloc (Nat.le_refl _) _).alloc (by simp) _).alloc (by simp; omega) _
  unfold triV
  go_enter Try.func35, Try.ntmps35
  go_wp2
  refine bodyPost_ret (v := .agg #[.int .i64 k, .int .i64 x, .int .i64 l]) (by simp [results, Try.results35, go_sem]) rfl ⟨rfl, ?_⟩
  first
  | exact hb
  | (refine (((hb.setCell ?_ _).setCell ?_ _).setCell ?_ _) <;> simp)
def zPrune : Value := .agg #[.int .i64 0, .int .i64 0, .int .i64 0]
theorem elPrunes : Elem Try.prog 31 38 3 24 zPrune := ⟨Try.underlying31, by kernel_rfl, rfl, by omega, by omega⟩
theorem make_Prunes (n : Nat) (hn : n ≤ 1048576) (w : World) : (Instr.makeSlice 31 (.int .i64 (n : Int)) (.int .i64 (n : Int))).run Try.prog w = .ok (.slice (some ⟨w.heap.size, 0, none⟩) n n) (w.alloc (.cells (madeCells zPrune.cells (n * 3)) 38)) := by
  obtain ⟨i, hi, hzz⟩ := Option.map_eq_some_iff.1 elPrunes.hi
  simp only [Prod.mk.injEq] at hzz
  obtain ⟨hz, hs, hb⟩ := hzz
  have := run_make (P := Try.prog) (w := w) 31 38 i zPrune elPrunes.ht hi hz .i64 .i64 n n (by omega) (Int.le_refl _) (by rw [hb]; omega) (by omega)
  simpa [hs] using this
set_option maxHeartbeats 1000000 in
theorem toPruneS_any {S : Nat → Prop} (v : Value) (t : List Tri) (w : World) (hv : SlT S w v t) (hx : t.length ≤ 1048576) :
    Calls Try.prog 11 #[v] w fun e w' => ∃ u, e = .returned u ∧ SlT (fun b => w.heap.size ≤ b) w' u t ∧ Below w.heap.size w w' := by
  obtain ⟨a, b, off, cap, rfl, hl, ha, hc0⟩ := hv
  have hmk := make_Prunes t.length hx
  go_enter Try.func11, Try.ntmps11
  go_wp2
  go_loopw [4] (fun i wr => ∃ (k : Nat) (xs : List Value), k ≤ t.length ∧ i = .int .i64 k ∧ Below w.heap.size w wr ∧
      Own wr w.heap.size 38 3 (.slice (some ⟨w.heap.size, 0, none⟩) t.length t.length) t.length xs ∧
      (∀ i (h : i < t.length), i < k → xs[i * 3]? = some (.int .i64 t[i].a) ∧ xs[i * 3 + 1]? = some (.int .i64 t[i].b) ∧ xs[i * 3 + 2]? = some (.int .i64 t[i].c))) (fun i _ => t.length - (intOf i).toNat)
  case atStart =>
    refine ⟨0, _, Nat.zero_le _, rfl, (Below.refl _ _).alloc (Nat.le_refl _) _, World.ownsRow_lit (base := w.heap.size) (e := 38) (size := 3) w _ t.length (Nat.le_refl _) (by unfold maxLen; omega) (by simp [madeCells]), fun i _ h => by omega⟩
  case round =>
    clear hmk
    obtain ⟨k, xs, hk, rfl, hq, hown, hcs⟩ := hrel
    have hc := hc0.below hq (Nat.le_refl _)
    by_cases hlt : k < t.length
    · obtain ⟨c1, c2, c3⟩ := hc k hlt
      obtain ⟨rfl, hS⟩ := ha (by omega)
      have hwl := (hown.lt _ rfl).2
      have HCS := Lib.hid hcs; clear hcs
      go_wp2_with fail
      have hto := toPrune_any t[k] wr
      unfold triV at hto
      refine hto.mono ?_
      rintro e w' ⟨rfl, hq'⟩
      have hown' := hown.below hq' (Nat.le_refl _)
      have hxl : xs.length = t.length * 3 := hown.1
      have z0 := World.ownsRow.frozenAt hown' (k * 3)
      have z1 := World.ownsRow.frozenAt hown' (k * 3 + 1)
      have z2 := World.ownsRow.frozenAt hown' (k * 3 + 2)
      obtain ⟨u0, e0⟩ : ∃ u, w'.cell? ⟨w.heap.size, k * 3, none⟩ = some u := ⟨_, (World.ownsRow.cellAt hown' (k * 3) (by omega)).trans (List.getElem?_eq_getElem (by omega))⟩
      obtain ⟨u1, e1⟩ : ∃ u, w'.cell? ⟨w.heap.size, k * 3 + 1, none⟩ = some u := ⟨_, (World.ownsRow.cellAt hown' (k * 3 + 1) (by omega)).trans (List.getElem?_eq_getElem (by omega))⟩
      obtain ⟨u2, e2⟩ : ∃ u, w'.cell? ⟨w.heap.size, k * 3 + 2, none⟩ = some u := ⟨_, (World.ownsRow.cellAt hown' (k * 3 + 2) (by omega)).trans (List.getElem?_eq_getElem (by omega))⟩
      go_wp2
      go_roundw
      case rel =>
        refine ⟨k + 1, _, by omega, by go_num, (((hq.trans (hq'.mono hq.size)).setCell (by simp) _).setCell (by simp) _).setCell (by simp) _, ((hown'.stored _ _).stored _ _).stored _ _, fun i hi hik => ?_⟩
        by_cases e : i = k
        · subst e
          refine ⟨?_, ?_, ?_⟩
          · simp [List.getElem?_set, hxl]; omega
          · simp [List.getElem?_set, hxl]; omega
          · simp [List.getElem?_set, hxl]; omega
        · obtain ⟨g1, g2, g3⟩ := HCS.out i hi (by omega)
          refine ⟨?_, ?_, ?_⟩
          · rw [List.getElem?_set_ne (by omega), List.getElem?_set_ne (by omega), List.getElem?_set_ne (by omega)]; exact g1
          · rw [List.getElem?_set_ne (by omega), List.getElem?_set_ne (by omega), List.getElem?_set_ne (by omega)]; exact g2
          · rw [List.getElem?_set_ne (by omega), List.getElem?_set_ne (by omega), List.getElem?_set_ne (by omega)]; exact g3
      case measure => simp [intOf]; omega
    · go_wp2
      go_ret
      obtain rfl : k = t.length := by omega
      refine ⟨_, rfl, ⟨some ⟨w.heap.size, 0, none⟩, w.heap.size, 0, t.length, rfl, by omega, fun _ => ⟨rfl, Nat.le_refl _⟩, fun i hi => ?_⟩, hq⟩
      obtain ⟨g1, g2, g3⟩ := hcs i hi hi
      have hcell := fun j => World.ownsRow.cellAt hown j
      have hxl : xs.length = t.length * 3 := hown.1
      refine ⟨?_, ?_, ?_⟩
      · rw [Nat.zero_add, hcell _ (by omega)]; exact g1
      · rw [Nat.zero_add, hcell _ (by omega)]; exact g2
      · rw [Nat.zero_add, hcell _ (by omega)]; exact g3
theorem cellsLPrune : Try.prog.cellsOf 64 = 3 := by kernel_rfl
instance : Inhabited Tri := ⟨⟨0, 0, 0⟩⟩
theorem cellsI64t : Try.prog.cellsOf 2 = 1 := by kernel_rfl
set_option maxRecDepth 100000 in
theorem read_tris0 {H : Type} {enc : TypeId × Value → H} {W : World} {fuel : Nat} {cs : List Value} {x : DataW H × List MemPlace}
    (h : DataW.trod enc Try.prog W 0 (fun _ => true) true fuel 25 cs = some x) : ∃ v t, cs = [v] ∧ SlT (fun _ => True) W v t := by
  rcases open_slice Try.underlying25 h with ⟨hcs, _⟩ | ⟨a, len, cap, m, n, D, Pl, hcs, hb, hl, hm, hmm, hx, hrow⟩
  · exact ⟨_, [], hcs, none, 0, 0, 0, rfl, by simp, fun h => by simp at h, fun i hi => by simp at hi⟩
  simp only [if_true] at hmm
  have hm' : cap ≤ 9223372036854775807 := by unfold maxLen at hm; omega
  have each : ∀ i, i < len → ∃ q : Tri, W.cell? (a.add (i * 3)) = some (.int .i64 q.a) ∧ W.cell? (a.add (i * 3 + 1)) = some (.int .i64 q.b) ∧ W.cell? (a.add (i * 3 + 2)) = some (.int .i64 q.c) := by
    intro i hi
    obtain ⟨cs', h1, h2⟩ := hrow i (by omega)
    rw [cellsLPrune] at h1
    obtain ⟨_, hlen, hcell⟩ := World.cells?_some h1
    obtain ⟨y0, y1, y2, n', _, _, g0, g1, g2⟩ := trod_struct3 Try.underlying64 h2
    match cs', hlen with
    | [v0, v1, v2], _ =>
      simp only [List.drop_zero, List.drop_succ_cons, cellsI64t, List.take_succ_cons, List.take_zero] at g0 g1 g2
      obtain ⟨k0, e0, _, _⟩ := DataW.trod_int Try.underlying2 g0
      obtain ⟨k1, e1, _, _⟩ := DataW.trod_int Try.underlying2 g1
      obtain ⟨k2, e2, _, _⟩ := DataW.trod_int Try.underlying2 g2
      simp only [List.cons.injEq, and_true] at e0 e1 e2
      subst e0 e1 e2
      have d0 := hcell 0 (by omega)
      have d1 := hcell 1 (by omega)
      have d2 := hcell 2 (by omega)
      rw [add_add] at d0 d1 d2
      exact ⟨⟨k0, k1, k2⟩, by simpa using d0, by simpa using d1, by simpa using d2⟩
  obtain ⟨q, hq⟩ := choose_lt each
  refine ⟨_, (List.range len).map q, hcs, ?_⟩
  by_cases h0 : len = 0
  · subst h0
    exact ⟨some a, 0, 0, cap, rfl, by simp; omega, fun h => by simp at h, fun i hi => by simp at hi⟩
  · have hc0 := (hq 0 (by omega)).1
    obtain ⟨b, off, spot⟩ := a
    have hspot : spot = none := by simpa [Addr.add] using World.cell?_spot hc0
    subst hspot
    refine ⟨some ⟨b, off, none⟩, b, off, cap, by simp, by rw [List.length_map, List.length_range]; omega, fun _ => ⟨rfl, trivial⟩, fun i hi => ?_⟩
    have hi' : i < len := by simpa using hi
    obtain ⟨h1, h2, h3⟩ := hq i hi'
    rw [add_plain] at h1 h2 h3
    simp only [List.getElem_map, List.getElem_range]
    exact ⟨h1, by rw [Nat.add_assoc]; exact h2, by rw [Nat.add_assoc]; exact h3⟩
set_option maxRecDepth 100000 in
theorem read_tris {H : Type} {enc : TypeId × Value → H} {W : World} {base : Nat} {v : Value} {d : DataW H} {p : List MemPlace} (hok : Value.okWide Try.prog W .any base 25 v)
    (h : DataW.Trod enc Try.prog W 0 (fun _ => true) true 25 v d p) : ∃ t, SlT (fun _ => True) W v t := by
  obtain ⟨a0, len, cap, rfl⟩ := okWide_slice Try.underlying25 hok
  obtain ⟨fuel, hf⟩ := h
  obtain ⟨v, t, hcs, ht⟩ := read_tris0 hf
  have : Value.slice a0 len cap = v := by simpa [Value.cells] using hcs
  subst this
  exact ⟨t, ht⟩
end Go.Proofs.Ytfccpencgengaaa
