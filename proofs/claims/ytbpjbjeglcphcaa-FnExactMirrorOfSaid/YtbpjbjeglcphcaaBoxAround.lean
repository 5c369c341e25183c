/- The laws' helpers for Around: made from the Graph's. -/
import Derived.Test.YtbpjbjeglcphcaaMark3
namespace Go.Proofs.Ytbpjbjeglcphcaa
open Go.RowKit
theorem szAround_any {S : Nat → Prop} (v : Value) (g : List (List Int)) (left : Int) (w : World) (hv : SlR S w v g) (h0 : 0 ≤ left) (h1 : left ≤ 1048576) :
    Calls Try.prog 8 #[.agg #[v], .int .i64 left] w (SzPost (SmallR g left) left w) := by
  have hb : Below w.heap.size w (w.alloc (.cells #[v] 26)) := (Below.refl _ _).alloc (Nat.le_refl _) _
  go_enter Try.func8, Try.ntmps8
  go_wp2_with (go_at_call 29; refine (szInt64SS_any _ _ _ _ (hv.below hb (Nat.le_refl _)) (by omega) (by omega)).mono ?_; rintro e w' ⟨r', rfl, hr2, hr3, hsm, hq'⟩)
  · go_ret
    exact ⟨-1, rfl, by omega, by omega, fun h => by omega, hb.trans (hq'.mono hb.size)⟩
  · go_ret
    exact ⟨r', rfl, by omega, by omega, hsm, hb.trans (hq'.mono hb.size)⟩
theorem toAround_any {S : Nat → Prop} (v : Value) (g : List (List Int)) (w : World) (hv : SlR S w v g) (hx : SmallR g 1048576) :
    Calls Try.prog 11 #[.agg #[v]] w fun e w' => ∃ u, e = .returned (.agg #[u]) ∧ SlR (fun b => w.heap.size ≤ b) w' u g ∧ Below w.heap.size w w' := by
  have hb : Below w.heap.size w (((w.alloc (.cells #[v] 26)).alloc (.cells #[.slice none 0 0] 32)).alloc (.cells #[.slice none 0 0] 32)) :=
    (((Below.refl _ _).alloc (Nat.le_refl _) _).alloc (by simp) _).alloc (by simp; omega) _
  obtain ⟨va, vc, rfl⟩ := hv.slice
  go_enter Try.func11, Try.ntmps11
  go_wp2_with fail
  refine (toInt64SS_any _ _ _ (hv.below hb (Nat.le_refl _)) hx).mono ?_
  rintro e w' ⟨u, rfl, hu, hq'⟩
  obtain ⟨ua, uc, rfl⟩ := hu.slice
  have c1 : w'.cell? ⟨w.heap.size + 1, 0, none⟩ = some (.slice none 0 0) := (hq'.cell (p := ⟨w.heap.size + 1, 0, none⟩) (by simp)).trans (by simp [go_sem])
  have c2 : w'.cell? ⟨w.heap.size + 2, 0, none⟩ = some (.slice none 0 0) := (hq'.cell (p := ⟨w.heap.size + 2, 0, none⟩) (by simp)).trans (by simp [go_sem])
  have f1 : w'.frozen? ⟨w.heap.size + 1, 0, none⟩ = false := (hq'.frozen (p := ⟨w.heap.size + 1, 0, none⟩) (by simp)).trans (by simp [go_sem])
  have f2 : w'.frozen? ⟨w.heap.size + 2, 0, none⟩ = false := (hq'.frozen (p := ⟨w.heap.size + 2, 0, none⟩) (by simp)).trans (by simp [go_sem])
  go_wp2
  have hs := hq'.size
  simp at hs
  refine bodyPost_ret (v := .agg #[.slice ua g.length uc]) (by simp [results, Try.results11, go_sem, c1]) rfl ⟨_, rfl, ?_, ?_⟩
  · have hu1 : SlR (fun b => w.heap.size + 3 ≤ b) w' (.slice ua g.length uc) g := hu.weak (fun b h => by simp at h; omega)
    have hu2 := hu1.keep (w' := (w'.setCell ⟨w.heap.size + 2, 0, none⟩ (.slice ua g.length uc)).setCell ⟨w.heap.size + 1, 0, none⟩ (.slice ua g.length uc))
      (fun b h => (Below.heap_setCell _ _ _ _ (by simp; omega)).trans (Below.heap_setCell _ _ _ _ (by simp; omega)))
    exact hu2.weak (fun b h => by omega)
  · exact ((hb.trans (hq'.mono hb.size)).setCell (by simp; omega) _).setCell (by simp) _
theorem eqAround_any {S S' : Nat → Prop} (v u : Value) (xs ys : List (List Int)) (w : World) (hv : SlR S w v xs) (hu : SlR S' w u ys) :
    Calls Try.prog 14 #[.agg #[v], .agg #[u]] w fun e w' => e = .returned (.bool (decide (xs = ys))) ∧ Below w.heap.size w w' := by
  have hb : Below w.heap.size w ((w.alloc (.cells #[v] 32)).alloc (.cells #[u] 32)) := (((Below.refl _ _).alloc (Nat.le_refl _) _).alloc (by simp) _)
  by_cases heq : xs = ys
  · have hb1 : decide (xs = ys) = true := by simp [heq]
    have HQ := Lib.hid heq; clear heq
    go_enter Try.func14, Try.ntmps14
    go_wp2_with (go_at_call 21; refine (eqInt64SS_any _ _ _ _ _ (hv.below hb (Nat.le_refl _)) (hu.below hb (Nat.le_refl _))).mono ?_; rintro e w' ⟨rfl, m, rfl⟩)
    go_ret
    exact ⟨ret_bool hb1.symm, hb.trans (((Drawn.refl _).drewN _).below _)⟩
  · have hb1 : decide (xs = ys) = false := by simpa using heq
    go_enter Try.func14, Try.ntmps14
    go_wp2_with (go_at_call 21; refine (eqInt64SS_any _ _ _ _ _ (hv.below hb (Nat.le_refl _)) (hu.below hb (Nat.le_refl _))).mono ?_; rintro e w' ⟨rfl, m, rfl⟩)
    go_ret
    exact ⟨ret_bool hb1.symm, hb.trans (((Drawn.refl _).drewN _).below _)⟩
theorem toAroundR_any {S : Nat → Prop} {v : Value} {g : List (List Int)} {w : World} (hv : SlR S w v g) (hx : SmallR g 1048576) :
    Calls Try.prog 11 #[.agg #[v]] w fun e w' => ∃ u, e = .returned (.agg #[u]) ∧ OwnR w' w.heap.size w'.heap.size 37 2 u g ∧ Below w.heap.size w w' := by
  have hb : Below w.heap.size w (((w.alloc (.cells #[v] 26)).alloc (.cells #[.slice none 0 0] 32)).alloc (.cells #[.slice none 0 0] 32)) :=
    (((Below.refl _ _).alloc (Nat.le_refl _) _).alloc (by simp) _).alloc (by simp; omega) _
  obtain ⟨va, vc, rfl⟩ := hv.slice
  go_enter Try.func11, Try.ntmps11
  go_wp2_with fail
  refine (toRows_any (hv.below hb (Nat.le_refl _)) hx).mono ?_
  rintro e w' ⟨u, rfl, hu, hq'⟩
  obtain ⟨vs, h1, h2, h3, hap, h4⟩ := hu
  obtain ⟨ua, uc, rfl⟩ := h2.isSlice
  have c1 : w'.cell? ⟨w.heap.size + 1, 0, none⟩ = some (.slice none 0 0) := (hq'.cell (p := ⟨w.heap.size + 1, 0, none⟩) (by simp)).trans (by simp [go_sem])
  have c2 : w'.cell? ⟨w.heap.size + 2, 0, none⟩ = some (.slice none 0 0) := (hq'.cell (p := ⟨w.heap.size + 2, 0, none⟩) (by simp)).trans (by simp [go_sem])
  have f1 : w'.frozen? ⟨w.heap.size + 1, 0, none⟩ = false := (hq'.frozen (p := ⟨w.heap.size + 1, 0, none⟩) (by simp)).trans (by simp [go_sem])
  have f2 : w'.frozen? ⟨w.heap.size + 2, 0, none⟩ = false := (hq'.frozen (p := ⟨w.heap.size + 2, 0, none⟩) (by simp)).trans (by simp [go_sem])
  go_wp2
  have hs := hq'.size
  simp at hs
  refine bodyPost_ret (v := .agg #[.slice ua g.length uc]) (by simp [results, Try.results11, go_sem, c1]) rfl ⟨_, rfl, ?_, ?_⟩
  · have hset : ∀ b, w.heap.size + 3 ≤ b → ((w'.setCell ⟨w.heap.size + 2, 0, none⟩ (.slice ua g.length uc)).setCell ⟨w.heap.size + 1, 0, none⟩ (.slice ua g.length uc)).heap[b]? = w'.heap[b]? :=
      fun b h => (Below.heap_setCell _ _ _ _ (by simp; omega)).trans (Below.heap_setCell _ _ _ _ (by simp; omega))
    refine ⟨vs, h1, (h2.keep (fun b hb => hset b (by have := h2.ge b hb; simp at this; omega))).weak (by simp; omega), (fun b hb => by have := h3 b hb; simpa using this), hap, fun i hi hi2 => ⟨((h4 i hi hi2).1.keep (fun b hb => hset b (by have := (h4 i hi hi2).1.ge b hb; simp at this; omega))).weak (by simp; omega), fun b hb => ⟨by have := ((h4 i hi hi2).2 b hb).1; simpa using this, ((h4 i hi hi2).2 b hb).2⟩⟩⟩
  · exact ((hb.trans (hq'.mono hb.size)).setCell (by simp; omega) _).setCell (by simp) _
theorem eqAround_same {S S' : Nat → Prop} {v u : Value} {xs : List (List Int)} {w : World} (hv : SlR S w v xs) (hu : SlR S' w u xs) :
    Calls Try.prog 14 #[.agg #[v], .agg #[u]] w fun e w' => e = .returned (.bool true) ∧ Below w.heap.size w w' := by
  refine (eqAround_any _ _ _ _ _ hv hu).mono ?_
  rintro e w' ⟨rfl, hd⟩
  exact ⟨by rw [decide_eq_true rfl], hd⟩
theorem markAround_any {B C : Nat} {EO : TypeId} {u : Value} {g : List (List Int)} {k : Int} {w : World} (hu : OwnR w B C EO 2 u g) (hs : SmallR g 1048576) (hC : C ≤ w.heap.size) (hk0 : 0 ≤ k) (hk1 : k ≤ 100000000000000) :
    Calls Try.prog 23 #[.agg #[u], .int .i64 k] w fun e w' => ∃ k' : Int, e = .returned (.int .i64 k') ∧ 0 ≤ k' ∧ k' ≤ k + 1099511627776 ∧ Between B C w w' := by
  have hbl : Below w.heap.size w (w.alloc (.cells #[u] 32)) := (Below.refl _ _).alloc (Nat.le_refl _) _
  have hu1 := hu.below hbl (Nat.le_refl _)
  obtain ⟨ua, uc, rfl⟩ := hu.isSlice
  go_enter Try.func23, Try.ntmps23
  go_wp2_with fail
  refine (markRows_any hu1 hs hk0 hk1).mono ?_
  rintro e w' ⟨k', rfl, h1, h2, h3⟩
  have hs3 := h3.size
  have hC1 := hC
  simp at hs3
  go_wp2
  go_ret
  exact ⟨k', rfl, h1, h2, h3.os, h3.tape, h3.output, by omega, fun b hb hB => (h3.block b (by simp; omega) hB).trans (hbl.block b hb)⟩
end Go.Proofs.Ytbpjbjeglcphcaa
