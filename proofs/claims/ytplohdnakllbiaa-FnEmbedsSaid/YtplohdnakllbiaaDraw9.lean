/- The reference's drawn sets. -/
import Derived.Test.YtplohdnakllbiaaDraw
namespace Go.Proofs.Ytplohdnakllbiaa
open Go.RowKit
/-- Any list, drawn. -/
def AnyS (E : TypeId) (m d : Nat) (bs : List Int) (w : World) (e : Ending) (w' : World) : Prop :=
  ∃ u xs, e = .returned u ∧ Own w' w.heap.size E 1 u xs.length ((xs : List Int).map (.int .i64)) ∧ xs.length ≤ m ∧ Mv w w' d bs
set_option maxRecDepth 100000 in
set_option maxHeartbeats 8000000 in
theorem l1DrawSet_any {S : Nat → Prop} {d : Nat} {bs : List Int} {gv : Value} {g : List (List Int)} {w : World} (hd : Cur w d bs) (hl : bs.length ≤ 4096) (hvg : SlR S w gv g) (hg : g.length ≤ 17) :
    Calls Try.prog 76 #[.pointer (some ⟨d, 0, none⟩), .agg #[gv]] w (AnyS 2 18 d bs w) := by
  have hdl := hd.lt
  obtain ⟨ga, gc, rfl⟩ := hvg.slice
  have hb0 : Below w.heap.size w ((w.alloc (.cells #[.slice ga g.length gc] 31)).alloc (.cells #[] 2)) := ((Below.refl _ _).alloc (Nat.le_refl _) _).alloc (by simp) _
  have hm0 := Mv.start hd hb0 (Nat.le_refl _)
  have hx0 := (own_new w w.heap.size 31 (.slice ga g.length gc) (Nat.le_refl _)).alloc (.cells #[] 2)
  have ho0 : Own ((w.alloc (.cells #[.slice ga g.length gc] 31)).alloc (.cells #[] 2)) w.heap.size 2 1 (.slice (some ⟨w.heap.size + 1, 0, none⟩) 0 0) 0 [] := by
    have := World.ownsRow_lit (base := w.heap.size) (e := 2) (size := 1) (w.alloc (.cells #[.slice ga g.length gc] 31)) #[] 0 (by simp) (by unfold maxLen; omega) rfl
    simpa [Own] using this
  clear hb0
  go_enter Try.func76, Try.ntmps76
  go_wp2
  go_loopw [5, 6] (fun o iv wr => ∃ (k : Nat) (xs : List Int), k ≤ g.length ∧ iv = .int .i64 k ∧ Own wr w.heap.size 2 1 o xs.length (xs.map (.int .i64)) ∧ xs.length ≤ k ∧ Mv w wr d bs ∧ Own wr w.heap.size 31 1 (.slice (some ⟨w.heap.size, 0, none⟩) 1 1) 1 [.slice ga g.length gc]) (fun _ iv _ => g.length - (intOf iv).toNat)
  case atStart => exact ⟨0, [], Nat.zero_le _, rfl, ho0, by simp, hm0, hx0⟩
  case round =>
    clear ho0 hm0 hx0
    obtain ⟨k, xs, hk, rfl, ho, hxk, hm, hx⟩ := hrel
    obtain ⟨wi, rfl⟩ : ∃ wx : World, wx = wr := ⟨_, rfl⟩
    obtain ⟨x1, x2, -, -⟩ := own_cell hx
    have hms := hm.size
    by_cases hlt : k < g.length
    case neg =>
      go_wp2_with fail
      refine (l1Once_any (n := 15) hm.1 hl (by omega)).mono ?_
      rintro e w5 ⟨b, rfl, hm5⟩
      have ho5 := ho.kept hm5.2 (fun q hq e => by have := ho.ge q hq; simp at e; omega)
      have hx5 := own1_kept hx hm5.2 (by simp; omega)
      have hm6 := hm.trans hm5
      have hms6 := hm6.size
      obtain ⟨y1, y2, -, -⟩ := own_cell hx5
      clear ho hx hm hm5 x1 x2
      cases b with
      | false =>
        go_wp2
        go_ret
        exact ⟨_, xs, rfl, ho5, by omega, hm6⟩
      | true =>
        go_wp2_with fail
        refine (l1Num_any (most := g.length) hm6.1 hl (by omega)).mono ?_
        rintro e w7 ⟨y, rfl, hm7⟩
        have ho7 := ho5.kept hm7.2 (fun q hq e => by have := ho5.ge q hq; simp at e; omega)
        have hm8 := hm6.trans hm7
        have hms8 := hm8.size
        clear ho5 hx5 hm6 hm7 y1 y2
        go_wp2_with (at_builtin; refine wpList_append1 elI64 rfl _ _ rfl ho7 rfl rfl rfl (by omega) hms8 ?_; intro v' w9 hown9 hkept hmv)
        go_ret
        exact ⟨_, xs ++ [y], rfl, by rw [List.length_append, List.map_append]; exact hown9, by simp; omega, ⟨hm8.1.kept hkept (fun b hb => by have := ho7.ge b hb; omega), kept_app hm8.2 hkept (fun b hb => ho7.ge b hb)⟩⟩
    go_wp2_with fail
    refine (l1Once_any (n := 2) hm.1 hl (by omega)).mono ?_
    rintro e w5 ⟨b, rfl, hm5⟩
    have ho5 := ho.kept hm5.2 (fun q hq e => by have := ho.ge q hq; simp at e; omega)
    have hx5 := own1_kept hx hm5.2 (by simp; omega)
    have hm6 := hm.trans hm5
    have hms6 := hm6.size
    clear ho hx hm hm5 x1 x2
    cases b with
    | false =>
      go_wp2
      go_roundw
      case rel => exact ⟨k + 1, xs, by omega, by go_num, ho5, by omega, hm6, hx5⟩
      case measure => simp [intOf]; omega
    | true =>
      go_wp2_with (at_builtin; refine wpList_append1 elI64 rfl _ _ rfl ho5 rfl rfl rfl (by omega) hms6 ?_; intro v' w9 hown9 hkept hmv)
      have hx9 := own1_kept hx5 hkept (fun e => own_type ho5 hx5 (by decide) _ e rfl)
      go_roundw
      case rel => exact ⟨k + 1, xs ++ [(k : Int)], by omega, by go_num, by rw [List.length_append, List.map_append]; exact hown9, by simp; omega, ⟨hm6.1.kept hkept (fun b hb => by have := ho5.ge b hb; omega), kept_app hm6.2 hkept (fun b hb => ho5.ge b hb)⟩, hx9⟩
      case measure => simp [intOf]; omega
end Go.Proofs.Ytplohdnakllbiaa
