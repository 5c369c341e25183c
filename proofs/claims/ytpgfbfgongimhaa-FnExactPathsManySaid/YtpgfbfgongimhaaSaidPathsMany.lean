/- The law of PathsMany is proved: for every kind the program's PathsMany answers what the reference's answers. No condition. -/
import Derived.Test.YtpgfbfgongimhaaPaths
import Derived.ProofKit
import Derived.OpenShut
import Derived.Deep.Matrix
import Derived.Deep.DeepHandedRow
import Derived.Lib.LaidTab
namespace Go.Proofs.Ytpgfbfgongimhaa
open Go.RowKit
theorem ownG : ownKnob Try.prog.godebug = none := by kernel_rfl
theorem laidOutG : laidOutB Try.prog = true := by kernel_rfl
theorem lawPathsMany_any (z0 : Int) (w : World) (hv0 : -9223372036854775808 ≤ z0 ∧ z0 ≤ 9223372036854775807) :
    Calls Try.prog 3 #[.int .i64 z0] w fun e w' => e = .returned (.bool true) ∧ Below w.heap.size w w' := by
  go_enter Try.func3, Try.ntmps3
  go_wp2_with fail
  refine (pathsMany_spec _ _).mono ?_
  rintro e w1 ⟨rfl, hb1⟩
  go_wp2_with fail
  refine (pathsMany_impl _ _).mono ?_
  rintro e w2 ⟨rfl, hb2⟩
  have q := hb1.trans (hb2.mono hb1.size)
  have hne : (((rowsP (side1 z0) (side2 z0) (side1 z0) : Nat) : Int) != ((rowsP (side1 z0) (side2 z0) (side1 z0) : Nat) : Int)) = false := by simp
  go_wp2
  go_ret
  exact ⟨rfl, q⟩
end Go.Proofs.Ytpgfbfgongimhaa
namespace Go.Proofs.Ytpgfbfgongimhaa.fnExactPathsMany
open Go.ChangeShapes Go.WideShapes Go.ChangeAt Go.RowKit Go.Deep
theorem contract (H : Type) (enc : TypeId × Value → H) (W : World) (base : Nat) (args : Array Value) (ds gs : List (DataW H)) (before : List MemPlace)
    (hval : ∀ (j : Nat) t v, Try.f3.params[j]? = some t → args[j]? = some v → Value.okWide Try.prog W .any base t v)
    (hW : DataW.Whole enc Try.prog Try.f3.params.toList Rows.fnExactPathsManySpec.vars false W args.toList ds gs before)  :
    Calls Try.prog 3 args W fun e W' => ∃ v, e = .returned v ∧ Rows.fnExactPathsManySpec.post enc Try.prog Try.f3 false true false false W args v W' := by
  have hW' := hW
  obtain ⟨p, q, hA0, hV, rfl, hfz, hnd⟩ := hW
  have hA : DataW.TrodAll enc Try.prog W 0 (fun _ => true) true Try.f3.params.toList args.toList ds p := hA0
  rw [Try.params3] at hA hval
  obtain ⟨v0, d0, rfl, rfl, h0⟩ := trodAll_one hA
  obtain ⟨rfl, rfl⟩ := trodVars_none hV
  clear hA0
  simp only [List.append_nil] at hW'
  have hlt : ∀ x ∈ p, x.block < W.heap.size := fun x hx => by simpa using hW'.lt x hx
  have h0k := h0
  obtain ⟨z0, rfl, rfl, rfl, wz0⟩ := open_int Try.underlying2 (hval 0 2 v0 rfl rfl) h0
  refine (lawPathsMany_any z0 W (bounds_i64 wz0)).mono fun e W' ⟨he, hb⟩ => ?_
  subst he

  refine ⟨_, rfl, _, _, _, [], [], [], hW', trodAll_mk1 (shut_bool Try.underlying4 _), trodAll_mk1 (shut_int Try.underlying2 wz0), rfl, hb.frame _, fun h => by cases h⟩

set_option maxRecDepth 100000 in
theorem lifted (os : Os) (started : os.Started) (H : Type) (enc : TypeId × Value → H) :
    ReturnsInHanded {} Try.checked os 3 .any (Rows.fnExactPathsManySpec.pre6 enc Try.prog Try.f3 Rows.fnExactPathsManyRow.domain false) (Rows.fnExactPathsManySpec.post enc Try.prog Try.f3 false true false false) := by
  refine returnsInHanded_of_change (C := Try.checked) ownG started (by kernel_rfl) Try.func3
    (ChangeSpec.witness6 (enc := enc) (C := Try.checked) false ⟨#[], #[.int .i64 0], []⟩ 8 (by kernel_rfl) (by kernel_rfl) (by kernel_rfl) (by kernel_rfl)) ?_
  intro W base args ds gs before hval hW _ _
  exact contract H enc W base args ds gs before hval hW

theorem said : Rows.FnExactPathsManySaid :=
  OpenClaim.holds_of_wide 3 Try.f3 rfl rfl rfl rfl rfl rfl rfl ⟨rfl, rfl, rfl, rfl, rfl⟩ rfl rfl rfl rfl rfl (by kernel_rfl) Try.func3 (by kernel_rfl)
    (of_decide_eq_true (by kernel_rfl)) (by unfold Func.isWrapper; first | (rw [if_pos (by decide +kernel)]; kernel_rfl) | (rw [if_neg (by decide +kernel)]; exact ⟨rfl, rfl⟩))
    (fun os started H enc _ => lifted os started H enc)
end Go.Proofs.Ytpgfbfgongimhaa.fnExactPathsMany
