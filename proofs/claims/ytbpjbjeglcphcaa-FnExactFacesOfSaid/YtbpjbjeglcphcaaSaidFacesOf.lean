/- The law of FacesOf is proved: for all graphs and rotation systems the program's FacesOf answers what the reference's answers, and the arguments read as before.. -/
import Derived.Test.YtbpjbjeglcphcaaReadAround
import Derived.Test.YtbpjbjeglcphcaaFac2
namespace Go.Proofs.Ytbpjbjeglcphcaa.fnExactFacesOf
open Go.ChangeShapes Go.WideShapes Go.ChangeAt Go.RowKit
set_option maxRecDepth 100000 in
theorem contract (H : Type) (enc : TypeId × Value → H) (W : World) (base : Nat) (args : Array Value) (ds gs : List (DataW H)) (before : List MemPlace)
    (hval : ∀ (j : Nat) t v, Try.f5.params[j]? = some t → args[j]? = some v → Value.okWide Try.prog W .any base t v)
    (hW : DataW.Whole enc Try.prog Try.f5.params.toList Rows.fnExactFacesOfSpec.vars false W args.toList ds gs before)  :
    Calls Try.prog 5 args W fun e W' => ∃ v, e = .returned v ∧ Rows.fnExactFacesOfSpec.post enc Try.prog Try.f5 false true false false W args v W' := by
  have hW' := hW
  obtain ⟨p, q, hA0, hV, rfl, hfz, hnd⟩ := hW
  have hA : DataW.TrodAll enc Try.prog W 0 (fun _ => true) true Try.f5.params.toList args.toList ds p := hA0
  rw [Try.params5] at hA hval
  obtain ⟨v0, v1, d0, d1, p0, p1, rfl, rfl, rfl, h0, h1⟩ := trodAll_two hA
  obtain ⟨rfl, rfl⟩ := trodVars_none hV
  clear hA0
  simp only [List.append_nil] at hW'
  have hlt : ∀ x ∈ p0 ++ p1, x.block < W.heap.size := fun x hx => by simpa using hW'.lt x (hx)
  obtain ⟨u0, g0, rfl, hg0⟩ := read_graph (hval 0 24 v0 rfl rfl) h0
  obtain ⟨u1, g1, rfl, hg1⟩ := read_around (hval 1 26 v1 rfl rfl) h1
  refine (lawFacesOf_any u0 g0 u1 g1 W hg0 hg1).mono fun e W' ⟨he, hb⟩ => ?_
  subst he
  have ha0 := Below.trod laidOutG (by kernel_rfl) (of_decide_eq_true (by kernel_rfl)) h0 hb (fun x hx => hlt x (List.mem_append_left _ hx))
  have ha1 := Below.trod laidOutG (by kernel_rfl) (of_decide_eq_true (by kernel_rfl)) h1 hb (fun x hx => hlt x (List.mem_append_right _ hx))
  refine ⟨_, rfl, _, _, _, [], p0 ++ p1, [], hW', trodAll_mk1 (shut_bool Try.underlying4 _), trodAll_mk2 ha0 ha1, rfl, hb.frame _, fun h => by cases h⟩

set_option maxRecDepth 100000 in
theorem lifted (os : Os) (started : os.Started) (H : Type) (enc : TypeId × Value → H) :
    ReturnsInHanded {} Try.checked os 5 .any (Rows.fnExactFacesOfSpec.pre6 enc Try.prog Try.f5 Rows.fnExactFacesOfRow.domain false) (Rows.fnExactFacesOfSpec.post enc Try.prog Try.f5 false true false false) := by
  refine returnsInHanded_of_change (C := Try.checked) ownG started (by kernel_rfl) Try.func5
    (ChangeSpec.witness6 (enc := enc) (C := Try.checked) false ⟨#[], #[.agg #[.slice none 0 0], .agg #[.slice none 0 0]], []⟩ 8 (by kernel_rfl) (by kernel_rfl) (by kernel_rfl) (by kernel_rfl)) ?_
  intro W base args ds gs before hval hW _ _
  exact contract H enc W base args ds gs before hval hW

/- The row's closed facts, one lemma each: the kernel gives its memory back behind each. -/
theorem s_named : Try.pinned.checked.prog.funcNamed Rows.fnExactFacesOfRow.func = some 5 := by kernel_rfl
set_option maxRecDepth 100000 in
set_option maxHeartbeats 4000000 in
theorem s_facts : joinedFacts Try.pinned.checked.prog 5 Try.f5 Rows.fnExactFacesOfSpec Rows.fnExactFacesOfRow = true := by
  unfold joinedFacts
  repeat' (with_reducible refine Bool.and_eq_true_iff.2 ⟨?_, ?_⟩)
  all_goals (as_aux_lemma => kernel_rfl)
theorem s_inst : Try.f5.isInstance Try.pinned.checked.prog Rows.fnExactFacesOfRow.origin Rows.fnExactFacesOfRow.targs := of_decide_eq_true (by kernel_rfl)
theorem s_wrap : Try.f5.isWrapper Try.pinned.checked.prog Rows.fnExactFacesOfRow.wrapper Rows.fnExactFacesOfRow.mainSum := by unfold Func.isWrapper; first | (rw [if_pos (by decide +kernel)]; kernel_rfl) | (rw [if_neg (by decide +kernel)]; exact ⟨rfl, rfl⟩)
theorem said : Rows.FnExactFacesOfSaid :=
  OpenClaim.holds_of_wide 5 Try.f5 rfl rfl rfl rfl rfl rfl rfl ⟨rfl, rfl, rfl, rfl, rfl⟩ rfl rfl rfl rfl rfl s_named Try.func5 s_facts s_inst s_wrap
    (fun os started H enc _ => lifted os started H enc)
end Go.Proofs.Ytbpjbjeglcphcaa.fnExactFacesOf
