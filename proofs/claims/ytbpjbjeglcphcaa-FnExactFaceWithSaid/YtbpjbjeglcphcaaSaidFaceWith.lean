/- The law of FaceWith is proved: for all graphs, rotation systems and sets the program's FaceWith answers what the reference's answers, and the arguments read as before.. -/
import Derived.Test.YtbpjbjeglcphcaaReadAround
import Derived.Test.YtbpjbjeglcphcaaFaceW
namespace Go.Proofs.Ytbpjbjeglcphcaa.fnExactFaceWith
open Go.ChangeShapes Go.WideShapes Go.ChangeAt Go.RowKit
set_option maxRecDepth 100000 in
theorem contract (H : Type) (enc : TypeId × Value → H) (W : World) (base : Nat) (args : Array Value) (ds gs : List (DataW H)) (before : List MemPlace)
    (hval : ∀ (j : Nat) t v, Try.f4.params[j]? = some t → args[j]? = some v → Value.okWide Try.prog W .any base t v)
    (hW : DataW.Whole enc Try.prog Try.f4.params.toList Rows.fnExactFaceWithSpec.vars false W args.toList ds gs before)  :
    Calls Try.prog 4 args W fun e W' => ∃ v, e = .returned v ∧ Rows.fnExactFaceWithSpec.post enc Try.prog Try.f4 false true false false W args v W' := by
  have hW' := hW
  obtain ⟨p, q, hA0, hV, rfl, hfz, hnd⟩ := hW
  have hA : DataW.TrodAll enc Try.prog W 0 (fun _ => true) true Try.f4.params.toList args.toList ds p := hA0
  rw [Try.params4] at hA hval
  obtain ⟨v0, v1, v2, d0, d1, d2, p0, p1, p2, rfl, rfl, rfl, h0, h1, h2⟩ := trodAll_three hA
  obtain ⟨rfl, rfl⟩ := trodVars_none hV
  clear hA0
  simp only [List.append_nil] at hW'
  have hlt : ∀ x ∈ p0 ++ (p1 ++ p2), x.block < W.heap.size := fun x hx => by simpa using hW'.lt x (by simpa using hx)
  obtain ⟨u0, g0, rfl, hg0⟩ := read_graph (hval 0 24 v0 rfl rfl) h0
  obtain ⟨u1, g1, rfl, hg1⟩ := read_around (hval 1 26 v1 rfl rfl) h1
  obtain ⟨g2, hg2⟩ := read_ints (hval 2 37 v2 rfl rfl) h2
  refine (lawFaceWith_any u0 g0 u1 g1 v2 g2 W hg0 hg1 hg2).mono fun e W' ⟨he, hb⟩ => ?_
  subst he
  have ha0 := Below.trod laidOutG (by kernel_rfl) (of_decide_eq_true (by kernel_rfl)) h0 hb (fun x hx => hlt x (List.mem_append_left _ hx))
  have ha1 := Below.trod laidOutG (by kernel_rfl) (of_decide_eq_true (by kernel_rfl)) h1 hb (fun x hx => hlt x (List.mem_append_right _ (List.mem_append_left _ hx)))
  have ha2 := Below.trod laidOutG (by kernel_rfl) (of_decide_eq_true (by kernel_rfl)) h2 hb (fun x hx => hlt x (List.mem_append_right _ (List.mem_append_right _ hx)))
  refine ⟨_, rfl, _, _, _, [], p0 ++ (p1 ++ p2), [], hW', trodAll_mk1 (shut_bool Try.underlying4 _), trodAll_mk3 ha0 ha1 ha2, rfl, hb.frame _, fun h => by cases h⟩

set_option maxRecDepth 100000 in
theorem lifted (os : Os) (started : os.Started) (H : Type) (enc : TypeId × Value → H) :
    ReturnsInHanded {} Try.checked os 4 .any (Rows.fnExactFaceWithSpec.pre6 enc Try.prog Try.f4 Rows.fnExactFaceWithRow.domain false) (Rows.fnExactFaceWithSpec.post enc Try.prog Try.f4 false true false false) := by
  refine returnsInHanded_of_change (C := Try.checked) ownG started (by kernel_rfl) Try.func4
    (ChangeSpec.witness6 (enc := enc) (C := Try.checked) false ⟨#[], #[.agg #[.slice none 0 0], .agg #[.slice none 0 0], .slice none 0 0], []⟩ 8 (by kernel_rfl) (by kernel_rfl) (by kernel_rfl) (by kernel_rfl)) ?_
  intro W base args ds gs before hval hW _ _
  exact contract H enc W base args ds gs before hval hW

/- The row's closed facts, one lemma each: the kernel gives its memory back behind each. -/
theorem s_named : Try.pinned.checked.prog.funcNamed Rows.fnExactFaceWithRow.func = some 4 := by kernel_rfl
set_option maxRecDepth 100000 in
set_option maxHeartbeats 4000000 in
theorem s_facts : joinedFacts Try.pinned.checked.prog 4 Try.f4 Rows.fnExactFaceWithSpec Rows.fnExactFaceWithRow = true := by
  unfold joinedFacts
  repeat' (with_reducible refine Bool.and_eq_true_iff.2 ⟨?_, ?_⟩)
  all_goals (as_aux_lemma => kernel_rfl)
theorem s_inst : Try.f4.isInstance Try.pinned.checked.prog Rows.fnExactFaceWithRow.origin Rows.fnExactFaceWithRow.targs := of_decide_eq_true (by kernel_rfl)
theorem s_wrap : Try.f4.isWrapper Try.pinned.checked.prog Rows.fnExactFaceWithRow.wrapper Rows.fnExactFaceWithRow.mainSum := by unfold Func.isWrapper; first | (rw [if_pos (by decide +kernel)]; kernel_rfl) | (rw [if_neg (by decide +kernel)]; exact ⟨rfl, rfl⟩)
theorem said : Rows.FnExactFaceWithSaid :=
  OpenClaim.holds_of_wide 4 Try.f4 rfl rfl rfl rfl rfl rfl rfl ⟨rfl, rfl, rfl, rfl, rfl⟩ rfl rfl rfl rfl rfl s_named Try.func4 s_facts s_inst s_wrap
    (fun os started H enc _ => lifted os started H enc)
end Go.Proofs.Ytbpjbjeglcphcaa.fnExactFaceWith
