/- The law of MirrorOf is proved: for all graphs and rotation systems the program's MirrorOf answers what the reference's answers, and the arguments read as before.. -/
import Derived.Test.YtbpjbjeglcphcaaRead
import Derived.Test.YtbpjbjeglcphcaaMir6
namespace Go.Proofs.Ytbpjbjeglcphcaa
open Go.RowKit Go.WideShapes Go.ChangeShapes Go.Deep
theorem cellsLAround : Try.prog.cellsOf 26 = 1 := by kernel_rfl
set_option maxRecDepth 100000 in
theorem read_around {H : Type} {enc : TypeId × Value → H} {W : World} {base : Nat} {v : Value} {d : DataW H} {p : List MemPlace} (hok : Value.okWide Try.prog W .any base 26 v)
    (h : DataW.Trod enc Try.prog W 0 (fun _ => true) true 26 v d p) : ∃ u g, v = .agg #[u] ∧ SlR (fun _ => True) W u g := by
  obtain ⟨cs, rfl, hsz⟩ := okWide_struct Try.underlying26 hok
  rw [cellsLAround] at hsz
  obtain ⟨c, rfl⟩ : ∃ c, cs = #[c] := by
    obtain ⟨l⟩ := cs
    match l, hsz with
    | [c], _ => exact ⟨c, rfl⟩
  obtain ⟨fuel, hf⟩ := h
  obtain ⟨y0, n, _, _, h0⟩ := trod_struct1 Try.underlying26 hf
  simp only [Value.cells, List.drop_zero, cellsRows] at h0
  obtain ⟨u, g, hu, hg⟩ := read_rows h0
  have : c = u := by simpa using hu
  subst this
  exact ⟨c, g, rfl, hg⟩
end Go.Proofs.Ytbpjbjeglcphcaa
namespace Go.Proofs.Ytbpjbjeglcphcaa.fnExactMirrorOf
open Go.ChangeShapes Go.WideShapes Go.ChangeAt Go.RowKit
set_option maxRecDepth 100000 in
theorem contract (H : Type) (enc : TypeId × Value → H) (W : World) (base : Nat) (args : Array Value) (ds gs : List (DataW H)) (before : List MemPlace)
    (hval : ∀ (j : Nat) t v, Try.f6.params[j]? = some t → args[j]? = some v → Value.okWide Try.prog W .any base t v)
    (hW : DataW.Whole enc Try.prog Try.f6.params.toList Rows.fnExactMirrorOfSpec.vars false W args.toList ds gs before)  :
    Calls Try.prog 6 args W fun e W' => ∃ v, e = .returned v ∧ Rows.fnExactMirrorOfSpec.post enc Try.prog Try.f6 false true false false W args v W' := by
  have hW' := hW
  obtain ⟨p, q, hA0, hV, rfl, hfz, hnd⟩ := hW
  have hA : DataW.TrodAll enc Try.prog W 0 (fun _ => true) true Try.f6.params.toList args.toList ds p := hA0
  rw [Try.params6] at hA hval
  obtain ⟨v0, v1, d0, d1, p0, p1, rfl, rfl, rfl, h0, h1⟩ := trodAll_two hA
  obtain ⟨rfl, rfl⟩ := trodVars_none hV
  clear hA0
  simp only [List.append_nil] at hW'
  have hlt : ∀ x ∈ p0 ++ p1, x.block < W.heap.size := fun x hx => by simpa using hW'.lt x (hx)
  obtain ⟨u0, g0, rfl, hg0⟩ := read_graph (hval 0 24 v0 rfl rfl) h0
  obtain ⟨u1, g1, rfl, hg1⟩ := read_around (hval 1 26 v1 rfl rfl) h1
  refine (lawMirrorOf_any u0 g0 u1 g1 W hg0 hg1).mono fun e W' ⟨he, hb⟩ => ?_
  subst he
  have ha0 := Below.trod laidOutG (by kernel_rfl) (of_decide_eq_true (by kernel_rfl)) h0 hb (fun x hx => hlt x (List.mem_append_left _ hx))
  have ha1 := Below.trod laidOutG (by kernel_rfl) (of_decide_eq_true (by kernel_rfl)) h1 hb (fun x hx => hlt x (List.mem_append_right _ hx))
  refine ⟨_, rfl, _, _, _, [], p0 ++ p1, [], hW', trodAll_mk1 (shut_bool Try.underlying4 _), trodAll_mk2 ha0 ha1, rfl, hb.frame _, fun h => by cases h⟩

set_option maxRecDepth 100000 in
theorem lifted (os : Os) (started : os.Started) (H : Type) (enc : TypeId × Value → H) :
    ReturnsInHanded {} Try.checked os 6 .any (Rows.fnExactMirrorOfSpec.pre6 enc Try.prog Try.f6 Rows.fnExactMirrorOfRow.domain false) (Rows.fnExactMirrorOfSpec.post enc Try.prog Try.f6 false true false false) := by
  refine returnsInHanded_of_change (C := Try.checked) ownG started (by kernel_rfl) Try.func6
    (ChangeSpec.witness6 (enc := enc) (C := Try.checked) false ⟨#[], #[.agg #[.slice none 0 0], .agg #[.slice none 0 0]], []⟩ 8 (by kernel_rfl) (by kernel_rfl) (by kernel_rfl) (by kernel_rfl)) ?_
  intro W base args ds gs before hval hW _ _
  exact contract H enc W base args ds gs before hval hW

/- The row's closed facts, one lemma each: the kernel gives its memory back behind each. -/
theorem s_named : Try.pinned.checked.prog.funcNamed Rows.fnExactMirrorOfRow.func = some 6 := by kernel_rfl
set_option maxRecDepth 100000 in
set_option maxHeartbeats 4000000 in
theorem s_facts : joinedFacts Try.pinned.checked.prog 6 Try.f6 Rows.fnExactMirrorOfSpec Rows.fnExactMirrorOfRow = true := by
  unfold joinedFacts
  repeat' (with_reducible refine Bool.and_eq_true_iff.2 ⟨?_, ?_⟩)
  all_goals (as_aux_lemma => kernel_rfl)
theorem s_inst : Try.f6.isInstance Try.pinned.checked.prog Rows.fnExactMirrorOfRow.origin Rows.fnExactMirrorOfRow.targs := of_decide_eq_true (by kernel_rfl)
theorem s_wrap : Try.f6.isWrapper Try.pinned.checked.prog Rows.fnExactMirrorOfRow.wrapper Rows.fnExactMirrorOfRow.mainSum := by unfold Func.isWrapper; first | (rw [if_pos (by decide +kernel)]; kernel_rfl) | (rw [if_neg (by decide +kernel)]; exact ⟨rfl, rfl⟩)
theorem said : Rows.FnExactMirrorOfSaid :=
  OpenClaim.holds_of_wide 6 Try.f6 rfl rfl rfl rfl rfl rfl rfl ⟨rfl, rfl, rfl, rfl, rfl⟩ rfl rfl rfl rfl rfl s_named Try.func6 s_facts s_inst s_wrap
    (fun os started H enc _ => lifted os started H enc)
end Go.Proofs.Ytbpjbjeglcphcaa.fnExactMirrorOf
