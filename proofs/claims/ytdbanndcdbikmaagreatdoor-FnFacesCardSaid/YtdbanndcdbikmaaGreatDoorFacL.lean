/- Faces of a rotation system turned over: plain facts for the law of faces. -/
import Derived.Test.YtdbanndcdbikmaaGreatDoorGenD
import Derived.Test.YtdbanndcdbikmaaGreatDoorPlan
import Derived.Test.YtdbanndcdbikmaaGreatDoorMir6
namespace Go.Proofs.YtdbanndcdbikmaaGreatDoor
open Go.RowKit
theorem tOf_nats (t : List (List Nat)) : tOf (t.map natsI) = t := by
  unfold tOf natsI
  rw [List.map_map]
  conv => rhs; rw [← List.map_id t]
  refine List.map_congr_left fun l _ => ?_
  simp only [Function.comp_def, List.map_map, id]
  conv => rhs; rw [← List.map_id l]
  exact List.map_congr_left fun x _ => by simp
/-- A row that is right begins with its least one. -/
theorem turn_least {row : List Int} (hs : row.Pairwise (· < ·)) {a : Nat} {l : List Nat} (h : TurnOk row (natsI (a :: l))) : ∀ x ∈ l, a ≤ x := fun x hx => by
  have hf := h.first (by simp [natsI])
  have hm := (turn_perm h).2
  have e : (natsI (a :: l)).getD 0 0 = (a : Int) := rfl
  rw [e] at hf
  have hxr : (x : Int) ∈ row := (hm x).1 (by unfold natsI; exact List.mem_map.2 ⟨x, by simp [hx], rfl⟩)
  match row, hs, hf, hxr with
  | y :: row, hs, hf, hxr =>
    have e2 : (y :: row).getD 0 0 = y := rfl
    rw [e2] at hf
    rcases List.mem_cons.1 hxr with h1 | h1
    · omega
    · have := (List.pairwise_cons.1 hs).1 x h1
      omega
theorem turn_mir {row : List Int} (hs : row.Pairwise (· < ·)) {l : List Nat} (h : TurnOk row (natsI l)) : TurnOk row (natsI (rotL l.reverse)) := by
  have hp : (rotL l.reverse).Perm l := (rotL_perm _).trans (List.reverse_perm _)
  obtain ⟨hn, hm⟩ := turn_perm h
  have hp2 : (natsI (rotL l.reverse)).Perm (natsI l) := hp.map _
  have hn2 : (natsI (rotL l.reverse)).Nodup := hp2.nodup_iff.2 hn
  refine ⟨by rw [hp2.length_eq]; exact h.len, fun h0 => ?_, fun k hk => ⟨?_, nodup_takeA.1 hn2 k hk⟩⟩
  · match l, h, hp with
    | [], _, _ => simp [rotL_nil, natsI] at h0
    | a :: l, h, hp =>
      obtain ⟨c, hc, hcl⟩ := rotL_head (l := (a :: l).reverse) (by simp)
      have hf := h.first (by simp [natsI])
      rw [hc, ← hf]
      have h1 := turn_least hs h
      have h2 : leastN (a :: l).reverse ∈ a :: l := List.mem_reverse.1 (least_mem (by simp))
      have h3 : a ∈ rotL (a :: l).reverse := hp.mem_iff.2 (by simp)
      rw [hc] at h3
      have h4 : leastN (a :: l).reverse ≤ a := by
        rcases List.mem_cons.1 h3 with e | e
        · omega
        · exact hcl a e
      have h5 : a ≤ leastN (a :: l).reverse := by
        rcases List.mem_cons.1 h2 with e | e
        · omega
        · exact h1 _ e
      show ((leastN (a :: l).reverse : Nat) : Int) = (a : Int)
      omega
  · have e : (natsI (rotL l.reverse)).getD k 0 = (natsI (rotL l.reverse))[k] := by simp [hk]
    rw [e]
    exact (hm _).1 (hp2.mem_iff.1 (List.getElem_mem hk))
theorem aro_turn {g r : List (List Int)} (h : AroundP g r) {v : Nat} (hv : v < g.length) : (g.getD v []).Pairwise (· < ·) ∧ TurnOk (g.getD v []) (natsI ((tOf r).getD v [])) := by
  have e : g.getD v [] = g[v] := by simp [hv]
  refine ⟨by rw [e]; exact rise_pw (h.gok.rise v hv), ?_⟩
  have h1 := h.turn v hv
  have e2 : r.getD v [] = natsI ((tOf r).getD v []) := by
    conv => lhs; rw [aro_eq h]
    rw [List.getD_eq_getElem?_getD, List.getElem?_map, List.getD_eq_getElem?_getD]
    cases (tOf r)[v]? <;> rfl
  rw [← e2]; exact h1
/-- What the law asks. -/
structure FaceF (g r : List (List Int)) : Prop where
  am : AroundP g (mirF g r)
  fl : (facesF g (mirF g r)).length = (facesF g r).length
  pl : planB g (mirF g r) = planB g r
  bk : mirF g (mirF g r) = r
  sd : ((facesF g r).map List.length).sum = 2 * (edgesL g).length
theorem faceF_of {g r : List (List Int)} (h : AroundP g r) : FaceF g r := by
  have hr := aro_rot h
  have ha := around_true h
  have e1 : mirF g r = (mirN (tOf r)).map natsI := by unfold mirF; rw [if_pos ha]
  have e2 : tOf (mirF g r) = mirN (tOf r) := by rw [e1, tOf_nats]
  have hl : (mirF g r).length = g.length := by rw [e1, List.length_map, mirN_len, tOf_len, h.len]
  have hm : AroundP g (mirF g r) := by
    refine ⟨h.gok, hl, fun v hv => ?_⟩
    obtain ⟨h1, h2⟩ := aro_turn h hv
    have e3 : (mirF g r).getD v [] = natsI (rotL ((tOf r).getD v []).reverse) := by
      rw [e1, ← mirN_get, List.getD_eq_getElem?_getD, List.getElem?_map, List.getD_eq_getElem?_getD]
      cases (mirN (tOf r))[v]? <;> rfl
    rw [e3]
    exact turn_mir h1 h2
  have hm' := around_true hm
  refine ⟨hm, ?_, ?_, ?_, ?_⟩
  · unfold facesF
    rw [if_pos ha, if_pos hm', List.length_map, List.length_map, e2, mirN_faces hr]
  · unfold planB
    rw [ha, hm', e2]
    have h1 := edges_sides h
    have h2 := edges_sides hm
    rw [e2] at h2
    have h3 := aro_next h
    have h4 := aro_next hm
    rw [e2] at h4
    unfold twiceI
    rw [mirN_faces hr, mirN_len, ← h4, ← h3, h1, h2]
  · have e4 : mirF g (mirF g r) = (mirN (mirN (tOf r))).map natsI := by
      rw [show mirF g (mirF g r) = if aroundB g (mirF g r) then (mirN (tOf (mirF g r))).map natsI else [] from rfl, if_pos hm', e2]
    rw [e4]
    conv => rhs; rw [aro_eq h]
    congr 1
    unfold mirN
    rw [List.map_map]
    conv => rhs; rw [← List.map_id (tOf r)]
    refine List.map_congr_left fun l hlm => ?_
    obtain ⟨v, hv, rfl⟩ := List.getElem_of_mem hlm
    have hvg : v < g.length := by rw [tOf_len, h.len] at hv; exact hv
    obtain ⟨h1, h2⟩ := aro_turn h hvg
    have e5 : (tOf r).getD v [] = (tOf r)[v] := by simp [hv]
    rw [e5] at h2
    have hnd := hr.nd v
    rw [e5] at hnd
    show rotL (rotL ((tOf r)[v]).reverse).reverse = (tOf r)[v]
    revert h2 hnd
    generalize (tOf r)[v] = l
    intro h2 hnd
    match l, h2, hnd with
    | [], _, _ => rfl
    | a :: l, h2, hnd => exact mir_back hnd (turn_least h1 h2)
  · unfold facesF
    rw [if_pos ha, List.map_map]
    have : (List.length ∘ natsI) = (List.length : List Nat → Nat) := by funext l; exact natsI_len l
    rw [this, faces_darts hr, darts_sides hr, edges_sides h]
end Go.Proofs.YtdbanndcdbikmaaGreatDoor
