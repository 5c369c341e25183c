/- FacesOf of the program. -/
import Derived.Test.YtkgnobiihmljfaaFac
import Derived.Test.YtkgnobiihmljfaaAro
namespace Go.Proofs.Ytkgnobiihmljfaa
open Go.RowKit
/-- A right rotation system, by its numbers. -/
def tOf (r : List (List Int)) : List (List Nat) := r.map fun l => l.map Int.toNat
theorem tOf_len (r : List (List Int)) : (tOf r).length = r.length := by simp [tOf]
theorem tOf_get (r : List (List Int)) (u : Nat) : (tOf r).getD u [] = (r.getD u []).map Int.toNat := by
  unfold tOf
  by_cases h : u < r.length
  · simp [h]
  · simp [h]
theorem turn_perm {row t : List Int} (h : TurnOk row t) : t.Nodup ∧ ∀ x, x ∈ t ↔ x ∈ row := by
  have hn : t.Nodup := nodup_takeA.2 fun i hi => (h.all i hi).2
  have h3 : ∀ x ∈ t, x ∈ row := fun x hx => by
    obtain ⟨i, hi, rfl⟩ := List.getElem_of_mem hx
    have := (h.all i hi).1
    simpa [hi] using this
  refine ⟨hn, fun x => ⟨h3 x, fun hx => Classical.byContradiction fun hno => ?_⟩⟩
  have := nodup_lenA (l := t) (E := row.erase x) hn (fun y hy => by
    rw [List.mem_erase_of_ne (fun e => hno (by rw [← e]; exact hy))]
    exact h3 y hy)
  rw [List.length_erase_of_mem hx] at this
  have := List.length_pos_of_mem hx
  have := h.len
  omega
theorem aro_row {g r : List (List Int)} (h : AroundP g r) (u : Nat) : ∀ x, x ∈ r.getD u [] ↔ x ∈ g.getD u [] := fun x => by
  by_cases hu : u < g.length
  · exact (turn_perm (h.turn u hu)).2 x
  · have e1 : g.getD u [] = [] := by simp [show g.length ≤ u by omega]
    have e2 : r.getD u [] = [] := by have := h.len; simp [show r.length ≤ u by omega]
    rw [e1, e2]
theorem aro_ge {g r : List (List Int)} (h : AroundP g r) {u : Nat} {x : Int} (hx : x ∈ r.getD u []) : 0 ≤ x ∧ x < g.length ∧ u < g.length := by
  have h1 := (aro_row h u x).1 hx
  have hu : u < g.length := by
    apply Classical.byContradiction
    intro hu
    have e1 : g.getD u [] = [] := by simp [show g.length ≤ u by omega]
    rw [e1] at h1; cases h1
  have e : g.getD u [] = g[u] := by simp [hu]
  rw [e] at h1
  have := h.gok.ge hu x h1
  exact ⟨this.1, this.2, hu⟩
theorem aro_mem {g r : List (List Int)} (h : AroundP g r) (u v : Nat) : v ∈ (tOf r).getD u [] ↔ (v : Int) ∈ g.getD u [] := by
  rw [tOf_get, List.mem_map]
  constructor
  · rintro ⟨x, hx, rfl⟩
    have := aro_ge h hx
    rw [Int.toNat_of_nonneg this.1]
    exact (aro_row h u x).1 hx
  · intro hv
    exact ⟨(v : Int), (aro_row h u _).2 hv, by simp⟩
theorem aro_eq {g r : List (List Int)} (h : AroundP g r) : r = (tOf r).map natsI := by
  apply List.ext_getElem (by simp [tOf])
  intro i h1 h2
  simp only [tOf, List.getElem_map]
  have e : r.getD i [] = r[i] := by simp [h1]
  unfold natsI
  rw [List.map_map]
  have hid : List.map ((fun n : Nat => (n : Int)) ∘ Int.toNat) r[i] = List.map id r[i] := List.map_congr_left fun x hx => by
    have := aro_ge h (u := i) (by rw [e]; exact hx)
    simp; omega
  rw [hid, List.map_id]
theorem aro_symm {g : List (List Int)} (hg : GOk g) {u v : Nat} (h : (v : Int) ∈ g.getD u []) : v < g.length ∧ (u : Int) ∈ g.getD v [] := by
  have hu : u < g.length := by
    apply Classical.byContradiction
    intro hu
    have e1 : g.getD u [] = [] := by simp [show g.length ≤ u by omega]
    rw [e1] at h; cases h
  have e : g.getD u [] = g[u] := by simp [hu]
  rw [e] at h
  have h1 := hg.ge hu _ h
  have h2 := hg.symm u hu _ h
  exact ⟨by omega, by simpa using h2⟩
theorem aro_rot {g r : List (List Int)} (h : AroundP g r) : RotN (tOf r) := by
  refine ⟨by rw [tOf_len, h.len]; exact h.gok.hi, fun u => ?_, fun u v hv => ?_⟩
  · rw [tOf_get]
    by_cases hu : u < g.length
    · have hn := (turn_perm (h.turn u hu)).1
      rw [List.Nodup, List.pairwise_map]
      refine List.Pairwise.imp_of_mem ?_ hn
      intro a b ha hb hab e
      have h1 := aro_ge h ha
      have h2 := aro_ge h hb
      omega
    · have e2 : r.getD u [] = [] := by have := h.len; simp [show r.length ≤ u by omega]
      rw [e2]; simp
  · have h1 := (aro_mem h u v).1 hv
    have h2 := aro_symm h.gok h1
    exact ⟨by rw [tOf_len, h.len]; exact h2.1, (aro_mem h v u).2 h2.2⟩
noncomputable def facesF (g r : List (List Int)) : List (List Int) := if aroundB g r = true then (facesN (tOf r)).map natsI else []
theorem facesN_small {t : List (List Nat)} (h : RotN t) : (facesN t).length ≤ 256 ∧ ∀ f ∈ facesN t, f.length ≤ 256 ∧ ∀ v ∈ f, v < t.length := by
  refine ⟨?_, fun f hf => ?_⟩
  · have := facesAt_le h (u := t.length) (k := 0) (Nat.le_refl _)
    rw [dartsAt_all] at this
    exact this
  · exact (facesTo_inv h (L := dartsN t) (fun x hx => (mem_dartsN h).1 hx)).small f hf
theorem facesF_small (g r : List (List Int)) : SmallR (facesF g r) 1048576 := by
  unfold facesF
  split
  · rename_i hc
    have hr := aro_rot (around_iff.1 hc)
    obtain ⟨h1, h2⟩ := facesN_small hr
    refine ⟨by rw [List.length_map]; omega, fun i hi _ => ?_⟩
    rw [List.getElem_map, natsI_len]
    have := (h2 _ (List.getElem_mem (by simpa using hi))).1
    omega
  · exact ⟨by simp, fun i hi => by simp at hi⟩
set_option maxRecDepth 100000 in
set_option maxHeartbeats 8000000 in
theorem implFacesOf_any {S S' : Nat → Prop} {gv rv : Value} {g r : List (List Int)} {w : World} (hvg : SlR S w gv g) (hvr : SlR S' w rv r) (hs : SmallR r 1048576) :
    Calls Try.prog 20 #[.agg #[gv], .agg #[rv]] w fun e w' => ∃ u, e = .returned u ∧ OwnR w' w.heap.size w'.heap.size 37 2 u (facesF g r) ∧ Below w.heap.size w w' := by
  have hq0 : Below w.heap.size w ((w.alloc (.cells #[gv] 30)).alloc (.cells #[rv] 32)) := ((Below.refl _ _).alloc (Nat.le_refl _) _).alloc (by simp) _
  obtain ⟨ga, gc, rfl⟩ := hvg.slice
  obtain ⟨ra, rc, rfl⟩ := hvr.slice
  have hao := implAroundOk_any (hvg.below hq0 (Nat.le_refl _)) (hvr.below hq0 (Nat.le_refl _)) (fun x hx => by
    obtain ⟨i, hi, rfl⟩ := List.getElem_of_mem hx
    have := hs.2 i hi hi; omega)
  by_cases ha : aroundB g r = true
  case neg =>
    have HE := Lib.hid (show facesF g r = [] by rw [facesF, if_neg ha])
    rw [Bool.not_eq_true] at ha
    rw [ha] at hao
    clear ha
    rw [HE.out]
    go_enter Try.func20, Try.ntmps20
    go_wp2_with fail
    refine hao.mono ?_
    rintro e w1 ⟨rfl, hb1⟩
    go_wp2
    go_ret
    exact ⟨_, rfl, ⟨[], rfl, Own.nil _ _ _ _, fun b hb => by simp [Value.ownBlock] at hb, ApartL.nil, fun i hi => by simp at hi⟩, hq0.trans (hb1.mono hq0.size)⟩
  have hP := around_iff.1 ha
  have HE := Lib.hid (show facesF g r = (facesN (tOf r)).map natsI by rw [facesF, if_pos ha])
  rw [ha] at hao
  rw [HE.out]
  have HRT := Lib.hid (aro_rot hP)
  have HEQ := Lib.hid (aro_eq hP)
  clear ha hP
  go_enter Try.func20, Try.ntmps20
  go_wp2_with fail
  refine hao.mono ?_
  rintro e w1 ⟨rfl, hb1⟩
  have hq1 := hq0.trans (hb1.mono hq0.size)
  have c1 : w1.cell? ⟨w.heap.size + 1, 0, none⟩ = some (.slice ra r.length rc) := (hb1.cell (p := ⟨w.heap.size + 1, 0, none⟩) (by simp)).trans (by simp [go_sem])
  have htn := turnsOf_any (hvr.below hq1 (Nat.le_refl _)) hs
  clear hao
  go_wp2_with fail
  refine htn.mono ?_
  rintro e w2 ⟨tu, rfl, htu, hb2⟩
  clear htn
  have hq2 := hq1.trans (hb2.mono hq1.size)
  have htr := htu.rows hs
  rw [HEQ.out] at htr
  have hfa := faces_any HRT.out htr
  go_wp2_with fail
  refine hfa.mono ?_
  rintro e w3 ⟨fu, mb, rfl, hfu, hb3⟩
  clear hfa htr htu
  have hq3 := hq2.trans (hb3.mono hq2.size)
  have hsm := facesN_small HRT.out
  have hfr := hfu.rows (g := (facesN (tOf r)).map natsI) ⟨by rw [List.length_map]; omega, fun i hi _ => by
    rw [List.getElem_map, natsI_len]
    have := (hsm.2 _ (List.getElem_mem (by simpa using hi))).1
    omega⟩
  have hF256 := hsm.1
  have HSM := Lib.hid hsm.2
  generalize hFe : facesN (tOf r) = F at *
  have HFE := Lib.hid hFe
  clear hfu hsm hFe
  obtain ⟨fa, fb, foff, fcap, ff, rfl, hfl, hfa, hfc⟩ := hfr
  rw [List.length_map] at *
  have HFC := Lib.hid hfc
  have hq4 : Below w.heap.size w (w3.alloc (.cells #[] 37)) := hq3.alloc hq3.size _
  have hb34 : Below w3.heap.size w3 (w3.alloc (.cells #[] 37)) := (Below.refl _ _).alloc (Nat.le_refl _) _
  have hq3s := hq3.size
  have hR0 : OwnR (w3.alloc (.cells #[] 37)) w3.heap.size (w3.alloc (.cells #[] 37)).heap.size 37 2 (.slice (some ⟨w3.heap.size, 0, none⟩) 0 0) [] := by
    refine ⟨[], rfl, ?_, fun b hb => by simp [Value.ownBlock] at hb; simp; omega, ApartL.nil, fun i hi => by simp at hi⟩
    have := World.ownsRow_lit (base := w3.heap.size) (e := 37) (size := 1) w3 #[] 0 (by omega) (by unfold maxLen; omega) rfl
    simpa [Own] using this
  clear hfc
  go_wp2
  go_loopw [23, 7] (fun i o wr => ∃ k : Nat, k ≤ F.length ∧ i = .int .i64 k ∧ OwnR wr w3.heap.size wr.heap.size 37 2 o ((F.take k).map natsI) ∧ Below w3.heap.size w3 wr) (fun i _ _ => F.length - (intOf i).toNat)
  case atStart => exact ⟨0, Nat.zero_le _, rfl, hR0, hb34⟩
  case round =>
    clear hR0 hq4 hb34
    obtain ⟨k, hk, rfl, hR, hq⟩ := hrel
    obtain ⟨wi, rfl⟩ : ∃ wx : World, wx = wr := ⟨_, rfl⟩
    by_cases hlt : k < F.length
    case neg =>
      obtain rfl : k = F.length := by omega
      rw [List.take_length] at hR
      go_wp2
      go_ret
      exact ⟨_, rfl, by rw [HFE.out]; exact hR.weaken hq3s (Nat.le_refl _), hq3.trans (hq.mono hq3s)⟩
    obtain ⟨k2, r2⟩ := HFC.out k (by rw [List.length_map]; exact hlt)
    rw [List.getElem_map] at r2
    have hk20 := (HSM.out _ (List.getElem_mem hlt)).1
    have k2 := (hq.cell (cell_lt k2)).trans k2
    have hwd := wide_any (r2.below hq (Nat.le_refl _)) (by rw [natsI_len]; omega)
    have HT := Lib.hid (show (F.take (k + 1)).map natsI = (F.take k).map natsI ++ [natsI F[k]] by rw [List.take_succ_eq_append_getElem hlt, List.map_append]; rfl)
    obtain ⟨rfl, -⟩ := hfa (by omega)
    have hB := hq.size
    have hlti : (k : Int) < F.length := by omega
    generalize F[k] = row at *
    generalize ff k = rk at *
    clear r2
    go_wp2_with fail
    refine hwd.mono ?_
    rintro e w4 ⟨u2, rfl, hu2, hb4⟩
    clear hwd
    have hq4 := hq.trans (hb4.mono hB)
    have hB4 := hq4.size
    obtain ⟨vs, hvl, hown, hbC, hap, hrows⟩ := hR
    rw [List.length_map, List.length_take, Nat.min_eq_left hk] at hvl hown
    have hown2 := hown.below hb4 (Nat.le_refl _)
    have hrows2 : ∀ i (h : i < ((F.take k).map natsI).length) (h2 : i < vs.length), Own w4 w3.heap.size 2 1 vs[i] ((F.take k).map natsI)[i].length (((F.take k).map natsI)[i].map (.int .i64)) ∧ (∀ b, vs[i].ownBlock = some b → b < wi.heap.size ∧ _) := fun i h h2 => ⟨(hrows i h h2).1.below hb4 (Nat.le_refl _), (hrows i h h2).2⟩
    have hgeu := fun b hb => (hu2.lt b hb).1
    have hu2 := hu2.weak (B' := w3.heap.size) (by omega)
    have hbs2 := hb4.size
    obtain ⟨ua, uc, rfl⟩ := hu2.isSlice
    obtain ⟨oa, oc, rfl⟩ := hown2.isSlice
    clear hrows hown
    go_wp2_with (at_builtin; refine wpList_append1 elRows rfl _ _ rfl hown2 rfl (by first | rfl | simp) rfl (by omega) (by omega) ?_; intro o5 w5 hown5 hkept hmv)
    have hR5 : OwnR w5 w3.heap.size w5.heap.size 37 2 o5 ((F.take k).map natsI ++ [natsI row]) := ownR_snoc (by rw [List.length_map, List.length_take, Nat.min_eq_left hk]; exact hvl) hbs2 hap hrows2 hbC (by rw [List.length_map, List.length_take, Nat.min_eq_left hk]; exact hown5) hu2 hgeu hkept (by
      rcases hmv with h | h
      · exact .inl h
      · exact .inr ⟨_, h, by simp⟩)
    have hq5 : Below w3.heap.size w3 w5 := hkept.below hq4 hq4.size (fun c h => (hown2.lt c h).1)
    go_roundw
    case rel => exact ⟨k + 1, by omega, by go_num, by rw [HT.out]; exact hR5, hq5⟩
    case measure => simp [intOf]; omega
end Go.Proofs.Ytkgnobiihmljfaa
